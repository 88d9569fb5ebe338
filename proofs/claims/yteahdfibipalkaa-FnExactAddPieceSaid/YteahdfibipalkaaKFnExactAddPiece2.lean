/- Texts for: FnExactAddPiece: the program's law on adding a piece returns true, whatever the input. -/
import Derived.Test.YteahdfibipalkaaKFnExactAddPiece0
import Derived.Test.YteahdfibipalkaaKFnExactAddPiece1

namespace Go.Proofs.Yteahdfibipalkaa.G
open Go.RowKit Go.Proofs.YteahdfibipalkaaW.PrintWords Go.Proofs.YteahdfibipalkaaW.PrintLast Go.Proofs.YteahdfibipalkaaW.PrintMore
attribute [local go_sem] max2_int min2_int max_two min_two max_three min_three max_four min_four   -- for this text's walks alone
set_option linter.unusedVariables false
set_option linter.unusedSimpArgs false

/-! ### laws_eqPiece: function 47 -/
set_option maxHeartbeats 8000000 in
set_option maxRecDepth 100000 in
theorem laws_eqPiece.calls (a0_0 : Int) (a0_1 : ByteArray) (a1_0 : Int) (a1_1 : ByteArray) (r : Bool) (w : World) (h : laws_eqPiece.f a0_0 a0_1 a1_0 a1_1 = some r) :
  Calls Try.prog 47 #[.agg #[.int .i64 a0_0, .string a0_1], .agg #[.int .i64 a1_0, .string a1_1]] w fun e w' => e = .returned (.bool r) ∧ Below w.heap.size w w' := by
 have hu44 := Try.underlying44
 have HB := zM (Below.refl w.heap.size w)
 have H : (if a0_0 = a1_0 then (if a0_1.toList = a1_1.toList then (some true) else (some false)) else (some false)) = some r := h
 clear h
 by_cases c3 : a0_0 = a1_0
 ·rw [if_pos c3] at H
  have c3b0 : (a0_0 == a1_0) = true := beq_iff_eq.mpr c3
  have c3b1 : (a0_0 != a1_0) = false := bne_eq_false_iff_eq.mpr c3
  clear c3
  by_cases c4 : a0_1.toList = a1_1.toList
  ·rw [if_pos c4] at H
   have c4b0 : (a0_1.toList == a1_1.toList) = true := beq_iff_eq.mpr c4
   have c4b1 : (a0_1.toList != a1_1.toList) = false := bne_eq_false_iff_eq.mpr c4
   clear c4
   obtain rfl := Option.some.inj H
   go_enter Try.func47, Try.ntmps47
   go_wp2_with (first | ((with_reducible refine gate_dst (N := 2) rfl ?_); refine box_event ?hg (N := 2) ?hd (cs := #[.int .i64 a0_0, .string a0_1]) (t := 44) ?hr ?_; (case hd => rfl); (case hg => rfl); (case hr => first | (go_simp; done) | (go_simp; rfl)); intro gb495 hg w5 hbox hb; have n0_ := zM (below_step (zB HB.out) hb); have n1_ := zM (hbox); have n2_ := zM ((by rw [hg]; exact (below_size (zB HB.out)) : w.heap.size ≤ gb495)); have n3_ := zM ((by rw [hg]; exact (below_size (zB HB.out)) : w.heap.size ≤ gb495)); clear HB; have HB := n0_; have BK495 := n1_; have GW495 := n2_; have GE495 := n3_; clear n0_ n1_ n2_ n3_; clear hb hbox hg) | ((with_reducible refine gate_dst (N := 3) rfl ?_); refine box_event ?hg (N := 3) ?hd (cs := #[.int .i64 a1_0, .string a1_1]) (t := 44) ?hr ?_; (case hd => rfl); (case hg => rfl); (case hr => first | (go_simp; done) | (go_simp; rfl)); intro gb496 hg w6 hbox hb; have n0_ := zM (blk_below (g := gb495) (o := .cells #[.int .i64 a0_0, .string a0_1] 44 (0, 0)) (zP BK495.out) hb); have n1_ := zM (below_step (zB1 GE495.out HB.out) hb); have n2_ := zM (hbox); have n3_ := zM ((by rw [hg]; exact (below_size (zB1 GE495.out HB.out)) : w.heap.size ≤ gb496)); have n4_ := zM ((by rw [hg]; exact (below_size (zB1 GE495.out HB.out)) : w.heap.size ≤ gb496)); have n5_ := zM ((by rw [hg]; exact Nat.ne_of_lt (blk_lt (g := gb495) (o := .cells #[.int .i64 a0_0, .string a0_1] 44 (0, 0)) (zP BK495.out)) : gb495 ≠ gb496)); have n6_ := zM ((by rw [hg]; exact Nat.ne_of_gt (blk_lt (g := gb495) (o := .cells #[.int .i64 a0_0, .string a0_1] 44 (0, 0)) (zP BK495.out)) : gb496 ≠ gb495)); clear BK495; clear HB; have BK495 := n0_; have HB := n1_; have BK496 := n2_; have GW496 := n3_; have GE496 := n4_; have NB495_496 := n5_; have NB496_495 := n6_; clear n0_ n1_ n2_ n3_ n4_ n5_ n6_; clear hb hbox hg; have hnb7 := NB495_496.out; have hnc7 := NB496_495.out; have hcz8_0 : w6.cell? ⟨gb495, 0, none⟩ = some (.int .i64 a0_0) := (blk_cell BK495.out 0).trans rfl; have hcz8_1 : w6.cell? ⟨gb495, 1, none⟩ = some (.string a0_1) := (blk_cell BK495.out 1).trans rfl; have hfz8_0 := blk_frozen BK495.out 0; have hfz8_1 := blk_frozen BK495.out 1; have hcz9_0 : w6.cell? ⟨gb496, 0, none⟩ = some (.int .i64 a1_0) := (blk_cell BK496.out 0).trans rfl; have hcz9_1 : w6.cell? ⟨gb496, 1, none⟩ = some (.string a1_1) := (blk_cell BK496.out 1).trans rfl; have hfz9_0 := blk_frozen BK496.out 0; have hfz9_1 := blk_frozen BK496.out 1))
   go_ret
   exact ⟨zE, (zB2 GE495.out GE496.out HB.out)⟩
  ·rw [if_neg c4] at H
   have c4b0 : (a0_1.toList == a1_1.toList) = false := beq_eq_false_iff_ne.mpr c4
   have c4b1 : (a0_1.toList != a1_1.toList) = true := bne_iff_ne.mpr c4
   obtain rfl := Option.some.inj H
   go_enter Try.func47, Try.ntmps47
   go_wp2_with (first | ((with_reducible refine gate_dst (N := 2) rfl ?_); refine box_event ?hg (N := 2) ?hd (cs := #[.int .i64 a0_0, .string a0_1]) (t := 44) ?hr ?_; (case hd => rfl); (case hg => rfl); (case hr => first | (go_simp; done) | (go_simp; rfl)); intro gb495 hg w10 hbox hb; have n0_ := zM (below_step (zB HB.out) hb); have n1_ := zM (hbox); have n2_ := zM ((by rw [hg]; exact (below_size (zB HB.out)) : w.heap.size ≤ gb495)); have n3_ := zM ((by rw [hg]; exact (below_size (zB HB.out)) : w.heap.size ≤ gb495)); clear HB; have HB := n0_; have BK495 := n1_; have GW495 := n2_; have GE495 := n3_; clear n0_ n1_ n2_ n3_; clear hb hbox hg) | ((with_reducible refine gate_dst (N := 3) rfl ?_); refine box_event ?hg (N := 3) ?hd (cs := #[.int .i64 a1_0, .string a1_1]) (t := 44) ?hr ?_; (case hd => rfl); (case hg => rfl); (case hr => first | (go_simp; done) | (go_simp; rfl)); intro gb496 hg w11 hbox hb; have n0_ := zM (blk_below (g := gb495) (o := .cells #[.int .i64 a0_0, .string a0_1] 44 (0, 0)) (zP BK495.out) hb); have n1_ := zM (below_step (zB1 GE495.out HB.out) hb); have n2_ := zM (hbox); have n3_ := zM ((by rw [hg]; exact (below_size (zB1 GE495.out HB.out)) : w.heap.size ≤ gb496)); have n4_ := zM ((by rw [hg]; exact (below_size (zB1 GE495.out HB.out)) : w.heap.size ≤ gb496)); have n5_ := zM ((by rw [hg]; exact Nat.ne_of_lt (blk_lt (g := gb495) (o := .cells #[.int .i64 a0_0, .string a0_1] 44 (0, 0)) (zP BK495.out)) : gb495 ≠ gb496)); have n6_ := zM ((by rw [hg]; exact Nat.ne_of_gt (blk_lt (g := gb495) (o := .cells #[.int .i64 a0_0, .string a0_1] 44 (0, 0)) (zP BK495.out)) : gb496 ≠ gb495)); clear BK495; clear HB; have BK495 := n0_; have HB := n1_; have BK496 := n2_; have GW496 := n3_; have GE496 := n4_; have NB495_496 := n5_; have NB496_495 := n6_; clear n0_ n1_ n2_ n3_ n4_ n5_ n6_; clear hb hbox hg; have hnb12 := NB495_496.out; have hnc12 := NB496_495.out; have hcz13_0 : w11.cell? ⟨gb495, 0, none⟩ = some (.int .i64 a0_0) := (blk_cell BK495.out 0).trans rfl; have hcz13_1 : w11.cell? ⟨gb495, 1, none⟩ = some (.string a0_1) := (blk_cell BK495.out 1).trans rfl; have hfz13_0 := blk_frozen BK495.out 0; have hfz13_1 := blk_frozen BK495.out 1; have hcz14_0 : w11.cell? ⟨gb496, 0, none⟩ = some (.int .i64 a1_0) := (blk_cell BK496.out 0).trans rfl; have hcz14_1 : w11.cell? ⟨gb496, 1, none⟩ = some (.string a1_1) := (blk_cell BK496.out 1).trans rfl; have hfz14_0 := blk_frozen BK496.out 0; have hfz14_1 := blk_frozen BK496.out 1))
   go_ret
   exact ⟨zE, (zB2 GE495.out GE496.out HB.out)⟩
 ·rw [if_neg c3] at H
  have c3b0 : (a0_0 == a1_0) = false := beq_eq_false_iff_ne.mpr c3
  have c3b1 : (a0_0 != a1_0) = true := bne_iff_ne.mpr c3
  obtain rfl := Option.some.inj H
  go_enter Try.func47, Try.ntmps47
  go_wp2_with (first | ((with_reducible refine gate_dst (N := 2) rfl ?_); refine box_event ?hg (N := 2) ?hd (cs := #[.int .i64 a0_0, .string a0_1]) (t := 44) ?hr ?_; (case hd => rfl); (case hg => rfl); (case hr => first | (go_simp; done) | (go_simp; rfl)); intro gb495 hg w15 hbox hb; have n0_ := zM (below_step (zB HB.out) hb); have n1_ := zM (hbox); have n2_ := zM ((by rw [hg]; exact (below_size (zB HB.out)) : w.heap.size ≤ gb495)); have n3_ := zM ((by rw [hg]; exact (below_size (zB HB.out)) : w.heap.size ≤ gb495)); clear HB; have HB := n0_; have BK495 := n1_; have GW495 := n2_; have GE495 := n3_; clear n0_ n1_ n2_ n3_; clear hb hbox hg) | ((with_reducible refine gate_dst (N := 3) rfl ?_); refine box_event ?hg (N := 3) ?hd (cs := #[.int .i64 a1_0, .string a1_1]) (t := 44) ?hr ?_; (case hd => rfl); (case hg => rfl); (case hr => first | (go_simp; done) | (go_simp; rfl)); intro gb496 hg w16 hbox hb; have n0_ := zM (blk_below (g := gb495) (o := .cells #[.int .i64 a0_0, .string a0_1] 44 (0, 0)) (zP BK495.out) hb); have n1_ := zM (below_step (zB1 GE495.out HB.out) hb); have n2_ := zM (hbox); have n3_ := zM ((by rw [hg]; exact (below_size (zB1 GE495.out HB.out)) : w.heap.size ≤ gb496)); have n4_ := zM ((by rw [hg]; exact (below_size (zB1 GE495.out HB.out)) : w.heap.size ≤ gb496)); have n5_ := zM ((by rw [hg]; exact Nat.ne_of_lt (blk_lt (g := gb495) (o := .cells #[.int .i64 a0_0, .string a0_1] 44 (0, 0)) (zP BK495.out)) : gb495 ≠ gb496)); have n6_ := zM ((by rw [hg]; exact Nat.ne_of_gt (blk_lt (g := gb495) (o := .cells #[.int .i64 a0_0, .string a0_1] 44 (0, 0)) (zP BK495.out)) : gb496 ≠ gb495)); clear BK495; clear HB; have BK495 := n0_; have HB := n1_; have BK496 := n2_; have GW496 := n3_; have GE496 := n4_; have NB495_496 := n5_; have NB496_495 := n6_; clear n0_ n1_ n2_ n3_ n4_ n5_ n6_; clear hb hbox hg; have hnb17 := NB495_496.out; have hnc17 := NB496_495.out; have hcz18_0 : w16.cell? ⟨gb495, 0, none⟩ = some (.int .i64 a0_0) := (blk_cell BK495.out 0).trans rfl; have hcz18_1 : w16.cell? ⟨gb495, 1, none⟩ = some (.string a0_1) := (blk_cell BK495.out 1).trans rfl; have hfz18_0 := blk_frozen BK495.out 0; have hfz18_1 := blk_frozen BK495.out 1; have hcz19_0 : w16.cell? ⟨gb496, 0, none⟩ = some (.int .i64 a1_0) := (blk_cell BK496.out 0).trans rfl; have hcz19_1 : w16.cell? ⟨gb496, 1, none⟩ = some (.string a1_1) := (blk_cell BK496.out 1).trans rfl; have hfz19_0 := blk_frozen BK496.out 0; have hfz19_1 := blk_frozen BK496.out 1))
  go_ret
  exact ⟨zE, (zB2 GE495.out GE496.out HB.out)⟩

end Go.Proofs.Yteahdfibipalkaa.G

namespace Go.Proofs.Yteahdfibipalkaa.G
open Go.RowKit Go.Proofs.YteahdfibipalkaaW.PrintWords Go.Proofs.YteahdfibipalkaaW.PrintLast Go.Proofs.YteahdfibipalkaaW.PrintMore
attribute [local go_sem] max2_int min2_int max_two min_two max_three min_three max_four min_four   -- for this text's walks alone
set_option linter.unusedVariables false
set_option linter.unusedSimpArgs false

/-! ### laws_eqPieceS: function 24 -/
def laws_eqPieceS.T6 : Bool × List (List Nat × List Nat) := (true, [([], []), ([], []), ([0, 1], [0, 1]), ([2], [2]), ([], []), ([], []), ([4, 5], [4, 5]), ([6], [6]), ([3, 7], [3, 7]), ([8], [8])])
def laws_eqPieceS.B6 : List Nat := [0, 0, 3, 7, 0, 0, 48, 112, 255, 511]
theorem laws_eqPieceS.tab6 : rtab .any (opsOf Try.f24 6) = laws_eqPieceS.T6 := by kernel_rfl
theorem laws_eqPieceS.bits6 : waitsOk laws_eqPieceS.T6.2 laws_eqPieceS.B6 = true := by kernel_rfl
set_option maxHeartbeats 8000000 in
set_option maxRecDepth 100000 in
theorem laws_eqPieceS.calls (k : Nat) (A0 : Option Addr) (c0 : Nat) (l0 : List (S44)) (A1 : Option Addr) (c1 : Nat) (l1 : List (S44)) (r : Bool) (w : World) (hr0 : Kd.C k44 w A0 l0.length l0) (hc0 : l0.length ≤ c0) (hr1 : Kd.C k44 w A1 l1.length l1) (hc1 : l1.length ≤ c1) (h : laws_eqPieceS.f k l0 l1 = some r) :
  Calls Try.prog 24 #[.slice A0 l0.length c0, .slice A1 l1.length c1] w fun e w' => e = .returned (.bool r) ∧ Below w.heap.size w w' := by
 have hu44 := Try.underlying44
 have HR0 := zM hr0
 have HC0 := zM hc0
 clear hr0 hc0
 have HR1 := zM hr1
 have HC1 := zM hc1
 clear hr1 hc1
 have HB := zM (Below.refl w.heap.size w)
 have H : (if (l0.length : Int) = (l1.length : Int) then (laws_eqPieceS.l0 k l0 l1 0) else (some false)) = some r := h
 clear h
 by_cases c3 : (l0.length : Int) = (l1.length : Int)
 ·rw [if_pos c3] at H
  have c3b0 : ((l0.length : Int) == (l1.length : Int)) = true := beq_iff_eq.mpr c3
  have c3b1 : ((l0.length : Int) != (l1.length : Int)) = false := bne_eq_false_iff_eq.mpr c3
  have c3b2 : (l0.length == l1.length) = true := by first | simpa using c3 | (simp at c3 ⊢; omega)
  clear c3
  have H' := zM H
  clear H
  go_enter Try.func24, Try.ntmps24
  go_wp2
  go_loopg [5] k (fun kq v5 w' => ∃ (x5_1 : Int), v5 = .int .i64 x5_1 ∧ Aside0 (laws_eqPieceS.l0 kq l0 l1 x5_1 = some r) ∧ Aside0 (kq ≤ k) ∧ Aside0 (Below w.heap.size w w'))
  case atStart => exact ⟨(0), zS, H', ⟨Nat.le_refl _⟩, ⟨(zB HB.out)⟩⟩
  case round =>
   clear H'
   try clear c1
   try clear c2
   try clear p2
   try clear c3
   try clear c3b0
   try clear c3b1
   try clear c3b2
   obtain ⟨x5_1, rfl, HA, HK1, HB⟩ := hrel
   cases gk with
   | zero => exact absurd HA.out (by simp [laws_eqPieceS.l0])
   | succ k1 =>
    have H := HA.out
    clear HA
    simp only [laws_eqPieceS.l0] at H
    by_cases c4 : x5_1 < (l0.length : Int)
    ·rw [if_pos c4] at H
     have c4b0 : decide (x5_1 < (l0.length : Int)) = true := decide_eq_true c4
     clear c4
     by_cases c5 : 0 ≤ x5_1
     ·rw [if_pos c5] at H
      have c5b0 : decide (0 ≤ x5_1) = true := decide_eq_true c5
      clear c5
      by_cases c6 : x5_1 < (l1.length : Int)
      ·rw [if_pos c6] at H
       have c6b0 : decide (x5_1 < (l1.length : Int)) = true := decide_eq_true c6
       clear c6
       replace H := Option.bind_eq_some_iff.mp H
       obtain ⟨t499, A70, H⟩ := H
       try dsimp only at H
       have A7 := zM A70
       clear A70
       by_cases c8 : t499 = true
       ·subst c8
        rw [if_pos rfl] at H
        have H' := zM H
        clear H
        try go_wp2
        have n0_ := zM (below_drew1 HB.out)
        clear HB
        have HB := n0_
        clear n0_
        have p497 : 0 ≤ (x5_1 : Int) := zD
        have q497 : x5_1 < (l0.length : Int) := zD
        obtain ⟨ad497, e497, hx497_0, hx497_1⟩ := at_T44 HR0.out x5_1 p497 q497
        have hw497_1 := hx497_1
        have hw497_0 := hx497_0
        cases e497
        replace hx497_0 := (HB.out.cell (World.block_lt_of_cell? w _ hx497_0)).trans hx497_0
        replace hx497_1 := (HB.out.cell (World.block_lt_of_cell? w _ hx497_1)).trans hx497_1
        replace p497 := eq_true p497
        replace q497 := eq_true q497
        have p498 : 0 ≤ (x5_1 : Int) := zD
        have q498 : x5_1 < (l1.length : Int) := zD
        obtain ⟨ad498, e498, hx498_0, hx498_1⟩ := at_T44 HR1.out x5_1 p498 q498
        have hw498_1 := hx498_1
        have hw498_0 := hx498_0
        cases e498
        replace hx498_0 := (HB.out.cell (World.block_lt_of_cell? w _ hx498_0)).trans hx498_0
        replace hx498_1 := (HB.out.cell (World.block_lt_of_cell? w _ hx498_1)).trans hx498_1
        replace p498 := eq_true p498
        replace q498 := eq_true q498
        refine start_ (n := 10) (S := fun w' => w'.cell? (ad497.add ((x5_1).toNat * 2)) = some (.int .i64 ((rd_T44 l0 x5_1).f0)) ∧ w'.cell? ⟨(ad497.add ((x5_1).toNat * 2)).block, (ad497.add ((x5_1).toNat * 2)).off + 1, none⟩ = some (.string ((rd_T44 l0 x5_1).f1)) ∧ w'.cell? (ad498.add ((x5_1).toNat * 2)) = some (.int .i64 ((rd_T44 l1 x5_1).f0)) ∧ w'.cell? ⟨(ad498.add ((x5_1).toNat * 2)).block, (ad498.add ((x5_1).toNat * 2)).off + 1, none⟩ = some (.string ((rd_T44 l1 x5_1).f1))) (ds := []) (ba 10 0).toArray (by kernel_rfl) rfl rfl ⟨((HB.out.cell (World.block_lt_of_cell? w _ hw497_0)).trans hw497_0), ((HB.out.cell (World.block_lt_of_cell? w _ hw497_1)).trans hw497_1), ((HB.out.cell (World.block_lt_of_cell? w _ hw498_0)).trans hw498_0), ((HB.out.cell (World.block_lt_of_cell? w _ hw498_1)).trans hw498_1)⟩ (fun hHeld => ?_); refine with_tabW laws_eqPieceS.tab6 laws_eqPieceS.bits6 (fun HT_ HW_ => ?_)
        generalize wr.drew = w9 at HB hx497_0 hx497_1 hx498_0 hx498_1 hHeld ⊢
        refine zq 0 (some 17) (ba 10 1).toArray HT_ ?_
        refine zq 1 (some 18) (ba 10 3).toArray HT_ ?_
        refine zq 2 (some 19) (ba 10 7).toArray HT_ ?_
        refine zq 4 (some 21) (ba 10 23).toArray HT_ ?_
        refine zq 5 (some 22) (ba 10 55).toArray HT_ ?_
        refine zq 6 (some 23) (ba 10 119).toArray HT_ ?_
        refine zt4 3 (some 20) (ba 10 127).toArray HT_ HW_ hHeld ?_
        refine zt4 7 (some 24) (ba 10 255).toArray HT_ HW_ hHeld ?_
        refine one_ (i := 8) (N := some 25) (ba 10 511).toArray rfl rfl (one_of HT_.out (by kernel_rfl)) (by decide) (fun K hK => ?_)
        refine goes_ Try.func47 (by kernel_rfl) rfl #[.agg #[.int .i64 ((rd_T44 l0 x5_1).f0), .string ((rd_T44 l0 x5_1).f1)], .agg #[.int .i64 ((rd_T44 l1 x5_1).f0), .string ((rd_T44 l1 x5_1).f1)]] (by rfl) rfl rfl (by (try simp only [List.map_toArray, List.map_cons, List.map_nil]); first | done | rfl | (simp only [List.length_drop, List.length_take]; rfl)) ?_
        with_reducible refine (laws_eqPiece.calls ((rd_T44 l0 x5_1).f0) ((rd_T44 l0 x5_1).f1) ((rd_T44 l1 x5_1).f0) ((rd_T44 l1 x5_1).f1) true _ A7.out).mono ?_
        rintro e w10 ⟨rfl, hb⟩
        refine ⟨_, rfl, ?_⟩
        have n0_ := zM (below_step (zB HB.out) hb)
        clear HB
        have HB := n0_
        clear n0_
        (try clear hb)
        (try clear hb2)
        (try clear hk)
        (try clear hi)
        refine hK.out _ _ ⟨((HB.out.cell (World.block_lt_of_cell? w _ hw497_0)).trans hw497_0), ((HB.out.cell (World.block_lt_of_cell? w _ hw497_1)).trans hw497_1), ((HB.out.cell (World.block_lt_of_cell? w _ hw498_0)).trans hw498_0), ((HB.out.cell (World.block_lt_of_cell? w _ hw498_1)).trans hw498_1)⟩ (fun hHeld => ?_)
        clear hK K
        refine norm_ (a' := ?_) ?_ ?_
        rotate_left
        ·show Act.put _ (some 25) _ = _
         simp only [Act.put, List.setIfInBounds_toArray, List.set_cons_zero, List.set_cons_succ, i64_w, i32_w]
         rfl
        refine zq 9 (some 26) (ba 10 1023).toArray HT_ ?_
        refine done_ (done_of HT_.out (by kernel_rfl)) ?_
        try go_wp2
        go_roundg k1
        case measure => have := HK1.out; omega
        case rel => exact ⟨(wrap64 (x5_1 + 1)), zS, H', ⟨by have := HK1.out; omega⟩, ⟨(zB HB.out)⟩⟩
       ·replace c8 := Bool.eq_false_iff.mpr c8
        subst c8
        rw [if_neg (show ¬ (false = true) by decide)] at H
        obtain rfl := Option.some.inj H
        try go_wp2
        have n0_ := zM (below_drew1 HB.out)
        clear HB
        have HB := n0_
        clear n0_
        have p497 : 0 ≤ (x5_1 : Int) := zD
        have q497 : x5_1 < (l0.length : Int) := zD
        obtain ⟨ad497, e497, hx497_0, hx497_1⟩ := at_T44 HR0.out x5_1 p497 q497
        have hw497_1 := hx497_1
        have hw497_0 := hx497_0
        cases e497
        replace hx497_0 := (HB.out.cell (World.block_lt_of_cell? w _ hx497_0)).trans hx497_0
        replace hx497_1 := (HB.out.cell (World.block_lt_of_cell? w _ hx497_1)).trans hx497_1
        replace p497 := eq_true p497
        replace q497 := eq_true q497
        have p498 : 0 ≤ (x5_1 : Int) := zD
        have q498 : x5_1 < (l1.length : Int) := zD
        obtain ⟨ad498, e498, hx498_0, hx498_1⟩ := at_T44 HR1.out x5_1 p498 q498
        have hw498_1 := hx498_1
        have hw498_0 := hx498_0
        cases e498
        replace hx498_0 := (HB.out.cell (World.block_lt_of_cell? w _ hx498_0)).trans hx498_0
        replace hx498_1 := (HB.out.cell (World.block_lt_of_cell? w _ hx498_1)).trans hx498_1
        replace p498 := eq_true p498
        replace q498 := eq_true q498
        refine start_ (n := 10) (S := fun w' => w'.cell? (ad497.add ((x5_1).toNat * 2)) = some (.int .i64 ((rd_T44 l0 x5_1).f0)) ∧ w'.cell? ⟨(ad497.add ((x5_1).toNat * 2)).block, (ad497.add ((x5_1).toNat * 2)).off + 1, none⟩ = some (.string ((rd_T44 l0 x5_1).f1)) ∧ w'.cell? (ad498.add ((x5_1).toNat * 2)) = some (.int .i64 ((rd_T44 l1 x5_1).f0)) ∧ w'.cell? ⟨(ad498.add ((x5_1).toNat * 2)).block, (ad498.add ((x5_1).toNat * 2)).off + 1, none⟩ = some (.string ((rd_T44 l1 x5_1).f1))) (ds := []) (ba 10 0).toArray (by kernel_rfl) rfl rfl ⟨((HB.out.cell (World.block_lt_of_cell? w _ hw497_0)).trans hw497_0), ((HB.out.cell (World.block_lt_of_cell? w _ hw497_1)).trans hw497_1), ((HB.out.cell (World.block_lt_of_cell? w _ hw498_0)).trans hw498_0), ((HB.out.cell (World.block_lt_of_cell? w _ hw498_1)).trans hw498_1)⟩ (fun hHeld => ?_); refine with_tabW laws_eqPieceS.tab6 laws_eqPieceS.bits6 (fun HT_ HW_ => ?_)
        generalize wr.drew = w11 at HB hx497_0 hx497_1 hx498_0 hx498_1 hHeld ⊢
        refine zq 0 (some 17) (ba 10 1).toArray HT_ ?_
        refine zq 1 (some 18) (ba 10 3).toArray HT_ ?_
        refine zq 2 (some 19) (ba 10 7).toArray HT_ ?_
        refine zq 4 (some 21) (ba 10 23).toArray HT_ ?_
        refine zq 5 (some 22) (ba 10 55).toArray HT_ ?_
        refine zq 6 (some 23) (ba 10 119).toArray HT_ ?_
        refine zt4 3 (some 20) (ba 10 127).toArray HT_ HW_ hHeld ?_
        refine zt4 7 (some 24) (ba 10 255).toArray HT_ HW_ hHeld ?_
        refine one_ (i := 8) (N := some 25) (ba 10 511).toArray rfl rfl (one_of HT_.out (by kernel_rfl)) (by decide) (fun K hK => ?_)
        refine goes_ Try.func47 (by kernel_rfl) rfl #[.agg #[.int .i64 ((rd_T44 l0 x5_1).f0), .string ((rd_T44 l0 x5_1).f1)], .agg #[.int .i64 ((rd_T44 l1 x5_1).f0), .string ((rd_T44 l1 x5_1).f1)]] (by rfl) rfl rfl (by (try simp only [List.map_toArray, List.map_cons, List.map_nil]); first | done | rfl | (simp only [List.length_drop, List.length_take]; rfl)) ?_
        with_reducible refine (laws_eqPiece.calls ((rd_T44 l0 x5_1).f0) ((rd_T44 l0 x5_1).f1) ((rd_T44 l1 x5_1).f0) ((rd_T44 l1 x5_1).f1) false _ A7.out).mono ?_
        rintro e w12 ⟨rfl, hb⟩
        refine ⟨_, rfl, ?_⟩
        have n0_ := zM (below_step (zB HB.out) hb)
        clear HB
        have HB := n0_
        clear n0_
        (try clear hb)
        (try clear hb2)
        (try clear hk)
        (try clear hi)
        refine hK.out _ _ ⟨((HB.out.cell (World.block_lt_of_cell? w _ hw497_0)).trans hw497_0), ((HB.out.cell (World.block_lt_of_cell? w _ hw497_1)).trans hw497_1), ((HB.out.cell (World.block_lt_of_cell? w _ hw498_0)).trans hw498_0), ((HB.out.cell (World.block_lt_of_cell? w _ hw498_1)).trans hw498_1)⟩ (fun hHeld => ?_)
        clear hK K
        refine norm_ (a' := ?_) ?_ ?_
        rotate_left
        ·show Act.put _ (some 25) _ = _
         simp only [Act.put, List.setIfInBounds_toArray, List.set_cons_zero, List.set_cons_succ, i64_w, i32_w]
         rfl
        refine zq 9 (some 26) (ba 10 1023).toArray HT_ ?_
        refine done_ (done_of HT_.out (by kernel_rfl)) ?_
        try go_wp2
        go_ret
        exact ⟨zE, (zB HB.out)⟩
      ·rw [if_neg c6] at H
       exact absurd H (by simp)
     ·rw [if_neg c5] at H
      exact absurd H (by simp)
    ·rw [if_neg c4] at H
     have c4b0 : decide (x5_1 < (l0.length : Int)) = false := decide_eq_false c4
     clear c4
     obtain rfl := Option.some.inj H
     go_wp2
     go_ret
     exact ⟨zE, (zB HB.out)⟩
 ·rw [if_neg c3] at H
  have c3b0 : ((l0.length : Int) == (l1.length : Int)) = false := beq_eq_false_iff_ne.mpr c3
  have c3b1 : ((l0.length : Int) != (l1.length : Int)) = true := bne_iff_ne.mpr c3
  have c3b2 : (l0.length == l1.length) = false := by first | simpa using c3 | (simp at c3 ⊢; omega)
  obtain rfl := Option.some.inj H
  go_enter Try.func24, Try.ntmps24
  go_wp2
  go_ret
  exact ⟨zE, (zB HB.out)⟩

end Go.Proofs.Yteahdfibipalkaa.G

namespace Go.Proofs.Yteahdfibipalkaa.G
open Go.RowKit Go.Proofs.YteahdfibipalkaaW.PrintWords Go.Proofs.YteahdfibipalkaaW.PrintLast Go.Proofs.YteahdfibipalkaaW.PrintMore
attribute [local go_sem] max2_int min2_int max_two min_two max_three min_three max_four min_four   -- for this text's walks alone
set_option linter.unusedVariables false
set_option linter.unusedSimpArgs false

/-! ### laws_markText: function 48 -/
set_option maxHeartbeats 8000000 in
set_option maxRecDepth 100000 in
theorem laws_markText.calls (k : Nat) (a0 : Int) (r : ByteArray) (w : World) (h : laws_markText.f k a0 = some r) :
  Calls Try.prog 48 #[.int .i64 a0] w fun e w' => e = .returned (.string r) ∧ Below w.heap.size w w' := by
 have HB := zM (Below.refl w.heap.size w)
 have H : (if a0 ≤ 0 then (some (⟨#[109, 48]⟩ : ByteArray)) else (laws_markText.l0 k a0 (⟨#[]⟩ : ByteArray))) = some r := h
 clear h
 by_cases c2 : a0 ≤ 0
 ·rw [if_pos c2] at H
  have c2b0 : decide (a0 ≤ 0) = true := decide_eq_true c2
  clear c2
  obtain rfl := Option.some.inj H
  go_enter Try.func48, Try.ntmps48
  go_wp2
  go_ret
  exact ⟨zE, (zB HB.out)⟩
 ·rw [if_neg c2] at H
  have c2b0 : decide (a0 ≤ 0) = false := decide_eq_false c2
  clear c2
  have H' := zM H
  clear H
  go_enter Try.func48, Try.ntmps48
  go_wp2
  go_loopg [0, 3] k (fun kq v0 v3 w' => ∃ (x0_1 : Int) (x3_1 : ByteArray), v0 = .int .i64 x0_1 ∧ v3 = .string x3_1 ∧ Aside0 (laws_markText.l0 kq x0_1 x3_1 = some r) ∧ Aside0 (kq ≤ k) ∧ Aside0 (Below w.heap.size w w'))
  case atStart => exact ⟨(a0), ((⟨#[]⟩ : ByteArray)), zS, zS, H', ⟨Nat.le_refl _⟩, ⟨(zB HB.out)⟩⟩
  case round =>
   clear H'
   try clear c2
   try clear c2b0
   try clear p2
   obtain ⟨x0_1, x3_1, rfl, rfl, HA, HK1, HB⟩ := hrel
   cases gk with
   | zero => exact absurd HA.out (by simp [laws_markText.l0])
   | succ k1 =>
    have H := HA.out
    clear HA
    simp only [laws_markText.l0] at H
    by_cases c3 : x0_1 > 0
    ·rw [if_pos c3] at H
     have c3b0 : decide (0 < x0_1) = true := decide_eq_true c3
     clear c3
     obtain ⟨y500, hy500⟩ : ∃ y_ : List Int, y_ = (([(wrap64 (48 + (Int.tmod x0_1 10))) % 256] : List Int)) := ⟨_, rfl⟩
     replace H : (if (strOfNums y500).size + x3_1.size ≤ 9223372036854775807 then (laws_markText.l0 k1 (wrap64 (Int.tdiv x0_1 10)) ((strOfNums y500) ++ x3_1)) else (none)) = some r := zH hy500 H
     have Ny500 := zM hy500
     clear hy500
     by_cases c4 : (strOfNums y500).size + x3_1.size ≤ 9223372036854775807
     ·rw [if_pos c4] at H
      have c4b0 := eq_true c4
      have c4b1 : decide ((strOfNums y500).size + x3_1.size ≤ 9223372036854775807) = true := decide_eq_true c4
      try have c4b2 : (9223372036854775807 < (strOfNums y500).size + x3_1.size) = False := eq_false (Nat.not_lt.2 c4)
      have H' := zM H
      clear H
      go_wp2_with (first | ((with_reducible refine gate_dst (N := 12) rfl ?_); refine Kd.R_lit (Kd.int .u8) _ 5 ?hg (N := 12) ?hd (xs := ([(wrap64 (48 + (Int.tmod x0_1 10))) % 256] : List Int)) (inner := [.int .u8 ((wrap64 (48 + (Int.tmod x0_1 10))) % 256)]) (ok := fun _ => True) (okp := fun _ => True) ?hr ?hp (fun _ hk => hk) trivial (Below.refl _ _) (Nat.le_refl _) (by simp) ?_; (case hd => rfl); (case hg => rfl); (case hr => first | (go_simp; done) | (go_simp; rfl)); (case hp => exact (Reps.one (show Kd.M (Kd.int .u8) _ _ _ ((wrap64 (48 + (Int.tmod x0_1 10))) % 256) [.int .u8 ((wrap64 (48 + (Int.tmod x0_1 10))) % 256)] from rfl) (Reps.none _ _))); intro v501 w5 ho6 hb hg_ hnew_; clear hg_ hnew_; (first | rw [← Ny500.out] at ho6 | (simp only [Int.reduceToNat] at ho6; rw [← Ny500.out] at ho6)); have n0_ := zM (Kd.R_lower ho6 (below_size (zB HB.out))); have n1_ := zM (below_step (zB HB.out) hb); clear HB; have HO502 := n0_; have HB := n1_; clear n0_ n1_; clear hb ho6; have hcv7 := own_string (P := Try.prog) Try.underlying22 Try.underlying5 Try.underlying9 (Kd.own_of_R HO502.out)))
      go_roundg k1
      case measure => have := HK1.out; omega
      case rel => exact ⟨(wrap64 (Int.tdiv x0_1 10)), ((strOfNums y500) ++ x3_1), zS, zS, H', ⟨by have := HK1.out; omega⟩, ⟨(zB HB.out)⟩⟩
     ·rw [if_neg c4] at H
      exact absurd H (by simp)
    ·rw [if_neg c3] at H
     have c3b0 : decide (0 < x0_1) = false := decide_eq_false c3
     clear c3
     by_cases c8 : 1 + x3_1.size ≤ 9223372036854775807
     ·rw [if_pos c8] at H
      have c8b0 := eq_true c8
      have c8b1 : decide (1 + x3_1.size ≤ 9223372036854775807) = true := decide_eq_true c8
      try have c8b2 : (9223372036854775807 < 1 + x3_1.size) = False := eq_false (Nat.not_lt.2 c8)
      obtain rfl := Option.some.inj H
      go_wp2
      go_ret
      exact ⟨zE, (zB HB.out)⟩
     ·rw [if_neg c8] at H
      exact absurd H (by simp)

end Go.Proofs.Yteahdfibipalkaa.G

namespace Go.Proofs.Yteahdfibipalkaa.G
open Go.RowKit Go.Proofs.YteahdfibipalkaaW.PrintWords Go.Proofs.YteahdfibipalkaaW.PrintLast Go.Proofs.YteahdfibipalkaaW.PrintMore
attribute [local go_sem] max2_int min2_int max_two min_two max_three min_three max_four min_four   -- for this text's walks alone
set_option linter.unusedVariables false
set_option linter.unusedSimpArgs false

/-! ### laws_markPieceS: function 25 -/
set_option maxHeartbeats 8000000 in
set_option maxRecDepth 100000 in
theorem laws_markPieceS.calls (k : Nat) (P0_ : Nat → Prop) (u9000_ : Value) (l0 : List (S44)) (a1 : Int) (r1 : Int) (r2 : List (S44)) (w0 w : World) (hB : Below w0.heap.size w0 w) (ho0 : Kd.R k44 44 w w0.heap.size P0_ u9000_ l0) (h : laws_markPieceS.f k l0 a1 = some (r1, r2)) :
  Calls Try.prog 25 #[u9000_, .int .i64 a1] w fun e w' => e = .returned (.int .i64 r1) ∧ Kd.R k44 44 w' w0.heap.size (fun k_ => (P0_ k_ ∨ w.heap.size ≤ k_)) u9000_ r2 ∧ Below w0.heap.size w0 w' ∧ Kept w w' (fun k_ => P0_ k_) := by
 have HO0 := zM (show Kd.R k44 44 w w0.heap.size (fun k_ => (P0_ k_ ∨ w.heap.size ≤ k_)) u9000_ l0 from Kd.R_mono ho0 (fun k_ hk => (.inl hk)))
 have HK := zM (Kept.refl w (fun k_ => P0_ k_))
 have HW0 := zM hB.size
 have HB := zM hB
 clear hB
 have H : (laws_markPieceS.l0 k l0 a1 0) = some (r1, r2) := h
 clear h
 have H' := zM H
 clear H
 go_enter Try.func25, Try.ntmps25
 go_wp2
 go_loopg [1, 5] k (fun kq v1 v5 w' => ∃ (x0_1 : List (S44)) (x1_1 : Int) (x5_1 : Int), v1 = .int .i64 x1_1 ∧ v5 = .int .i64 x5_1 ∧ Aside0 (laws_markPieceS.l0 kq x0_1 x1_1 x5_1 = some (r1, r2)) ∧ Aside0 (kq ≤ k) ∧ Aside0 (Kd.R k44 44 w' w0.heap.size (fun k_ => (P0_ k_ ∨ w.heap.size ≤ k_)) u9000_ x0_1) ∧ Aside0 (Kept w w' (fun k_ => P0_ k_)) ∧ Aside0 (Below w0.heap.size w0 w'))
 case atStart => exact ⟨(l0), (a1), (0), zS, zS, H', ⟨Nat.le_refl _⟩, ⟨(zR HO0.out)⟩, ⟨(zK HK.out)⟩, ⟨(zB HB.out)⟩⟩
 case round =>
  clear H'
  try clear c2
  try clear p2
  obtain ⟨x0_1, x1_1, x5_1, rfl, rfl, HA, HK1, HO_0, HK, HB⟩ := hrel
  cases gk with
  | zero => exact absurd HA.out (by simp [laws_markPieceS.l0])
  | succ k1 =>
   have H := HA.out
   clear HA
   simp only [laws_markPieceS.l0] at H
   by_cases c3 : x5_1 < (x0_1.length : Int)
   ·rw [if_pos c3] at H
    have c3b0 : decide (x5_1 < (x0_1.length : Int)) = true := decide_eq_true c3
    clear c3
    by_cases c4 : 0 ≤ x5_1
    ·rw [if_pos c4] at H
     have c4b0 : decide (0 ≤ x5_1) = true := decide_eq_true c4
     clear c4
     obtain ⟨y503, hy503⟩ : ∃ y_ : List (S44), y_ = (x0_1.set (x5_1 : Int).toNat (⟨x1_1, (rd_T44 x0_1 x5_1).f1⟩ : S44)) := ⟨_, rfl⟩
     replace H : ((laws_markText.f k1 (wrap64 (x1_1 + 1))).bind fun t504 => (laws_markPieceS.l0 k1 (y503.set (x5_1 : Int).toNat (⟨(rd_T44 y503 x5_1).f0, t504⟩ : S44)) (wrap64 ((wrap64 (x1_1 + 1)) + 1)) (wrap64 (x5_1 + 1)))) = some (r1, r2) := zH hy503 H
     have Ny503 := zM hy503
     clear hy503
     replace H := Option.bind_eq_some_iff.mp H
     obtain ⟨t504, A60, H⟩ := H
     try dsimp only at H
     have A6 := zM A60
     clear A60
     obtain ⟨y505, hy505⟩ : ∃ y_ : List (S44), y_ = (y503.set (x5_1 : Int).toNat (⟨(rd_T44 y503 x5_1).f0, t504⟩ : S44)) := ⟨_, rfl⟩
     replace H : (laws_markPieceS.l0 k1 y505 (wrap64 ((wrap64 (x1_1 + 1)) + 1)) (wrap64 (x5_1 + 1))) = some (r1, r2) := zH hy505 H
     have Ny505 := zM hy505
     clear hy505
     have H' := zM H
     clear H
     obtain ⟨Ao8, co8, eo8⟩ := Kd.R_slice HO_0.out
     subst eo8
     have p5 : 0 ≤ (x5_1 : Int) := zD
     have q5 : (x5_1 : Int) < ((x0_1.length : Int) : Int) := zD
     obtain ⟨go5, co5, eo5, gb5, gl5, cl5, HG5⟩ := Kd.R_form HO_0.out (by omega)
     (first | cases eo5 | (injection eo5 with ea_ en_ ec_; (first | subst ea_ | (injection ea_ with ea_; subst ea_)); subst ec_; clear en_))
     have GB5 := zM gb5
     have GG5 := zM HG5
     clear gb5 gl5 HG5
     have HMgo5 := zM (show (P0_ go5 ∨ w.heap.size ≤ go5) from (HO_0.out.1 _ rfl))
     obtain ⟨ce5, hcl5, hM5, hcc5, hfr5⟩ := Kd.R_elem HO_0.out z44 (x5_1 : Int) p5 q5
     obtain rfl := k44_openM hM5
     have hx5_0 : wr.cell? ⟨go5, (x5_1 : Int).toNat * 2, none⟩ = some (.int .i64 ((rd_T44 x0_1 x5_1).f0)) := hcc5 0 _ rfl
     have hx5_1 : wr.cell? ⟨go5, (x5_1 : Int).toNat * 2 + 1, none⟩ = some (.string ((rd_T44 x0_1 x5_1).f1)) := hcc5 1 _ rfl
     have hf5_0 : wr.frozen? ⟨go5, (x5_1 : Int).toNat * 2, none⟩ = false := hfr5 0
     have hf5_1 : wr.frozen? ⟨go5, (x5_1 : Int).toNat * 2 + 1, none⟩ = false := hfr5 1
     clear hcl5 hcc5 hfr5 hM5
     replace p5 := eq_true p5
     replace q5 := eq_true q5
     have HX9 := zM (show Kd.R k44 44 wr w0.heap.size (fun k_ => (P0_ k_ ∨ w.heap.size ≤ k_)) (.slice (some ⟨go5, 0, none⟩) x0_1.length co8) x0_1 from (zR HO_0.out))
     obtain ⟨ce9, hcl9, hM9, hcc9, hfr9⟩ := Kd.R_elem HX9.out z44 (x5_1 : Int) (zD) (by have h_ : (x5_1 : Int) < ((x0_1.length : Int) : Int) := zD; first | exact h_ | (have e_ := (Kd.R_reads' HO_0.out).1; omega) | simpa using h_)
     obtain rfl := k44_openM hM9
     have HP9 := Kd.R_seg HX9.out (x5_1 : Int) (zD) (by have h_ : (x5_1 : Int) < ((x0_1.length : Int) : Int) := zD; first | exact h_ | (have e_ := (Kd.R_reads' HO_0.out).1; omega) | simpa using h_) (seg := [.int .i64 x1_1]) (j := 0) hcl9 hcc9 (show 1 ≤ 2 from by decide) (x' := (⟨x1_1, (rd_T44 x0_1 x5_1).f1⟩ : S44)) (k44_mkM _ _ _ (⟨x1_1, (rd_T44 x0_1 x5_1).f1⟩ : S44) ) (fun _ hk => hk)
     have hx9_0 := hcc9 0 _ rfl
     (try simp only [show (k44).sz = 2 from rfl, Nat.mul_one, Nat.add_zero] at hx9_0)
     have hf9_0 := hfr9 0
     (try simp only [show (k44).sz = 2 from rfl, Nat.mul_one, Nat.add_zero] at hf9_0)
     clear hcl9 hcc9 hfr9 hM9
     go_wp2_with (first | ((with_reducible refine gate_store (t := 3) (p := 16) rfl ?_); refine store_event (t := 3) (p := 16) (v := ?vo_w10) (w1 := (wr.setCell ⟨go5, (x5_1 : Int).toNat * 2, none⟩ (.int .i64 x1_1))) ?hg ?ho ?hn ?hr ?_; (case ho => rfl); (case hg => rfl); (case hn => rfl); (case hr => first | (go_simp; done) | (go_simp; rfl)); intro w10 hw; have hg : wr.grownBy w10 (some go5) := (by rw [hw]; exact HP9.2); have hp_ : Kd.R k44 44 w10 w0.heap.size (fun k_ => (P0_ k_ ∨ w.heap.size ≤ k_)) (.slice (some ⟨go5, 0, none⟩) x0_1.length co8) y503 := (by rw [hw, Ny503.out]; exact HP9.1); clear HP9; have n0_ := zM (hp_); have n1_ := zM ((by rw [hw]; exact below_set (HB.out) GB5.out : Below w0.heap.size w0 w10)); have n2_ := zM (Kept.of_grown (S := (fun k_ => P0_ k_)) hg (zK HK.out) (fun k_ e_ => (HO_0.out.1 k_ e_))); clear HO_0; clear HB; clear HK; have HO_0 := n0_; have HB := n1_; have HK := n2_; clear n0_ n1_ n2_; clear hg hw hp_) | ((with_reducible refine gate_callee (f := 48) rfl ?_); refine zG (some 22) Try.func48 #[.int .i64 (wrap64 (x1_1 + 1))] ?_; (with_reducible refine (laws_markText.calls k1 (wrap64 (x1_1 + 1)) t504 _ A6.out).mono ?_); rintro e w11 ⟨rfl, hb⟩; refine ⟨_, rfl, ?_⟩; have n0_ := zM (Kd.R_below (zR HO_0.out) hb); have n1_ := zM (Kept.below (S := (fun k_ => P0_ k_)) (zK HK.out) hb); have n2_ := zM (below_step (zB HB.out) hb); clear HO_0; clear HK; clear HB; have HO_0 := n0_; have HK := n1_; have HB := n2_; clear n0_ n1_ n2_; (try clear hb); (try clear hb2); (try clear hk); (try clear hi); have p7 : 0 ≤ (x5_1 : Int) := zD; have q7 : (x5_1 : Int) < ((x0_1.length : Int) : Int) := zD; obtain ⟨ce7, hcl7, hM7, hcc7, hfr7⟩ := Kd.R_elem HO_0.out z44 (x5_1 : Int) p7 q7; obtain rfl := k44_openM hM7; have hx7_0 : w11.cell? ⟨go5, (x5_1 : Int).toNat * 2, none⟩ = some (.int .i64 ((rd_T44 y503 x5_1).f0)) := hcc7 0 _ rfl; have hx7_1 : w11.cell? ⟨go5, (x5_1 : Int).toNat * 2 + 1, none⟩ = some (.string ((rd_T44 y503 x5_1).f1)) := hcc7 1 _ rfl; have hf7_0 : w11.frozen? ⟨go5, (x5_1 : Int).toNat * 2, none⟩ = false := hfr7 0; have hf7_1 : w11.frozen? ⟨go5, (x5_1 : Int).toNat * 2 + 1, none⟩ = false := hfr7 1; clear hcl7 hcc7 hfr7 hM7; replace p7 := eq_true p7; replace q7 := eq_true q7; have HX12 := zM (show Kd.R k44 44 w11 w0.heap.size (fun k_ => (P0_ k_ ∨ w.heap.size ≤ k_)) (.slice (some ⟨go5, 0, none⟩) x0_1.length co8) y503 from (zR HO_0.out)); obtain ⟨ce12, hcl12, hM12, hcc12, hfr12⟩ := Kd.R_elem HX12.out z44 (x5_1 : Int) (zD) (by have h_ : (x5_1 : Int) < ((x0_1.length : Int) : Int) := zD; first | exact h_ | (have e_ := (Kd.R_reads' HO_0.out).1; omega) | simpa using h_); obtain rfl := k44_openM hM12; have HP12 := Kd.R_seg HX12.out (x5_1 : Int) (zD) (by have h_ : (x5_1 : Int) < ((x0_1.length : Int) : Int) := zD; first | exact h_ | (have e_ := (Kd.R_reads' HO_0.out).1; omega) | simpa using h_) (seg := [.string t504]) (j := 1) hcl12 hcc12 (show 2 ≤ 2 from by decide) (x' := (⟨(rd_T44 y503 x5_1).f0, t504⟩ : S44)) (k44_mkM _ _ _ (⟨(rd_T44 y503 x5_1).f0, t504⟩ : S44) ) (fun _ hk => hk); have hx12_1 := hcc12 1 _ rfl; (try simp only [show (k44).sz = 2 from rfl, Nat.mul_one, Nat.add_zero] at hx12_1); have hf12_1 := hfr12 1; (try simp only [show (k44).sz = 2 from rfl, Nat.mul_one, Nat.add_zero] at hf12_1); clear hcl12 hcc12 hfr12 hM12) | ((with_reducible refine gate_store (t := 9) (p := 24) rfl ?_); refine store_event (t := 9) (p := 24) (v := ?vo_w13) (w1 := (w11.setCell ⟨go5, (x5_1 : Int).toNat * 2 + 1, none⟩ (.string t504))) ?hg ?ho ?hn ?hr ?_; (case ho => rfl); (case hg => rfl); (case hn => rfl); (case hr => first | (go_simp; done) | (go_simp; rfl)); intro w13 hw; have hg : w11.grownBy w13 (some go5) := (by rw [hw]; exact HP12.2); have hp_ : Kd.R k44 44 w13 w0.heap.size (fun k_ => (P0_ k_ ∨ w.heap.size ≤ k_)) (.slice (some ⟨go5, 0, none⟩) x0_1.length co8) y505 := (by rw [hw, Ny505.out]; exact HP12.1); clear HP12; have n0_ := zM (hp_); have n1_ := zM ((by rw [hw]; exact below_set (HB.out) GB5.out : Below w0.heap.size w0 w13)); have n2_ := zM (Kept.of_grown (S := (fun k_ => P0_ k_)) hg (zK HK.out) (fun k_ e_ => (HO_0.out.1 k_ e_))); clear HO_0; clear HB; clear HK; have HO_0 := n0_; have HB := n1_; have HK := n2_; clear n0_ n1_ n2_; clear hg hw hp_))
     go_roundg k1
     case measure => have := HK1.out; omega
     case rel => exact ⟨(y505), (wrap64 ((wrap64 (x1_1 + 1)) + 1)), (wrap64 (x5_1 + 1)), zS, zS, H', ⟨by have := HK1.out; omega⟩, ⟨(zR HO_0.out)⟩, ⟨(zK HK.out)⟩, ⟨(zB HB.out)⟩⟩
    ·rw [if_neg c4] at H
     exact absurd H (by simp)
   ·rw [if_neg c3] at H
    have c3b0 : decide (x5_1 < (x0_1.length : Int)) = false := decide_eq_false c3
    clear c3
    simp only [Option.some.injEq, Prod.mk.injEq] at H
    obtain ⟨rfl, rfl⟩ := H
    obtain ⟨Ao14, co14, eo14⟩ := Kd.R_slice HO_0.out
    subst eo14
    go_wp2
    go_ret
    exact ⟨zE, (zR HO_0.out), (zB HB.out), (zK HK.out)⟩

end Go.Proofs.Yteahdfibipalkaa.G

namespace Go.Proofs.Yteahdfibipalkaa.G
open Go.RowKit Go.Proofs.YteahdfibipalkaaW.PrintWords Go.Proofs.YteahdfibipalkaaW.PrintLast Go.Proofs.YteahdfibipalkaaW.PrintMore
attribute [local go_sem] max2_int min2_int max_two min_two max_three min_three max_four min_four   -- for this text's walks alone
set_option linter.unusedVariables false
set_option linter.unusedSimpArgs false

/-! ### laws_heldPieceS: function 26 -/
def laws_heldPieceS.T7 : Bool × List (List Nat × List Nat) := (true, [([], []), ([], []), ([0, 1], [0, 1]), ([2], [2]), ([3], [3]), ([], []), ([5], [5]), ([4, 6], [4, 6])])
def laws_heldPieceS.B7 : List Nat := [0, 0, 3, 7, 15, 0, 32, 127]
theorem laws_heldPieceS.tab7 : rtab .any (opsOf Try.f26 7) = laws_heldPieceS.T7 := by kernel_rfl
theorem laws_heldPieceS.bits7 : waitsOk laws_heldPieceS.T7.2 laws_heldPieceS.B7 = true := by kernel_rfl
set_option maxHeartbeats 8000000 in
set_option maxRecDepth 100000 in
theorem laws_heldPieceS.calls (k : Nat) (A0 : Option Addr) (c0 : Nat) (l0 : List (S44)) (a1 : Int) (r : Int) (w : World) (hr0 : Kd.C k44 w A0 l0.length l0) (hc0 : l0.length ≤ c0) (h : laws_heldPieceS.f k l0 a1 = some r) :
  Calls Try.prog 26 #[.slice A0 l0.length c0, .int .i64 a1] w fun e w' => e = .returned (.int .i64 r) ∧ Below w.heap.size w w' := by
 have HR0 := zM hr0
 have HC0 := zM hc0
 clear hr0 hc0
 have HB := zM (Below.refl w.heap.size w)
 have H : (laws_heldPieceS.l0 k l0 a1 0) = some r := h
 clear h
 have H' := zM H
 clear H
 go_enter Try.func26, Try.ntmps26
 go_wp2
 go_loopg [1, 5] k (fun kq v1 v5 w' => ∃ (x1_1 : Int) (x5_1 : Int), v1 = .int .i64 x1_1 ∧ v5 = .int .i64 x5_1 ∧ Aside0 (laws_heldPieceS.l0 kq l0 x1_1 x5_1 = some r) ∧ Aside0 (kq ≤ k) ∧ Aside0 (Below w.heap.size w w'))
 case atStart => exact ⟨(a1), (0), zS, zS, H', ⟨Nat.le_refl _⟩, ⟨(zB HB.out)⟩⟩
 case round =>
  clear H'
  try clear c2
  try clear p2
  obtain ⟨x1_1, x5_1, rfl, rfl, HA, HK1, HB⟩ := hrel
  cases gk with
  | zero => exact absurd HA.out (by simp [laws_heldPieceS.l0])
  | succ k1 =>
   have H := HA.out
   clear HA
   simp only [laws_heldPieceS.l0] at H
   by_cases c3 : x5_1 < (l0.length : Int)
   ·rw [if_pos c3] at H
    have c3b0 : decide (x5_1 < (l0.length : Int)) = true := decide_eq_true c3
    clear c3
    by_cases c4 : 0 ≤ x5_1
    ·rw [if_pos c4] at H
     have c4b0 : decide (0 ≤ x5_1) = true := decide_eq_true c4
     clear c4
     by_cases c5 : ((rd_T44 l0 x5_1).f0) = x1_1
     ·rw [if_pos c5] at H
      have c5b0 : (((rd_T44 l0 x5_1).f0) == x1_1) = true := beq_iff_eq.mpr c5
      have c5b1 : (((rd_T44 l0 x5_1).f0) != x1_1) = false := bne_eq_false_iff_eq.mpr c5
      clear c5
      replace H := Option.bind_eq_some_iff.mp H
      obtain ⟨t508, A60, H⟩ := H
      try dsimp only at H
      have A6 := zM A60
      clear A60
      by_cases c7 : ((rd_T44 l0 x5_1).f1).toList = t508.toList
      ·rw [if_pos c7] at H
       have c7b0 : (((rd_T44 l0 x5_1).f1).toList == t508.toList) = true := beq_iff_eq.mpr c7
       have c7b1 : (((rd_T44 l0 x5_1).f1).toList != t508.toList) = false := bne_eq_false_iff_eq.mpr c7
       clear c7
       have H' := zM H
       clear H
       have p506 : 0 ≤ (x5_1 : Int) := zD
       have q506 : x5_1 < (l0.length : Int) := zD
       obtain ⟨ad506, e506, hx506_0, hx506_1⟩ := at_T44 HR0.out x5_1 p506 q506
       cases e506
       replace hx506_0 := (HB.out.cell (World.block_lt_of_cell? w _ hx506_0)).trans hx506_0
       replace hx506_1 := (HB.out.cell (World.block_lt_of_cell? w _ hx506_1)).trans hx506_1
       replace p506 := eq_true p506
       replace q506 := eq_true q506
       try go_wp2
       have n0_ := zM (below_drew1 HB.out)
       clear HB
       have HB := n0_
       clear n0_
       have p507 : 0 ≤ (x5_1 : Int) := zD
       have q507 : x5_1 < (l0.length : Int) := zD
       obtain ⟨ad507, e507, hx507_0, hx507_1⟩ := at_T44 HR0.out x5_1 p507 q507
       have hw507_1 := hx507_1
       have hw507_0 := hx507_0
       obtain rfl : ad506 = ad507 := (by injection e507)
       replace hx507_0 := (HB.out.cell (World.block_lt_of_cell? w _ hx507_0)).trans hx507_0
       replace hx507_1 := (HB.out.cell (World.block_lt_of_cell? w _ hx507_1)).trans hx507_1
       replace p507 := eq_true p507
       replace q507 := eq_true q507
       refine start_ (n := 8) (S := fun w' => w'.cell? (ad506.add ((x5_1).toNat * 2)) = some (.int .i64 ((rd_T44 l0 x5_1).f0)) ∧ w'.cell? ⟨(ad506.add ((x5_1).toNat * 2)).block, (ad506.add ((x5_1).toNat * 2)).off + 1, none⟩ = some (.string ((rd_T44 l0 x5_1).f1))) (ds := []) (ba 8 0).toArray (by kernel_rfl) rfl rfl ⟨((HB.out.cell (World.block_lt_of_cell? w _ hw507_0)).trans hw507_0), ((HB.out.cell (World.block_lt_of_cell? w _ hw507_1)).trans hw507_1)⟩ (fun hHeld => ?_); refine with_tabW laws_heldPieceS.tab7 laws_heldPieceS.bits7 (fun HT_ HW_ => ?_)
       generalize wr.drew = w8 at HB hx507_0 hx507_1 hHeld ⊢
       refine zq 0 (some 21) (ba 8 1).toArray HT_ ?_
       refine zq 1 (some 22) (ba 8 3).toArray HT_ ?_
       refine zq 2 (some 23) (ba 8 7).toArray HT_ ?_
       refine zq 3 (some 24) (ba 8 15).toArray HT_ ?_
       refine zq 5 (some 26) (ba 8 47).toArray HT_ ?_
       refine zt2 4 (some 25) (ba 8 63).toArray HT_ HW_ hHeld ?_
       refine one_ (i := 6) (N := some 27) (ba 8 127).toArray rfl rfl (one_of HT_.out (by kernel_rfl)) (by decide) (fun K hK => ?_)
       refine goes_ Try.func48 (by kernel_rfl) rfl #[.int .i64 (wrap64 (x1_1 + 1))] (by rfl) rfl rfl (by (try simp only [List.map_toArray, List.map_cons, List.map_nil]); first | done | rfl | (simp only [List.length_drop, List.length_take]; rfl)) ?_
       with_reducible refine (laws_markText.calls k1 (wrap64 (x1_1 + 1)) t508 _ A6.out).mono ?_
       rintro e w9 ⟨rfl, hb⟩
       refine ⟨_, rfl, ?_⟩
       have n0_ := zM (below_step (zB HB.out) hb)
       clear HB
       have HB := n0_
       clear n0_
       (try clear hb)
       (try clear hb2)
       (try clear hk)
       (try clear hi)
       refine hK.out _ _ ⟨((HB.out.cell (World.block_lt_of_cell? w _ hw507_0)).trans hw507_0), ((HB.out.cell (World.block_lt_of_cell? w _ hw507_1)).trans hw507_1)⟩ (fun hHeld => ?_)
       clear hK K
       refine norm_ (a' := ?_) ?_ ?_
       rotate_left
       ·show Act.put _ (some 27) _ = _
        simp only [Act.put, List.setIfInBounds_toArray, List.set_cons_zero, List.set_cons_succ, i64_w, i32_w]
        rfl
       refine zq 7 (some 28) (ba 8 255).toArray HT_ ?_
       refine done_ (done_of HT_.out (by kernel_rfl)) ?_
       try go_wp2
       go_roundg k1
       case measure => have := HK1.out; omega
       case rel => exact ⟨(wrap64 ((wrap64 (x1_1 + 1)) + 1)), (wrap64 (x5_1 + 1)), zS, zS, H', ⟨by have := HK1.out; omega⟩, ⟨(zB HB.out)⟩⟩
      ·rw [if_neg c7] at H
       have c7b0 : (((rd_T44 l0 x5_1).f1).toList == t508.toList) = false := beq_eq_false_iff_ne.mpr c7
       have c7b1 : (((rd_T44 l0 x5_1).f1).toList != t508.toList) = true := bne_iff_ne.mpr c7
       obtain rfl := Option.some.inj H
       have p506 : 0 ≤ (x5_1 : Int) := zD
       have q506 : x5_1 < (l0.length : Int) := zD
       obtain ⟨ad506, e506, hx506_0, hx506_1⟩ := at_T44 HR0.out x5_1 p506 q506
       cases e506
       replace hx506_0 := (HB.out.cell (World.block_lt_of_cell? w _ hx506_0)).trans hx506_0
       replace hx506_1 := (HB.out.cell (World.block_lt_of_cell? w _ hx506_1)).trans hx506_1
       replace p506 := eq_true p506
       replace q506 := eq_true q506
       try go_wp2
       have n0_ := zM (below_drew1 HB.out)
       clear HB
       have HB := n0_
       clear n0_
       have p507 : 0 ≤ (x5_1 : Int) := zD
       have q507 : x5_1 < (l0.length : Int) := zD
       obtain ⟨ad507, e507, hx507_0, hx507_1⟩ := at_T44 HR0.out x5_1 p507 q507
       have hw507_1 := hx507_1
       have hw507_0 := hx507_0
       obtain rfl : ad506 = ad507 := (by injection e507)
       replace hx507_0 := (HB.out.cell (World.block_lt_of_cell? w _ hx507_0)).trans hx507_0
       replace hx507_1 := (HB.out.cell (World.block_lt_of_cell? w _ hx507_1)).trans hx507_1
       replace p507 := eq_true p507
       replace q507 := eq_true q507
       refine start_ (n := 8) (S := fun w' => w'.cell? (ad506.add ((x5_1).toNat * 2)) = some (.int .i64 ((rd_T44 l0 x5_1).f0)) ∧ w'.cell? ⟨(ad506.add ((x5_1).toNat * 2)).block, (ad506.add ((x5_1).toNat * 2)).off + 1, none⟩ = some (.string ((rd_T44 l0 x5_1).f1))) (ds := []) (ba 8 0).toArray (by kernel_rfl) rfl rfl ⟨((HB.out.cell (World.block_lt_of_cell? w _ hw507_0)).trans hw507_0), ((HB.out.cell (World.block_lt_of_cell? w _ hw507_1)).trans hw507_1)⟩ (fun hHeld => ?_); refine with_tabW laws_heldPieceS.tab7 laws_heldPieceS.bits7 (fun HT_ HW_ => ?_)
       generalize wr.drew = w10 at HB hx507_0 hx507_1 hHeld ⊢
       refine zq 0 (some 21) (ba 8 1).toArray HT_ ?_
       refine zq 1 (some 22) (ba 8 3).toArray HT_ ?_
       refine zq 2 (some 23) (ba 8 7).toArray HT_ ?_
       refine zq 3 (some 24) (ba 8 15).toArray HT_ ?_
       refine zq 5 (some 26) (ba 8 47).toArray HT_ ?_
       refine zt2 4 (some 25) (ba 8 63).toArray HT_ HW_ hHeld ?_
       refine one_ (i := 6) (N := some 27) (ba 8 127).toArray rfl rfl (one_of HT_.out (by kernel_rfl)) (by decide) (fun K hK => ?_)
       refine goes_ Try.func48 (by kernel_rfl) rfl #[.int .i64 (wrap64 (x1_1 + 1))] (by rfl) rfl rfl (by (try simp only [List.map_toArray, List.map_cons, List.map_nil]); first | done | rfl | (simp only [List.length_drop, List.length_take]; rfl)) ?_
       with_reducible refine (laws_markText.calls k1 (wrap64 (x1_1 + 1)) t508 _ A6.out).mono ?_
       rintro e w11 ⟨rfl, hb⟩
       refine ⟨_, rfl, ?_⟩
       have n0_ := zM (below_step (zB HB.out) hb)
       clear HB
       have HB := n0_
       clear n0_
       (try clear hb)
       (try clear hb2)
       (try clear hk)
       (try clear hi)
       refine hK.out _ _ ⟨((HB.out.cell (World.block_lt_of_cell? w _ hw507_0)).trans hw507_0), ((HB.out.cell (World.block_lt_of_cell? w _ hw507_1)).trans hw507_1)⟩ (fun hHeld => ?_)
       clear hK K
       refine norm_ (a' := ?_) ?_ ?_
       rotate_left
       ·show Act.put _ (some 27) _ = _
        simp only [Act.put, List.setIfInBounds_toArray, List.set_cons_zero, List.set_cons_succ, i64_w, i32_w]
        rfl
       refine zq 7 (some 28) (ba 8 255).toArray HT_ ?_
       refine done_ (done_of HT_.out (by kernel_rfl)) ?_
       try go_wp2
       go_ret
       exact ⟨zE, (zB HB.out)⟩
     ·rw [if_neg c5] at H
      have c5b0 : (((rd_T44 l0 x5_1).f0) == x1_1) = false := beq_eq_false_iff_ne.mpr c5
      have c5b1 : (((rd_T44 l0 x5_1).f0) != x1_1) = true := bne_iff_ne.mpr c5
      obtain rfl := Option.some.inj H
      have p506 : 0 ≤ (x5_1 : Int) := zD
      have q506 : x5_1 < (l0.length : Int) := zD
      obtain ⟨ad506, e506, hx506_0, hx506_1⟩ := at_T44 HR0.out x5_1 p506 q506
      cases e506
      replace hx506_0 := (HB.out.cell (World.block_lt_of_cell? w _ hx506_0)).trans hx506_0
      replace hx506_1 := (HB.out.cell (World.block_lt_of_cell? w _ hx506_1)).trans hx506_1
      replace p506 := eq_true p506
      replace q506 := eq_true q506
      go_wp2
      go_ret
      exact ⟨zE, (zB HB.out)⟩
    ·rw [if_neg c4] at H
     exact absurd H (by simp)
   ·rw [if_neg c3] at H
    have c3b0 : decide (x5_1 < (l0.length : Int)) = false := decide_eq_false c3
    clear c3
    obtain rfl := Option.some.inj H
    go_wp2
    go_ret
    exact ⟨zE, (zB HB.out)⟩

end Go.Proofs.Yteahdfibipalkaa.G

namespace Go.Proofs.Yteahdfibipalkaa.G
open Go.RowKit Go.Proofs.YteahdfibipalkaaW.PrintWords Go.Proofs.YteahdfibipalkaaW.PrintLast Go.Proofs.YteahdfibipalkaaW.PrintMore
attribute [local go_sem] max2_int min2_int max_two min_two max_three min_three max_four min_four   -- for this text's walks alone
set_option linter.unusedVariables false
set_option linter.unusedSimpArgs false

/-! ### laws_FnExactAddPiece: function 4 -/
def laws_FnExactAddPiece.T8 : Bool × List (List Nat × List Nat) := (true, [([], []), ([0], [0]), ([], []), ([], []), ([3, 1], [3]), ([1, 2, 4, 4], [1, 2, 4]), ([5], [5]), ([6], [6]), ([6], [6]), ([7, 5, 0, 1, 2, 3, 4, 5, 6, 7], [7]), ([8, 9, 0, 1, 2, 3, 4, 5, 6, 7, 8, 9], [8])])
def laws_FnExactAddPiece.B8 : List Nat := [0, 1, 0, 0, 11, 31, 63, 127, 127, 255, 1023]
theorem laws_FnExactAddPiece.tab8 : rtab .any (opsOf Try.f4 8) = laws_FnExactAddPiece.T8 := by kernel_rfl
theorem laws_FnExactAddPiece.bits8 : waitsOk laws_FnExactAddPiece.T8.2 laws_FnExactAddPiece.B8 = true := by kernel_rfl
def laws_FnExactAddPiece.T27 : Bool × List (List Nat × List Nat) := (true, [([], []), ([0], [0]), ([], []), ([], []), ([3, 1], [3]), ([1, 2, 4, 4], [1, 2, 4]), ([5], [5]), ([6], [6]), ([6], [6]), ([7, 5, 0, 1, 2, 3, 4, 5, 6, 7], [7]), ([8, 9, 0, 1, 2, 3, 4, 5, 6, 7, 8, 9], [8])])
def laws_FnExactAddPiece.B27 : List Nat := [0, 1, 0, 0, 11, 31, 63, 127, 127, 255, 1023]
theorem laws_FnExactAddPiece.tab27 : rtab .any (opsOf Try.f4 27) = laws_FnExactAddPiece.T27 := by kernel_rfl
theorem laws_FnExactAddPiece.bits27 : waitsOk laws_FnExactAddPiece.T27.2 laws_FnExactAddPiece.B27 = true := by kernel_rfl
set_option maxHeartbeats 8000000 in
set_option maxRecDepth 100000 in
theorem laws_FnExactAddPiece.calls (k : Nat) (A0 : Option Addr) (c0 : Nat) (l0 : List (S37)) (a1 : Int) (a2_0 : Int) (a2_1 : ByteArray) (r : Bool) (w : World) (hr0 : Kd.C k37 w A0 l0.length l0) (hc0 : l0.length ≤ c0) (h : laws_FnExactAddPiece.f k l0 a1 a2_0 a2_1 = some r) :
  Calls Try.prog 4 #[.slice A0 l0.length c0, .int .i64 a1, .agg #[.int .i64 a2_0, .string a2_1]] w fun e w' => e = .returned (.bool r) ∧ Below w.heap.size w w' := by
 have hu37 := Try.underlying37
 have HR0 := zM hr0
 have HC0 := zM hc0
 clear hr0 hc0
 have HB := zM (Below.refl w.heap.size w)
 have H : ((laws_szPieceS.f k l0 1048576).bind fun t510 => (if t510 < 0 then (some true) else ((laws_szPiece.f a2_0 a2_1 t510).bind fun t511 => (if t511 < 0 then (some true) else ((laws_toPieceS.f k l0).bind fun t512 => ((laws_toPiece.f a2_0 a2_1).bind fun bt515 => ((spec_AddPiece.f k t512 a1 bt515.1 bt515.2).bind fun bt517 => ((laws_toPieceS.f k l0).bind fun t521 => ((laws_toPiece.f a2_0 a2_1).bind fun bt524 => ((impl_AddPiece.f k t521 a1 bt524.1 bt524.2).bind fun bt526 => ((laws_eqPieceS.f k bt526.1 bt517.1).bind fun t530 => (if t530 = true then (laws_FnExactAddPiece.j0 k l0 a1 bt517.1 bt517.2 t521 bt526.1 bt526.2 (bt526.2 != bt517.2) a2_0 a2_1) else (laws_FnExactAddPiece.j0 k l0 a1 bt517.1 bt517.2 t521 bt526.1 bt526.2 true a2_0 a2_1))))))))))))) = some r := h
 clear h
 replace H := Option.bind_eq_some_iff.mp H
 obtain ⟨t510, A40, H⟩ := H
 try dsimp only at H
 have A4 := zM A40
 clear A40
 by_cases c5 : t510 < 0
 ·rw [if_pos c5] at H
  have c5b0 : decide (t510 < 0) = true := decide_eq_true c5
  clear c5
  obtain rfl := Option.some.inj H
  go_enter Try.func4, Try.ntmps4
  go_wp2_with (first | ((with_reducible refine gate_dst (N := 5) rfl ?_); refine box_event ?hg (N := 5) ?hd (cs := #[.int .i64 a2_0, .string a2_1]) (t := 37) ?hr ?_; (case hd => rfl); (case hg => rfl); (case hr => first | (go_simp; done) | (go_simp; rfl)); intro gb509 hg w6 hbox hb; have n0_ := zM (below_step (zB HB.out) hb); have n1_ := zM (hbox); have n2_ := zM ((by rw [hg]; exact (below_size (zB HB.out)) : w.heap.size ≤ gb509)); have n3_ := zM ((by rw [hg]; exact (below_size (zB HB.out)) : w.heap.size ≤ gb509)); clear HB; have HB := n0_; have BK509 := n1_; have GW509 := n2_; have GE509 := n3_; clear n0_ n1_ n2_ n3_; clear hb hbox hg) | ((with_reducible refine gate_callee (f := 18) rfl ?_); refine zG (some 20) Try.func18 #[.slice A0 l0.length c0, .int .i64 1048576] ?_; (with_reducible refine (laws_szPieceS.calls k _ _ l0 1048576 t510 _ ?side1 ?side2 A4.out).mono ?_); (case side1 => exact (zC (Kd.C_below HR0.out HB.out))); (case side2 => exact HC0.out); rintro e w7 ⟨rfl, hb⟩; refine ⟨_, rfl, ?_⟩; have n0_ := zM (blk_below (g := gb509) (o := .cells #[.int .i64 a2_0, .string a2_1] 37 (0, 0)) (zP BK509.out) hb); have n1_ := zM (below_step (zB1 GE509.out HB.out) hb); clear BK509; clear HB; have BK509 := n0_; have HB := n1_; clear n0_ n1_; (try clear hb); (try clear hb2); (try clear hk); (try clear hi)))
  go_ret
  exact ⟨zE, (zB1 GE509.out HB.out)⟩
 ·rw [if_neg c5] at H
  have c5b0 : decide (t510 < 0) = false := decide_eq_false c5
  clear c5
  replace H := Option.bind_eq_some_iff.mp H
  obtain ⟨t511, A80, H⟩ := H
  try dsimp only at H
  have A8 := zM A80
  clear A80
  by_cases c9 : t511 < 0
  ·rw [if_pos c9] at H
   have c9b0 : decide (t511 < 0) = true := decide_eq_true c9
   clear c9
   obtain rfl := Option.some.inj H
   go_enter Try.func4, Try.ntmps4
   go_wp2_with (first | ((with_reducible refine gate_dst (N := 5) rfl ?_); refine box_event ?hg (N := 5) ?hd (cs := #[.int .i64 a2_0, .string a2_1]) (t := 37) ?hr ?_; (case hd => rfl); (case hg => rfl); (case hr => first | (go_simp; done) | (go_simp; rfl)); intro gb509 hg w10 hbox hb; have n0_ := zM (below_step (zB HB.out) hb); have n1_ := zM (hbox); have n2_ := zM ((by rw [hg]; exact (below_size (zB HB.out)) : w.heap.size ≤ gb509)); have n3_ := zM ((by rw [hg]; exact (below_size (zB HB.out)) : w.heap.size ≤ gb509)); clear HB; have HB := n0_; have BK509 := n1_; have GW509 := n2_; have GE509 := n3_; clear n0_ n1_ n2_ n3_; clear hb hbox hg) | ((with_reducible refine gate_callee (f := 18) rfl ?_); refine zG (some 20) Try.func18 #[.slice A0 l0.length c0, .int .i64 1048576] ?_; (with_reducible refine (laws_szPieceS.calls k _ _ l0 1048576 t510 _ ?side1 ?side2 A4.out).mono ?_); (case side1 => exact (zC (Kd.C_below HR0.out HB.out))); (case side2 => exact HC0.out); rintro e w11 ⟨rfl, hb⟩; refine ⟨_, rfl, ?_⟩; have n0_ := zM (blk_below (g := gb509) (o := .cells #[.int .i64 a2_0, .string a2_1] 37 (0, 0)) (zP BK509.out) hb); have n1_ := zM (below_step (zB1 GE509.out HB.out) hb); clear BK509; clear HB; have BK509 := n0_; have HB := n1_; clear n0_ n1_; (try clear hb); (try clear hb2); (try clear hk); (try clear hi); have hcz12_0 : w11.cell? ⟨gb509, 0, none⟩ = some (.int .i64 a2_0) := (blk_cell BK509.out 0).trans rfl; have hcz12_1 : w11.cell? ⟨gb509, 1, none⟩ = some (.string a2_1) := (blk_cell BK509.out 1).trans rfl; have hfz12_0 := blk_frozen BK509.out 0; have hfz12_1 := blk_frozen BK509.out 1) | ((with_reducible refine gate_callee (f := 19) rfl ?_); refine zG (some 25) Try.func19 #[.agg #[.int .i64 a2_0, .string a2_1], .int .i64 t510] ?_; (with_reducible refine (laws_szPiece.calls a2_0 a2_1 t510 t511 _ A8.out).mono ?_); rintro e w13 ⟨rfl, hb⟩; refine ⟨_, rfl, ?_⟩; have n0_ := zM (blk_below (g := gb509) (o := .cells #[.int .i64 a2_0, .string a2_1] 37 (0, 0)) (zP BK509.out) hb); have n1_ := zM (below_step (zB1 GE509.out HB.out) hb); clear BK509; clear HB; have BK509 := n0_; have HB := n1_; clear n0_ n1_; (try clear hb); (try clear hb2); (try clear hk); (try clear hi)))
   go_ret
   exact ⟨zE, (zB1 GE509.out HB.out)⟩
  ·rw [if_neg c9] at H
   have c9b0 : decide (t511 < 0) = false := decide_eq_false c9
   clear c9
   replace H := Option.bind_eq_some_iff.mp H
   obtain ⟨t512, A140, H⟩ := H
   try dsimp only at H
   have A14 := zM A140
   clear A140
   replace H := Option.bind_eq_some_iff.mp H
   obtain ⟨⟨t515, t516⟩, A150, H⟩ := H
   try dsimp only at H
   have A15 := zM A150
   clear A150
   replace H := Option.bind_eq_some_iff.mp H
   obtain ⟨⟨t517, t520⟩, A160, H⟩ := H
   try dsimp only at H
   have A16 := zM A160
   clear A160
   replace H := Option.bind_eq_some_iff.mp H
   obtain ⟨t521, A170, H⟩ := H
   try dsimp only at H
   have A17 := zM A170
   clear A170
   replace H := Option.bind_eq_some_iff.mp H
   obtain ⟨⟨t524, t525⟩, A180, H⟩ := H
   try dsimp only at H
   have A18 := zM A180
   clear A180
   replace H := Option.bind_eq_some_iff.mp H
   obtain ⟨⟨t526, t529⟩, A190, H⟩ := H
   try dsimp only at H
   have A19 := zM A190
   clear A190
   have HC20 := zM H
   clear H
   go_enter Try.func4, Try.ntmps4
   try go_wp2_with (first | ((with_reducible refine gate_dst (N := 5) rfl ?_); refine box_event ?hg (N := 5) ?hd (cs := #[.int .i64 a2_0, .string a2_1]) (t := 37) ?hr ?_; (case hd => rfl); (case hg => rfl); (case hr => first | (go_simp; done) | (go_simp; rfl)); intro gb509 hg w21 hbox hb; have n0_ := zM (below_step (zB HB.out) hb); have n1_ := zM (hbox); have n2_ := zM ((by rw [hg]; exact (below_size (zB HB.out)) : w.heap.size ≤ gb509)); have n3_ := zM ((by rw [hg]; exact (below_size (zB HB.out)) : w.heap.size ≤ gb509)); clear HB; have HB := n0_; have BK509 := n1_; have GW509 := n2_; have GE509 := n3_; clear n0_ n1_ n2_ n3_; clear hb hbox hg) | ((with_reducible refine gate_callee (f := 18) rfl ?_); refine zG (some 20) Try.func18 #[.slice A0 l0.length c0, .int .i64 1048576] ?_; (with_reducible refine (laws_szPieceS.calls k _ _ l0 1048576 t510 _ ?side1 ?side2 A4.out).mono ?_); (case side1 => exact (zC (Kd.C_below HR0.out HB.out))); (case side2 => exact HC0.out); rintro e w22 ⟨rfl, hb⟩; refine ⟨_, rfl, ?_⟩; have n0_ := zM (blk_below (g := gb509) (o := .cells #[.int .i64 a2_0, .string a2_1] 37 (0, 0)) (zP BK509.out) hb); have n1_ := zM (below_step (zB1 GE509.out HB.out) hb); clear BK509; clear HB; have BK509 := n0_; have HB := n1_; clear n0_ n1_; (try clear hb); (try clear hb2); (try clear hk); (try clear hi); have hcz23_0 : w22.cell? ⟨gb509, 0, none⟩ = some (.int .i64 a2_0) := (blk_cell BK509.out 0).trans rfl; have hcz23_1 : w22.cell? ⟨gb509, 1, none⟩ = some (.string a2_1) := (blk_cell BK509.out 1).trans rfl; have hfz23_0 := blk_frozen BK509.out 0; have hfz23_1 := blk_frozen BK509.out 1) | ((with_reducible refine gate_callee (f := 19) rfl ?_); refine zG (some 25) Try.func19 #[.agg #[.int .i64 a2_0, .string a2_1], .int .i64 t510] ?_; (with_reducible refine (laws_szPiece.calls a2_0 a2_1 t510 t511 _ A8.out).mono ?_); rintro e w24 ⟨rfl, hb⟩; refine ⟨_, rfl, ?_⟩; have n0_ := zM (blk_below (g := gb509) (o := .cells #[.int .i64 a2_0, .string a2_1] 37 (0, 0)) (zP BK509.out) hb); have n1_ := zM (below_step (zB1 GE509.out HB.out) hb); clear BK509; clear HB; have BK509 := n0_; have HB := n1_; clear n0_ n1_; (try clear hb); (try clear hb2); (try clear hk); (try clear hi)))
   have n0_ := zM (blk_drew BK509.out)
   have n1_ := zM (below_drew1 HB.out)
   clear BK509
   clear HB
   have BK509 := n0_
   have HB := n1_
   clear n0_ n1_
   refine start_ (n := 11) (S := fun w' => w'.cell? ⟨gb509, 0, none⟩ = some (.int .i64 a2_0) ∧ w'.cell? ⟨gb509, 1, none⟩ = some (.string a2_1)) (ds := []) (ba 11 0).toArray (by kernel_rfl) rfl rfl ⟨(blk_cell BK509.out 0).trans rfl, (blk_cell BK509.out 1).trans rfl⟩ (fun hHeld => ?_); refine with_tabW laws_FnExactAddPiece.tab8 laws_FnExactAddPiece.bits8 (fun HT_ HW_ => ?_)
   generalize w24.drew = w25 at BK509 HB hHeld ⊢
   refine zq 0 (some 29) (ba 11 1).toArray HT_ ?_
   refine zq 2 (some 31) (ba 11 5).toArray HT_ ?_
   refine zt2 3 (some 32) (ba 11 13).toArray HT_ HW_ hHeld ?_
   refine one_ (i := 1) (N := some 30) (ba 11 15).toArray rfl rfl (one_of HT_.out (by kernel_rfl)) (by decide) (fun K hK => ?_)
   refine goes_ Try.func21 (by kernel_rfl) rfl #[.slice A0 l0.length c0] (by rfl) rfl rfl (by (try simp only [List.map_toArray, List.map_cons, List.map_nil]); first | done | rfl | (simp only [List.length_drop, List.length_take]; rfl)) ?_
   with_reducible refine (laws_toPieceS.calls k _ _ l0 t512 _ ?side1 ?side2 A14.out).mono ?_
   (case side1 => exact (zC (Kd.C_below HR0.out HB.out)))
   (case side2 => exact HC0.out)
   rintro e w26 ⟨v513, rfl, ho0, hb⟩
   refine ⟨_, rfl, ?_⟩
   have n0_ := zM (Kd.R_lower ho0 (below_size (zB1 GE509.out HB.out)))
   have n1_ := zM (blk_below (g := gb509) (o := .cells #[.int .i64 a2_0, .string a2_1] 37 (0, 0)) (zP BK509.out) hb)
   have n2_ := zM (below_step (zB1 GE509.out HB.out) hb)
   clear BK509
   clear HB
   have HO514 := n0_
   have BK509 := n1_
   have HB := n2_
   clear n0_ n1_ n2_
   (try clear hb)
   (try clear hb2)
   (try clear hk)
   (try clear hi)
   (try clear ho0)
   refine hK.out _ _ ⟨(blk_cell BK509.out 0).trans rfl, (blk_cell BK509.out 1).trans rfl⟩ (fun hHeld => ?_)
   clear hK K
   refine norm_ (a' := ?_) ?_ ?_
   rotate_left
   ·show Act.put _ (some 30) _ = _
    simp only [Act.put, List.setIfInBounds_toArray, List.set_cons_zero, List.set_cons_succ, i64_w, i32_w]
    rfl
   refine one_ (i := 4) (N := some 33) (ba 11 31).toArray rfl rfl (one_of HT_.out (by kernel_rfl)) (by decide) (fun K hK => ?_)
   refine goes_ Try.func22 (by kernel_rfl) rfl #[.agg #[.int .i64 a2_0, .string a2_1]] (by rfl) rfl rfl (by (try simp only [List.map_toArray, List.map_cons, List.map_nil]); first | done | rfl | (simp only [List.length_drop, List.length_take]; rfl)) ?_
   with_reducible refine (laws_toPiece.calls a2_0 a2_1 t515 t516 _ A15.out).mono ?_
   rintro e w27 ⟨rfl, hb⟩
   refine ⟨_, rfl, ?_⟩
   have n0_ := zM (Kd.R_below (zR HO514.out) hb)
   have n1_ := zM (blk_below (g := gb509) (o := .cells #[.int .i64 a2_0, .string a2_1] 37 (0, 0)) (zP BK509.out) hb)
   have n2_ := zM (below_step (zB1 GE509.out HB.out) hb)
   clear HO514
   clear BK509
   clear HB
   have HO514 := n0_
   have BK509 := n1_
   have HB := n2_
   clear n0_ n1_ n2_
   (try clear hb)
   (try clear hb2)
   (try clear hk)
   (try clear hi)
   obtain ⟨Ao28, co28, eo28⟩ := Kd.R_slice HO514.out
   (first | subst eo28 | (injection eo28 with f1_ f2_ f3_; have f4_ := f1_.symm; have f5_ := f3_.symm; clear f1_ f2_ f3_; subst f4_; subst f5_))
   refine hK.out _ _ ⟨(blk_cell BK509.out 0).trans rfl, (blk_cell BK509.out 1).trans rfl⟩ (fun hHeld => ?_)
   clear hK K
   refine norm_ (a' := ?_) ?_ ?_
   rotate_left
   ·show Act.put _ (some 33) _ = _
    simp only [Act.put, List.setIfInBounds_toArray, List.set_cons_zero, List.set_cons_succ, i64_w, i32_w]
    rfl
   refine one_ (i := 5) (N := some 34) (ba 11 63).toArray rfl rfl (one_of HT_.out (by kernel_rfl)) (by decide) (fun K hK => ?_)
   refine goes_ Try.func20 (by kernel_rfl) rfl #[.slice Ao28 t512.length co28, .int .i64 a1, .agg #[.int .i64 t515, .string t516]] (by rfl) rfl rfl (by (try simp only [List.map_toArray, List.map_cons, List.map_nil]); first | done | rfl | (simp only [List.length_drop, List.length_take]; rfl)) ?_
   with_reducible refine (spec_AddPiece.calls k _ _ t512 a1 t515 t516 t517 t520 _ ?side1 ?side2 A16.out).mono ?_
   (case side1 => exact (zC ((Kd.R_reads' HO514.out).2.2)))
   (case side2 => exact (Kd.R_reads' HO514.out).2.1)
   rintro e w29 ⟨v518, rfl, ho0, hb⟩
   refine ⟨_, rfl, ?_⟩
   have n0_ := zM (Kd.R_elder' (zR HO514.out) (Kd.R_base ho0) hb)
   have n1_ := zM (Kd.R_lower (Kd.R_new' ho0 (Kd.R_lt (zR HO514.out))) (below_size (zB1 GE509.out HB.out)))
   have n2_ := zM (blk_below (g := gb509) (o := .cells #[.int .i64 a2_0, .string a2_1] 37 (0, 0)) (zP BK509.out) hb)
   have n3_ := zM (below_step (zB1 GE509.out HB.out) hb)
   clear HO514
   clear BK509
   clear HB
   have HO514 := n0_
   have HO519 := n1_
   have BK509 := n2_
   have HB := n3_
   clear n0_ n1_ n2_ n3_
   (try clear hb)
   (try clear hb2)
   (try clear hk)
   (try clear hi)
   (try clear ho0)
   refine hK.out _ _ ⟨(blk_cell BK509.out 0).trans rfl, (blk_cell BK509.out 1).trans rfl⟩ (fun hHeld => ?_)
   clear hK K
   refine norm_ (a' := ?_) ?_ ?_
   rotate_left
   ·show Act.put _ (some 34) _ = _
    simp only [Act.put, List.setIfInBounds_toArray, List.set_cons_zero, List.set_cons_succ, i64_w, i32_w]
    rfl
   refine zq 6 (some 28) (ba 11 127).toArray HT_ ?_
   refine zq 7 (some 35) (ba 11 255).toArray HT_ ?_
   refine zq 8 (some 36) (ba 11 511).toArray HT_ ?_
   refine zq 9 (some 8) (ba 11 1023).toArray HT_ ?_
   refine zq 10 (some 9) (ba 11 2047).toArray HT_ ?_
   refine done_ (done_of HT_.out (by kernel_rfl)) ?_
   go_upto_region 11 with (first | ((with_reducible refine gate_callee (f := 21) rfl ?_); refine zG (some 38) Try.func21 #[.slice A0 l0.length c0] ?_; (with_reducible refine (laws_toPieceS.calls k _ _ l0 t521 _ ?side1 ?side2 A17.out).mono ?_); (case side1 => exact (zC (Kd.C_below HR0.out HB.out))); (case side2 => exact HC0.out); rintro e w30 ⟨v522, rfl, ho0, hb⟩; refine ⟨_, rfl, ?_⟩; have n0_ := zM (Kd.R_elder' (zR HO514.out) (Kd.R_base ho0) hb); have n1_ := zM (Kd.R_elder' (zR HO519.out) (Kd.R_base ho0) hb); have n2_ := zM (Kd.R_lower (Kd.R_new' (Kd.R_new' ho0 (Kd.R_lt (zR HO514.out))) (Kd.R_lt (zR HO519.out))) (below_size (zB1 GE509.out HB.out))); have n3_ := zM (blk_below (g := gb509) (o := .cells #[.int .i64 a2_0, .string a2_1] 37 (0, 0)) (zP BK509.out) hb); have n4_ := zM (below_step (zB1 GE509.out HB.out) hb); clear HO514; clear HO519; clear BK509; clear HB; have HO514 := n0_; have HO519 := n1_; have HO523 := n2_; have BK509 := n3_; have HB := n4_; clear n0_ n1_ n2_ n3_ n4_; (try clear hb); (try clear hb2); (try clear hk); (try clear hi); (try clear ho0); have hcz31_0 : w30.cell? ⟨gb509, 0, none⟩ = some (.int .i64 a2_0) := (blk_cell BK509.out 0).trans rfl; have hcz31_1 : w30.cell? ⟨gb509, 1, none⟩ = some (.string a2_1) := (blk_cell BK509.out 1).trans rfl; have hfz31_0 := blk_frozen BK509.out 0; have hfz31_1 := blk_frozen BK509.out 1) | ((with_reducible refine gate_callee (f := 22) rfl ?_); refine zG (some 43) Try.func22 #[.agg #[.int .i64 a2_0, .string a2_1]] ?_; (with_reducible refine (laws_toPiece.calls a2_0 a2_1 t524 t525 _ A18.out).mono ?_); rintro e w32 ⟨rfl, hb⟩; refine ⟨_, rfl, ?_⟩; have n0_ := zM (Kd.R_below (zR HO514.out) hb); have n1_ := zM (Kd.R_below (zR HO519.out) hb); have n2_ := zM (Kd.R_below (zR HO523.out) hb); have n3_ := zM (blk_below (g := gb509) (o := .cells #[.int .i64 a2_0, .string a2_1] 37 (0, 0)) (zP BK509.out) hb); have n4_ := zM (below_step (zB1 GE509.out HB.out) hb); clear HO514; clear HO519; clear HO523; clear BK509; clear HB; have HO514 := n0_; have HO519 := n1_; have HO523 := n2_; have BK509 := n3_; have HB := n4_; clear n0_ n1_ n2_ n3_ n4_; (try clear hb); (try clear hb2); (try clear hk); (try clear hi); obtain ⟨Ao33, co33, eo33⟩ := Kd.R_slice HO523.out; subst eo33) | ((with_reducible refine gate_callee (f := 23) rfl ?_); refine zG (some 44) Try.func23 #[.slice Ao33 t521.length co33, .int .i64 a1, .agg #[.int .i64 t524, .string t525]] ?_; (with_reducible refine (impl_AddPiece.calls k _ _ t521 a1 t524 t525 t526 t529 _ ?side1 ?side2 A19.out).mono ?_); (case side1 => exact (zC ((Kd.R_reads' HO523.out).2.2))); (case side2 => exact (Kd.R_reads' HO523.out).2.1); rintro e w34 ⟨v527, rfl, ho0, hb⟩; refine ⟨_, rfl, ?_⟩; have n0_ := zM (Kd.R_elder' (zR HO514.out) (Kd.R_base ho0) hb); have n1_ := zM (Kd.R_elder' (zR HO519.out) (Kd.R_base ho0) hb); have n2_ := zM (Kd.R_elder' (zR HO523.out) (Kd.R_base ho0) hb); have n3_ := zM (Kd.R_lower (Kd.R_new' (Kd.R_new' (Kd.R_new' ho0 (Kd.R_lt (zR HO514.out))) (Kd.R_lt (zR HO519.out))) (Kd.R_lt (zR HO523.out))) (below_size (zB1 GE509.out HB.out))); have n4_ := zM (blk_below (g := gb509) (o := .cells #[.int .i64 a2_0, .string a2_1] 37 (0, 0)) (zP BK509.out) hb); have n5_ := zM (below_step (zB1 GE509.out HB.out) hb); clear HO514; clear HO519; clear HO523; clear BK509; clear HB; have HO514 := n0_; have HO519 := n1_; have HO523 := n2_; have HO528 := n3_; have BK509 := n4_; have HB := n5_; clear n0_ n1_ n2_ n3_ n4_ n5_; (try clear hb); (try clear hb2); (try clear hk); (try clear hi); (try clear ho0)))
   (try simp only [Act.put, List.setIfInBounds_toArray, List.set_cons_zero, List.set_cons_succ])
   go_cut [55] (fun v55 wc => ∃ (kq : Nat) (x55_19 : Bool), v55 = .bool x55_19 ∧ Aside0 (laws_FnExactAddPiece.j0 kq l0 a1 t517 t520 t521 t526 t529 x55_19 a2_0 a2_1 = some r) ∧ Aside0 (kq ≤ k) ∧ Aside0 (Kd.R k44 44 wc w.heap.size (fun k_ => some k_ ≠ ((.slice Ao33 t521.length co33) : Value).ownBlock ∧ some k_ ≠ (v527 : Value).ownBlock) v518 t517) ∧ Aside0 (Kd.R k44 44 wc w.heap.size (fun k_ => some k_ ≠ (v518 : Value).ownBlock ∧ some k_ ≠ (v527 : Value).ownBlock) (.slice Ao33 t521.length co33) t521) ∧ Aside0 (Kd.R k44 44 wc w.heap.size (fun k_ => some k_ ≠ (v518 : Value).ownBlock ∧ some k_ ≠ ((.slice Ao33 t521.length co33) : Value).ownBlock) v527 t526) ∧ Aside0 (wc.heap[gb509]? = some (.cells #[.int .i64 a2_0, .string a2_1] 37 (0, 0))) ∧ Aside0 (Below w.heap.size w wc))
   case first =>
    have H := HC20.out
    clear HC20
    replace H := Option.bind_eq_some_iff.mp H
    obtain ⟨t530, A350, H⟩ := H
    try dsimp only at H
    have A35 := zM A350
    clear A350
    by_cases c36 : t530 = true
    ·subst c36
     rw [if_pos rfl] at H
     have H' := zM H
     clear H
     obtain ⟨Ao37, co37, eo37⟩ := Kd.R_slice HO528.out
     subst eo37
     obtain ⟨Ao38, co38, eo38⟩ := Kd.R_slice HO519.out
     subst eo38
     go_wp2_with (first | ((with_reducible refine gate_callee (f := 24) rfl ?_); refine zG (some 49) Try.func24 #[.slice Ao37 t526.length co37, .slice Ao38 t517.length co38] ?_; (with_reducible refine (laws_eqPieceS.calls k _ _ t526 _ _ t517 true _ ?side1 ?side2 ?side3 ?side4 A35.out).mono ?_); (case side1 => exact (zC ((Kd.R_reads' HO528.out).2.2))); (case side2 => exact (Kd.R_reads' HO528.out).2.1); (case side3 => exact (zC ((Kd.R_reads' HO519.out).2.2))); (case side4 => exact (Kd.R_reads' HO519.out).2.1); rintro e w39 ⟨rfl, hb⟩; refine ⟨_, rfl, ?_⟩; have n0_ := zM (Kd.R_below (zR HO514.out) hb); have n1_ := zM (Kd.R_below (zR HO519.out) hb); have n2_ := zM (Kd.R_below (zR HO523.out) hb); have n3_ := zM (Kd.R_below (zR HO528.out) hb); have n4_ := zM (blk_below (g := gb509) (o := .cells #[.int .i64 a2_0, .string a2_1] 37 (0, 0)) (zP BK509.out) hb); have n5_ := zM (below_step (zB1 GE509.out HB.out) hb); clear HO514; clear HO519; clear HO523; clear HO528; clear BK509; clear HB; have HO514 := n0_; have HO519 := n1_; have HO523 := n2_; have HO528 := n3_; have BK509 := n4_; have HB := n5_; clear n0_ n1_ n2_ n3_ n4_ n5_; (try clear hb); (try clear hb2); (try clear hk); (try clear hi)))
     go_meet
     case rel => exact ⟨_, ((t529 != t520)), zS, H', ⟨by first | omega | exact Nat.le_refl _⟩, ⟨(zRm HO519.out (fun _ hk => ⟨hk.1.2, hk.2⟩))⟩, ⟨(zRm HO523.out (fun _ hk => ⟨hk.1.2, hk.2⟩))⟩, ⟨(zRm HO528.out (fun _ hk => ⟨hk.1.2, hk.2⟩))⟩, ⟨(zP BK509.out)⟩, ⟨(zB1 GE509.out HB.out)⟩⟩
    ·replace c36 := Bool.eq_false_iff.mpr c36
     subst c36
     rw [if_neg (show ¬ (false = true) by decide)] at H
     have H' := zM H
     clear H
     obtain ⟨Ao40, co40, eo40⟩ := Kd.R_slice HO528.out
     subst eo40
     obtain ⟨Ao41, co41, eo41⟩ := Kd.R_slice HO519.out
     subst eo41
     go_wp2_with (first | ((with_reducible refine gate_callee (f := 24) rfl ?_); refine zG (some 49) Try.func24 #[.slice Ao40 t526.length co40, .slice Ao41 t517.length co41] ?_; (with_reducible refine (laws_eqPieceS.calls k _ _ t526 _ _ t517 false _ ?side1 ?side2 ?side3 ?side4 A35.out).mono ?_); (case side1 => exact (zC ((Kd.R_reads' HO528.out).2.2))); (case side2 => exact (Kd.R_reads' HO528.out).2.1); (case side3 => exact (zC ((Kd.R_reads' HO519.out).2.2))); (case side4 => exact (Kd.R_reads' HO519.out).2.1); rintro e w42 ⟨rfl, hb⟩; refine ⟨_, rfl, ?_⟩; have n0_ := zM (Kd.R_below (zR HO514.out) hb); have n1_ := zM (Kd.R_below (zR HO519.out) hb); have n2_ := zM (Kd.R_below (zR HO523.out) hb); have n3_ := zM (Kd.R_below (zR HO528.out) hb); have n4_ := zM (blk_below (g := gb509) (o := .cells #[.int .i64 a2_0, .string a2_1] 37 (0, 0)) (zP BK509.out) hb); have n5_ := zM (below_step (zB1 GE509.out HB.out) hb); clear HO514; clear HO519; clear HO523; clear HO528; clear BK509; clear HB; have HO514 := n0_; have HO519 := n1_; have HO523 := n2_; have HO528 := n3_; have BK509 := n4_; have HB := n5_; clear n0_ n1_ n2_ n3_ n4_ n5_; (try clear hb); (try clear hb2); (try clear hk); (try clear hi)))
     go_meet
     case rel => exact ⟨_, (true), zS, H', ⟨by first | omega | exact Nat.le_refl _⟩, ⟨(zRm HO519.out (fun _ hk => ⟨hk.1.2, hk.2⟩))⟩, ⟨(zRm HO523.out (fun _ hk => ⟨hk.1.2, hk.2⟩))⟩, ⟨(zRm HO528.out (fun _ hk => ⟨hk.1.2, hk.2⟩))⟩, ⟨(zP BK509.out)⟩, ⟨(zB1 GE509.out HB.out)⟩⟩
   case rest =>
    clear HC20
    try clear c1
    try clear c2
    try clear p2
    try clear c3
    try clear c4
    try clear c5
    try clear c5b0
    try clear c9
    try clear c9b0
    try clear c18
    try clear c19
    try clear c20
    try clear c21
    try clear c22
    try clear c23
    try clear c24
    try clear c36
    try clear hcz12_0
    try clear hcz12_1
    try clear hcz23_0
    try clear hcz23_1
    try clear hcz31_0
    try clear hcz31_1
    try clear hfz12_0
    try clear hfz12_1
    try clear hfz23_0
    try clear hfz23_1
    try clear hfz31_0
    try clear hfz31_1
    obtain ⟨kq, x55_19, rfl, HA, HJ19, HO_8, HO_10, HO_11, BK509, HB⟩ := hcut
    cases kq with
    | zero => exact absurd HA.out (by simp [laws_FnExactAddPiece.j0])
    | succ kj19 =>
     have H := HA.out
     clear HA
     simp only [laws_FnExactAddPiece.j0] at H
     by_cases c43 : x55_19 = true
     ·subst c43
      rw [if_pos rfl] at H
      obtain rfl := Option.some.inj H
      go_wp2
      go_ret
      exact ⟨zE, (zB1 GE509.out HB.out)⟩
     ·replace c43 := Bool.eq_false_iff.mpr c43
      subst c43
      rw [if_neg (show ¬ (false = true) by decide)] at H
      replace H := Option.bind_eq_some_iff.mp H
      obtain ⟨t531, A440, H⟩ := H
      try dsimp only at H
      have A44 := zM A440
      clear A440
      replace H := Option.bind_eq_some_iff.mp H
      obtain ⟨t534, A450, H⟩ := H
      try dsimp only at H
      have A45 := zM A450
      clear A450
      by_cases c46 : t534 = true
      ·subst c46
       rw [if_pos rfl] at H
       replace H := Option.bind_eq_some_iff.mp H
       obtain ⟨⟨t535, t536⟩, A470, H⟩ := H
       try dsimp only at H
       have A47 := zM A470
       clear A470
       have HC48 := zM H
       clear H
       go_upto_region 17 with (first | ((with_reducible refine gate_callee (f := 21) rfl ?_); refine zG (some 58) Try.func21 #[.slice A0 l0.length c0] ?_; (with_reducible refine (laws_toPieceS.calls kj19 _ _ l0 t531 _ ?side1 ?side2 A44.out).mono ?_); (case side1 => exact (zC (Kd.C_below HR0.out HB.out))); (case side2 => exact HC0.out); rintro e w49 ⟨v532, rfl, ho0, hb⟩; refine ⟨_, rfl, ?_⟩; have n0_ := zM (Kd.R_elder' (zR HO_8.out) (Kd.R_base ho0) hb); have n1_ := zM (Kd.R_elder' (zR HO_10.out) (Kd.R_base ho0) hb); have n2_ := zM (Kd.R_elder' (zR HO_11.out) (Kd.R_base ho0) hb); have n3_ := zM (Kd.R_lower (Kd.R_new' (Kd.R_new' (Kd.R_new' ho0 (Kd.R_lt (zR HO_8.out))) (Kd.R_lt (zR HO_10.out))) (Kd.R_lt (zR HO_11.out))) (below_size (zB1 GE509.out HB.out))); have n4_ := zM (blk_below (g := gb509) (o := .cells #[.int .i64 a2_0, .string a2_1] 37 (0, 0)) (zP BK509.out) hb); have n5_ := zM (below_step (zB1 GE509.out HB.out) hb); clear HO_8; clear HO_10; clear HO_11; clear BK509; clear HB; have HO_8 := n0_; have HO_10 := n1_; have HO_11 := n2_; have HO533 := n3_; have BK509 := n4_; have HB := n5_; clear n0_ n1_ n2_ n3_ n4_ n5_; (try clear hb); (try clear hb2); (try clear hk); (try clear hi); (try clear ho0); obtain ⟨Ao50, co50, eo50⟩ := Kd.R_slice HO533.out; subst eo50) | ((with_reducible refine gate_callee (f := 24) rfl ?_); refine zG (some 59) Try.func24 #[.slice Ao33 t521.length co33, .slice Ao50 t531.length co50] ?_; (with_reducible refine (laws_eqPieceS.calls kj19 _ _ t521 _ _ t531 true _ ?side1 ?side2 ?side3 ?side4 A45.out).mono ?_); (case side1 => exact (zC ((Kd.R_reads' HO_10.out).2.2))); (case side2 => exact (Kd.R_reads' HO_10.out).2.1); (case side3 => exact (zC ((Kd.R_reads' HO533.out).2.2))); (case side4 => exact (Kd.R_reads' HO533.out).2.1); rintro e w51 ⟨rfl, hb⟩; refine ⟨_, rfl, ?_⟩; have n0_ := zM (Kd.R_below (zR HO_8.out) hb); have n1_ := zM (Kd.R_below (zR HO_10.out) hb); have n2_ := zM (Kd.R_below (zR HO_11.out) hb); have n3_ := zM (Kd.R_below (zR HO533.out) hb); have n4_ := zM (blk_below (g := gb509) (o := .cells #[.int .i64 a2_0, .string a2_1] 37 (0, 0)) (zP BK509.out) hb); have n5_ := zM (below_step (zB1 GE509.out HB.out) hb); clear HO_8; clear HO_10; clear HO_11; clear HO533; clear BK509; clear HB; have HO_8 := n0_; have HO_10 := n1_; have HO_11 := n2_; have HO533 := n3_; have BK509 := n4_; have HB := n5_; clear n0_ n1_ n2_ n3_ n4_ n5_; (try clear hb); (try clear hb2); (try clear hk); (try clear hi)) | ((with_reducible refine gate_callee (f := 25) rfl ?_); refine zG (some 63) Try.func25 #[.slice Ao33 t521.length co33, .int .i64 1] ?_; (with_reducible refine (laws_markPieceS.calls kj19 (fun k_ => some k_ = (.slice Ao33 t521.length co33 : Value).ownBlock) (.slice Ao33 t521.length co33) t521 1 t535 t536 w _ ?side1 ?side2 A47.out).mono ?_); (case side1 => exact (zB1 GE509.out HB.out)); (case side2 => exact Kd.R_tight rfl HO_10.out); rintro e w52 ⟨rfl, hy0, hb, hkp⟩; refine ⟨_, rfl, ?_⟩; have n0_ := zM (Kd.R_mono (ok' := fun k_ => some k_ ≠ (.slice Ao33 t521.length co33 : Value).ownBlock ∧ some k_ ≠ (v527 : Value).ownBlock ∧ some k_ ≠ (.slice Ao50 t531.length co50 : Value).ownBlock) (Kd.R_keptB (HO_8.out) hkp (fun k_ hk_ hs_ => (hk_.1.1) hs_)) (fun k_ hk_ => ⟨hk_.1.1.1, hk_.1.1.2, hk_.1.2⟩)); have n1_ := zM (Kd.R_reok rfl hy0 (fun k_ e_ => HO_10.out.1 k_ e_)); have n2_ := zM (Kd.R_mono (ok' := fun k_ => some k_ ≠ (v518 : Value).ownBlock ∧ some k_ ≠ (.slice Ao33 t521.length co33 : Value).ownBlock ∧ some k_ ≠ (.slice Ao50 t531.length co50 : Value).ownBlock) (Kd.R_keptB (HO_11.out) hkp (fun k_ hk_ hs_ => (hk_.1.2) hs_)) (fun k_ hk_ => ⟨hk_.1.1.1, hk_.1.1.2, hk_.1.2⟩)); have n3_ := zM (blk_kept (zP BK509.out) hkp (fun hs_ => (fun e_ => (Kd.R_ne HO_10.out BK509.out (by decide)) e_) hs_)); have n4_ := zM (Kd.R_mono (ok' := fun k_ => some k_ ≠ (v518 : Value).ownBlock ∧ some k_ ≠ (.slice Ao33 t521.length co33 : Value).ownBlock ∧ some k_ ≠ (v527 : Value).ownBlock) (Kd.R_keptB (HO533.out) hkp (fun k_ hk_ hs_ => (hk_.1.2) hs_)) (fun k_ hk_ => ⟨hk_.1.1.1.2, hk_.1.1.2, hk_.1.2⟩)); have n5_ := zM (hb); clear HO_8; clear HO_10; clear HO_11; clear BK509; clear HO533; clear HB; have HO_8 := n0_; have HO_10 := n1_; have HO_11 := n2_; have BK509 := n3_; have HO533 := n4_; have HB := n5_; clear n0_ n1_ n2_ n3_ n4_ n5_; (try clear hb); (try clear hkp); (try clear hy0)))
       (try simp only [Act.put, List.setIfInBounds_toArray, List.set_cons_zero, List.set_cons_succ])
       go_cut [76] (fun v76 wc => ∃ (kq : Nat) (x76_47 : Bool), v76 = .bool x76_47 ∧ Aside0 (laws_FnExactAddPiece.j1 kq l0 a1 t517 t520 t526 x76_47 a2_0 a2_1 = some r) ∧ Aside0 (kq ≤ kj19) ∧ Aside0 (Kd.R k44 44 wc w.heap.size (fun k_ => some k_ ≠ (v527 : Value).ownBlock) v518 t517) ∧ Aside0 (Kd.R k44 44 wc w.heap.size (fun k_ => some k_ ≠ (v518 : Value).ownBlock) v527 t526) ∧ Aside0 (wc.heap[gb509]? = some (.cells #[.int .i64 a2_0, .string a2_1] 37 (0, 0))) ∧ Aside0 (Below w.heap.size w wc))
       case first =>
        have H := HC48.out
        clear HC48
        by_cases c53 : t535 < 0
        ·rw [if_pos c53] at H
         have c53b0 : decide (t535 < 0) = true := decide_eq_true c53
         clear c53
         (first | rw [c53b0] | (simp only [i64_w, i32_w]; rw [c53b0]) | skip)
         have H' := zM H
         clear H
         go_wp2
         go_meet
         case rel => exact ⟨_, (true), zS, H', ⟨by have := HJ19.out; first | omega | exact Nat.le_refl _⟩, ⟨(zRm HO_8.out (fun _ hk => hk.2.1))⟩, ⟨(zRm HO_11.out (fun _ hk => hk.1))⟩, ⟨(zP BK509.out)⟩, ⟨(zB1 GE509.out HB.out)⟩⟩
        ·rw [if_neg c53] at H
         have c53b0 : decide (t535 < 0) = false := decide_eq_false c53
         clear c53
         (first | rw [c53b0] | (simp only [i64_w, i32_w]; rw [c53b0]) | skip)
         replace H := Option.bind_eq_some_iff.mp H
         obtain ⟨t537, A540, H⟩ := H
         try dsimp only at H
         have A54 := zM A540
         clear A540
         by_cases c55 : t537 = true
         ·subst c55
          rw [if_pos rfl] at H
          have H' := zM H
          clear H
          obtain ⟨Ao56, co56, eo56⟩ := Kd.R_slice HO_11.out
          subst eo56
          obtain ⟨Ao57, co57, eo57⟩ := Kd.R_slice HO_8.out
          subst eo57
          go_wp2_with (first | (go_at_call 24; (with_reducible refine (laws_eqPieceS.calls kj19 _ _ t526 _ _ t517 true _ ?side1 ?side2 ?side3 ?side4 A54.out).mono ?_); (case side1 => exact (zC ((Kd.R_reads' HO_11.out).2.2))); (case side2 => exact (Kd.R_reads' HO_11.out).2.1); (case side3 => exact (zC ((Kd.R_reads' HO_8.out).2.2))); (case side4 => exact (Kd.R_reads' HO_8.out).2.1); rintro e w58 ⟨rfl, hb⟩; have n0_ := zM (Kd.R_below (zR HO_8.out) hb); have n1_ := zM (Kd.R_below (zR HO_10.out) hb); have n2_ := zM (Kd.R_below (zR HO_11.out) hb); have n3_ := zM (Kd.R_below (zR HO533.out) hb); have n4_ := zM (blk_below (g := gb509) (o := .cells #[.int .i64 a2_0, .string a2_1] 37 (0, 0)) (zP BK509.out) hb); have n5_ := zM (below_step (zB1 GE509.out HB.out) hb); clear HO_8; clear HO_10; clear HO_11; clear HO533; clear BK509; clear HB; have HO_8 := n0_; have HO_10 := n1_; have HO_11 := n2_; have HO533 := n3_; have BK509 := n4_; have HB := n5_; clear n0_ n1_ n2_ n3_ n4_ n5_; (try clear hb); (try clear hb2); (try clear hk); (try clear hi)))
          go_meet
          case rel => exact ⟨_, ((t529 != t520)), zS, H', ⟨by have := HJ19.out; first | omega | exact Nat.le_refl _⟩, ⟨(zRm HO_8.out (fun _ hk => hk.2.1))⟩, ⟨(zRm HO_11.out (fun _ hk => hk.1))⟩, ⟨(zP BK509.out)⟩, ⟨(zB1 GE509.out HB.out)⟩⟩
         ·replace c55 := Bool.eq_false_iff.mpr c55
          subst c55
          rw [if_neg (show ¬ (false = true) by decide)] at H
          have H' := zM H
          clear H
          obtain ⟨Ao59, co59, eo59⟩ := Kd.R_slice HO_11.out
          subst eo59
          obtain ⟨Ao60, co60, eo60⟩ := Kd.R_slice HO_8.out
          subst eo60
          go_wp2_with (first | (go_at_call 24; (with_reducible refine (laws_eqPieceS.calls kj19 _ _ t526 _ _ t517 false _ ?side1 ?side2 ?side3 ?side4 A54.out).mono ?_); (case side1 => exact (zC ((Kd.R_reads' HO_11.out).2.2))); (case side2 => exact (Kd.R_reads' HO_11.out).2.1); (case side3 => exact (zC ((Kd.R_reads' HO_8.out).2.2))); (case side4 => exact (Kd.R_reads' HO_8.out).2.1); rintro e w61 ⟨rfl, hb⟩; have n0_ := zM (Kd.R_below (zR HO_8.out) hb); have n1_ := zM (Kd.R_below (zR HO_10.out) hb); have n2_ := zM (Kd.R_below (zR HO_11.out) hb); have n3_ := zM (Kd.R_below (zR HO533.out) hb); have n4_ := zM (blk_below (g := gb509) (o := .cells #[.int .i64 a2_0, .string a2_1] 37 (0, 0)) (zP BK509.out) hb); have n5_ := zM (below_step (zB1 GE509.out HB.out) hb); clear HO_8; clear HO_10; clear HO_11; clear HO533; clear BK509; clear HB; have HO_8 := n0_; have HO_10 := n1_; have HO_11 := n2_; have HO533 := n3_; have BK509 := n4_; have HB := n5_; clear n0_ n1_ n2_ n3_ n4_ n5_; (try clear hb); (try clear hb2); (try clear hk); (try clear hi)))
          go_meet
          case rel => exact ⟨_, (true), zS, H', ⟨by have := HJ19.out; first | omega | exact Nat.le_refl _⟩, ⟨(zRm HO_8.out (fun _ hk => hk.2.1))⟩, ⟨(zRm HO_11.out (fun _ hk => hk.1))⟩, ⟨(zP BK509.out)⟩, ⟨(zB1 GE509.out HB.out)⟩⟩
       case rest =>
        clear HC48
        try clear c1
        try clear c2
        try clear p2
        try clear c3
        try clear c4
        try clear c5
        try clear c5b0
        try clear c9
        try clear c9b0
        try clear c18
        try clear c19
        try clear c20
        try clear c21
        try clear c22
        try clear c23
        try clear c24
        try clear c25
        try clear c36
        try clear c43
        try clear c46
        try clear c53
        try clear c53b0
        try clear c55
        try clear hcz12_0
        try clear hcz12_1
        try clear hcz23_0
        try clear hcz23_1
        try clear hcz31_0
        try clear hcz31_1
        try clear hfz12_0
        try clear hfz12_1
        try clear hfz23_0
        try clear hfz23_1
        try clear hfz31_0
        try clear hfz31_1
        try clear p2
        obtain ⟨kq, x76_47, rfl, HA, HJ47, HO_8, HO_11, BK509, HB⟩ := hcut
        cases kq with
        | zero => exact absurd HA.out (by simp [laws_FnExactAddPiece.j1])
        | succ kj47 =>
         have H := HA.out
         clear HA
         simp only [laws_FnExactAddPiece.j1] at H
         by_cases c62 : x76_47 = true
         ·subst c62
          rw [if_pos rfl] at H
          obtain rfl := Option.some.inj H
          go_wp2
          go_ret
          exact ⟨zE, (zB1 GE509.out HB.out)⟩
         ·replace c62 := Bool.eq_false_iff.mpr c62
          subst c62
          rw [if_neg (show ¬ (false = true) by decide)] at H
          replace H := Option.bind_eq_some_iff.mp H
          obtain ⟨⟨t538, t539⟩, A630, H⟩ := H
          try dsimp only at H
          have A63 := zM A630
          clear A630
          replace H := Option.bind_eq_some_iff.mp H
          obtain ⟨t540, A640, H⟩ := H
          try dsimp only at H
          have A64 := zM A640
          clear A640
          by_cases c65 : t540 < 0
          ·rw [if_pos c65] at H
           have c65b0 : decide (t540 < 0) = true := decide_eq_true c65
           clear c65
           obtain rfl := Option.some.inj H
           obtain ⟨Ao66, co66, eo66⟩ := Kd.R_slice HO_11.out
           subst eo66
           go_wp2_with (first | ((with_reducible refine gate_callee (f := 25) rfl ?_); refine zG (some 79) Try.func25 #[.slice Ao66 t526.length co66, .int .i64 1] ?_; (with_reducible refine (laws_markPieceS.calls kj47 (fun k_ => some k_ = (.slice Ao66 t526.length co66 : Value).ownBlock) (.slice Ao66 t526.length co66) t526 1 t538 t539 w _ ?side1 ?side2 A63.out).mono ?_); (case side1 => exact (zB1 GE509.out HB.out)); (case side2 => exact Kd.R_tight rfl HO_11.out); rintro e w67 ⟨rfl, hy0, hb, hkp⟩; refine ⟨_, rfl, ?_⟩; have n0_ := zM (Kd.R_mono (ok' := fun k_ => some k_ ≠ (.slice Ao66 t526.length co66 : Value).ownBlock) (Kd.R_keptB (HO_8.out) hkp (fun k_ hk_ hs_ => (hk_) hs_)) (fun k_ hk_ => hk_.1)); have n1_ := zM (Kd.R_reok rfl hy0 (fun k_ e_ => HO_11.out.1 k_ e_)); have n2_ := zM (blk_kept (zP BK509.out) hkp (fun hs_ => (fun e_ => (Kd.R_ne HO_11.out BK509.out (by decide)) e_) hs_)); have n3_ := zM (hb); clear HO_8; clear HO_11; clear BK509; clear HB; have HO_8 := n0_; have HO_11 := n1_; have BK509 := n2_; have HB := n3_; clear n0_ n1_ n2_ n3_; (try clear hb); (try clear hkp); (try clear hy0)) | ((with_reducible refine gate_callee (f := 26) rfl ?_); refine goesL_ (some 82) rfl rfl Try.func26 (by kernel_rfl) rfl #[.slice Ao66 t539.length co66, .int .i64 1] rfl (by (try simp only [List.map_toArray, List.map_cons, List.map_nil]); first | done | (rw [show t539.length = t526.length from (Kd.R_reads' HO_11.out).1.symm] <;> rfl) | rfl | (simp only [List.length_drop, List.length_take]; rfl)) ?_; (with_reducible refine (laws_heldPieceS.calls kj47 _ _ t539 1 t540 _ ?side1 ?side2 A64.out).mono ?_); (case side1 => exact (zC ((Kd.R_reads' HO_11.out).2.2))); (case side2 => rw [show t539.length = t526.length from (Kd.R_reads' HO_11.out).1.symm]; exact (Kd.R_reads' HO_11.out).2.1); rintro e w68 ⟨rfl, hb⟩; refine ⟨_, rfl, ?_⟩; have n0_ := zM (Kd.R_below (zR HO_8.out) hb); have n1_ := zM (Kd.R_below (zR HO_11.out) hb); have n2_ := zM (blk_below (g := gb509) (o := .cells #[.int .i64 a2_0, .string a2_1] 37 (0, 0)) (zP BK509.out) hb); have n3_ := zM (below_step (zB1 GE509.out HB.out) hb); clear HO_8; clear HO_11; clear BK509; clear HB; have HO_8 := n0_; have HO_11 := n1_; have BK509 := n2_; have HB := n3_; clear n0_ n1_ n2_ n3_; (try clear hb); (try clear hb2); (try clear hk); (try clear hi)))
           go_ret
           exact ⟨zE, (zB1 GE509.out HB.out)⟩
          ·rw [if_neg c65] at H
           have c65b0 : decide (t540 < 0) = false := decide_eq_false c65
           clear c65
           by_cases c69 : t540 = t538
           ·rw [if_pos c69] at H
            have c69b0 : (t540 == t538) = true := beq_iff_eq.mpr c69
            have c69b1 : (t540 != t538) = false := bne_eq_false_iff_eq.mpr c69
            clear c69
            replace H := Option.bind_eq_some_iff.mp H
            obtain ⟨t541, A700, H⟩ := H
            try dsimp only at H
            have A70 := zM A700
            clear A700
            replace H := Option.bind_eq_some_iff.mp H
            obtain ⟨⟨t544, t545⟩, A710, H⟩ := H
            try dsimp only at H
            have A71 := zM A710
            clear A710
            replace H := Option.bind_eq_some_iff.mp H
            obtain ⟨⟨t546, t549⟩, A720, H⟩ := H
            try dsimp only at H
            have A72 := zM A720
            clear A720
            have HC73 := zM H
            clear H
            obtain ⟨Ao74, co74, eo74⟩ := Kd.R_slice HO_11.out
            subst eo74
            try go_wp2_with (first | ((with_reducible refine gate_callee (f := 25) rfl ?_); refine zG (some 79) Try.func25 #[.slice Ao74 t526.length co74, .int .i64 1] ?_; (with_reducible refine (laws_markPieceS.calls kj47 (fun k_ => some k_ = (.slice Ao74 t526.length co74 : Value).ownBlock) (.slice Ao74 t526.length co74) t526 1 t538 t539 w _ ?side1 ?side2 A63.out).mono ?_); (case side1 => exact (zB1 GE509.out HB.out)); (case side2 => exact Kd.R_tight rfl HO_11.out); rintro e w75 ⟨rfl, hy0, hb, hkp⟩; refine ⟨_, rfl, ?_⟩; have n0_ := zM (Kd.R_mono (ok' := fun k_ => some k_ ≠ (.slice Ao74 t526.length co74 : Value).ownBlock) (Kd.R_keptB (HO_8.out) hkp (fun k_ hk_ hs_ => (hk_) hs_)) (fun k_ hk_ => hk_.1)); have n1_ := zM (Kd.R_reok rfl hy0 (fun k_ e_ => HO_11.out.1 k_ e_)); have n2_ := zM (blk_kept (zP BK509.out) hkp (fun hs_ => (fun e_ => (Kd.R_ne HO_11.out BK509.out (by decide)) e_) hs_)); have n3_ := zM (hb); clear HO_8; clear HO_11; clear BK509; clear HB; have HO_8 := n0_; have HO_11 := n1_; have BK509 := n2_; have HB := n3_; clear n0_ n1_ n2_ n3_; (try clear hb); (try clear hkp); (try clear hy0)) | ((with_reducible refine gate_callee (f := 26) rfl ?_); refine goesL_ (some 82) rfl rfl Try.func26 (by kernel_rfl) rfl #[.slice Ao74 t539.length co74, .int .i64 1] rfl (by (try simp only [List.map_toArray, List.map_cons, List.map_nil]); first | done | (rw [show t539.length = t526.length from (Kd.R_reads' HO_11.out).1.symm] <;> rfl) | rfl | (simp only [List.length_drop, List.length_take]; rfl)) ?_; (with_reducible refine (laws_heldPieceS.calls kj47 _ _ t539 1 t540 _ ?side1 ?side2 A64.out).mono ?_); (case side1 => exact (zC ((Kd.R_reads' HO_11.out).2.2))); (case side2 => rw [show t539.length = t526.length from (Kd.R_reads' HO_11.out).1.symm]; exact (Kd.R_reads' HO_11.out).2.1); rintro e w76 ⟨rfl, hb⟩; refine ⟨_, rfl, ?_⟩; have n0_ := zM (Kd.R_below (zR HO_8.out) hb); have n1_ := zM (Kd.R_below (zR HO_11.out) hb); have n2_ := zM (blk_below (g := gb509) (o := .cells #[.int .i64 a2_0, .string a2_1] 37 (0, 0)) (zP BK509.out) hb); have n3_ := zM (below_step (zB1 GE509.out HB.out) hb); clear HO_8; clear HO_11; clear BK509; clear HB; have HO_8 := n0_; have HO_11 := n1_; have BK509 := n2_; have HB := n3_; clear n0_ n1_ n2_ n3_; (try clear hb); (try clear hb2); (try clear hk); (try clear hi)))
            have n0_ := zM (Kd.R_drew HO_8.out)
            have n1_ := zM (Kd.R_drew HO_11.out)
            have n2_ := zM (blk_drew BK509.out)
            have n3_ := zM (below_drew1 HB.out)
            clear HO_8
            clear HO_11
            clear BK509
            clear HB
            have HO_8 := n0_
            have HO_11 := n1_
            have BK509 := n2_
            have HB := n3_
            clear n0_ n1_ n2_ n3_
            refine start_ (n := 11) (S := fun w' => w'.cell? ⟨gb509, 0, none⟩ = some (.int .i64 a2_0) ∧ w'.cell? ⟨gb509, 1, none⟩ = some (.string a2_1)) (ds := []) (ba 11 0).toArray (by kernel_rfl) rfl rfl ⟨(blk_cell BK509.out 0).trans rfl, (blk_cell BK509.out 1).trans rfl⟩ (fun hHeld => ?_); refine with_tabW laws_FnExactAddPiece.tab27 laws_FnExactAddPiece.bits27 (fun HT_ HW_ => ?_)
            generalize w76.drew = w77 at HO_8 HO_11 BK509 HB hHeld ⊢
            refine zq 0 (some 89) (ba 11 1).toArray HT_ ?_
            refine zq 2 (some 91) (ba 11 5).toArray HT_ ?_
            refine zt2 3 (some 92) (ba 11 13).toArray HT_ HW_ hHeld ?_
            refine one_ (i := 1) (N := some 90) (ba 11 15).toArray rfl rfl (one_of HT_.out (by kernel_rfl)) (by decide) (fun K hK => ?_)
            refine goes_ Try.func21 (by kernel_rfl) rfl #[.slice A0 l0.length c0] (by rfl) rfl rfl (by (try simp only [List.map_toArray, List.map_cons, List.map_nil]); first | done | rfl | (simp only [List.length_drop, List.length_take]; rfl)) ?_
            with_reducible refine (laws_toPieceS.calls kj47 _ _ l0 t541 _ ?side1 ?side2 A70.out).mono ?_
            (case side1 => exact (zC (Kd.C_below HR0.out HB.out)))
            (case side2 => exact HC0.out)
            rintro e w78 ⟨v542, rfl, ho0, hb⟩
            refine ⟨_, rfl, ?_⟩
            have n0_ := zM (Kd.R_elder' (zR HO_8.out) (Kd.R_base ho0) hb)
            have n1_ := zM (Kd.R_elder' (zR HO_11.out) (Kd.R_base ho0) hb)
            have n2_ := zM (Kd.R_lower (Kd.R_new' (Kd.R_new' ho0 (Kd.R_lt (zR HO_8.out))) (Kd.R_lt (zR HO_11.out))) (below_size (zB1 GE509.out HB.out)))
            have n3_ := zM (blk_below (g := gb509) (o := .cells #[.int .i64 a2_0, .string a2_1] 37 (0, 0)) (zP BK509.out) hb)
            have n4_ := zM (below_step (zB1 GE509.out HB.out) hb)
            clear HO_8
            clear HO_11
            clear BK509
            clear HB
            have HO_8 := n0_
            have HO_11 := n1_
            have HO543 := n2_
            have BK509 := n3_
            have HB := n4_
            clear n0_ n1_ n2_ n3_ n4_
            (try clear hb)
            (try clear hb2)
            (try clear hk)
            (try clear hi)
            (try clear ho0)
            refine hK.out _ _ ⟨(blk_cell BK509.out 0).trans rfl, (blk_cell BK509.out 1).trans rfl⟩ (fun hHeld => ?_)
            clear hK K
            refine norm_ (a' := ?_) ?_ ?_
            rotate_left
            ·show Act.put _ (some 90) _ = _
             simp only [Act.put, List.setIfInBounds_toArray, List.set_cons_zero, List.set_cons_succ, i64_w, i32_w]
             rfl
            refine one_ (i := 4) (N := some 93) (ba 11 31).toArray rfl rfl (one_of HT_.out (by kernel_rfl)) (by decide) (fun K hK => ?_)
            refine goes_ Try.func22 (by kernel_rfl) rfl #[.agg #[.int .i64 a2_0, .string a2_1]] (by rfl) rfl rfl (by (try simp only [List.map_toArray, List.map_cons, List.map_nil]); first | done | rfl | (simp only [List.length_drop, List.length_take]; rfl)) ?_
            with_reducible refine (laws_toPiece.calls a2_0 a2_1 t544 t545 _ A71.out).mono ?_
            rintro e w79 ⟨rfl, hb⟩
            refine ⟨_, rfl, ?_⟩
            have n0_ := zM (Kd.R_below (zR HO_8.out) hb)
            have n1_ := zM (Kd.R_below (zR HO_11.out) hb)
            have n2_ := zM (Kd.R_below (zR HO543.out) hb)
            have n3_ := zM (blk_below (g := gb509) (o := .cells #[.int .i64 a2_0, .string a2_1] 37 (0, 0)) (zP BK509.out) hb)
            have n4_ := zM (below_step (zB1 GE509.out HB.out) hb)
            clear HO_8
            clear HO_11
            clear HO543
            clear BK509
            clear HB
            have HO_8 := n0_
            have HO_11 := n1_
            have HO543 := n2_
            have BK509 := n3_
            have HB := n4_
            clear n0_ n1_ n2_ n3_ n4_
            (try clear hb)
            (try clear hb2)
            (try clear hk)
            (try clear hi)
            obtain ⟨Ao80, co80, eo80⟩ := Kd.R_slice HO543.out
            (first | subst eo80 | (injection eo80 with f1_ f2_ f3_; have f4_ := f1_.symm; have f5_ := f3_.symm; clear f1_ f2_ f3_; subst f4_; subst f5_))
            refine hK.out _ _ ⟨(blk_cell BK509.out 0).trans rfl, (blk_cell BK509.out 1).trans rfl⟩ (fun hHeld => ?_)
            clear hK K
            refine norm_ (a' := ?_) ?_ ?_
            rotate_left
            ·show Act.put _ (some 93) _ = _
             simp only [Act.put, List.setIfInBounds_toArray, List.set_cons_zero, List.set_cons_succ, i64_w, i32_w]
             rfl
            refine one_ (i := 5) (N := some 94) (ba 11 63).toArray rfl rfl (one_of HT_.out (by kernel_rfl)) (by decide) (fun K hK => ?_)
            refine goes_ Try.func23 (by kernel_rfl) rfl #[.slice Ao80 t541.length co80, .int .i64 a1, .agg #[.int .i64 t544, .string t545]] (by rfl) rfl rfl (by (try simp only [List.map_toArray, List.map_cons, List.map_nil]); first | done | rfl | (simp only [List.length_drop, List.length_take]; rfl)) ?_
            with_reducible refine (impl_AddPiece.calls kj47 _ _ t541 a1 t544 t545 t546 t549 _ ?side1 ?side2 A72.out).mono ?_
            (case side1 => exact (zC ((Kd.R_reads' HO543.out).2.2)))
            (case side2 => exact (Kd.R_reads' HO543.out).2.1)
            rintro e w81 ⟨v547, rfl, ho0, hb⟩
            refine ⟨_, rfl, ?_⟩
            have n0_ := zM (Kd.R_elder' (zR HO_8.out) (Kd.R_base ho0) hb)
            have n1_ := zM (Kd.R_elder' (zR HO_11.out) (Kd.R_base ho0) hb)
            have n2_ := zM (Kd.R_elder' (zR HO543.out) (Kd.R_base ho0) hb)
            have n3_ := zM (Kd.R_lower (Kd.R_new' (Kd.R_new' (Kd.R_new' ho0 (Kd.R_lt (zR HO_8.out))) (Kd.R_lt (zR HO_11.out))) (Kd.R_lt (zR HO543.out))) (below_size (zB1 GE509.out HB.out)))
            have n4_ := zM (blk_below (g := gb509) (o := .cells #[.int .i64 a2_0, .string a2_1] 37 (0, 0)) (zP BK509.out) hb)
            have n5_ := zM (below_step (zB1 GE509.out HB.out) hb)
            clear HO_8
            clear HO_11
            clear HO543
            clear BK509
            clear HB
            have HO_8 := n0_
            have HO_11 := n1_
            have HO543 := n2_
            have HO548 := n3_
            have BK509 := n4_
            have HB := n5_
            clear n0_ n1_ n2_ n3_ n4_ n5_
            (try clear hb)
            (try clear hb2)
            (try clear hk)
            (try clear hi)
            (try clear ho0)
            refine hK.out _ _ ⟨(blk_cell BK509.out 0).trans rfl, (blk_cell BK509.out 1).trans rfl⟩ (fun hHeld => ?_)
            clear hK K
            refine norm_ (a' := ?_) ?_ ?_
            rotate_left
            ·show Act.put _ (some 94) _ = _
             simp only [Act.put, List.setIfInBounds_toArray, List.set_cons_zero, List.set_cons_succ, i64_w, i32_w]
             rfl
            refine zq 6 (some 88) (ba 11 127).toArray HT_ ?_
            refine zq 7 (some 95) (ba 11 255).toArray HT_ ?_
            refine zq 8 (some 96) (ba 11 511).toArray HT_ ?_
            refine zq 9 (some 16) (ba 11 1023).toArray HT_ ?_
            refine zq 10 (some 17) (ba 11 2047).toArray HT_ ?_
            refine done_ (done_of HT_.out (by kernel_rfl)) ?_
            go_upto_region 28 with (fail)
            go_cut [105] (fun v105 wc => ∃ (kq : Nat) (x105_72 : Bool), v105 = .bool x105_72 ∧ Aside0 (laws_FnExactAddPiece.j2 kq t539 t538 x105_72 = some r) ∧ Aside0 (kq ≤ kj47) ∧ Aside0 (Kd.R k44 44 wc w.heap.size (fun _ => True) (.slice Ao74 t526.length co74) t539) ∧ Aside0 (wc.heap[gb509]? = some (.cells #[.int .i64 a2_0, .string a2_1] 37 (0, 0))) ∧ Aside0 (Below w.heap.size w wc))
            case first =>
             have H := HC73.out
             clear HC73
             replace H := Option.bind_eq_some_iff.mp H
             obtain ⟨t550, A820, H⟩ := H
             try dsimp only at H
             have A82 := zM A820
             clear A820
             by_cases c83 : t550 = true
             ·subst c83
              rw [if_pos rfl] at H
              have H' := zM H
              clear H
              obtain ⟨Ao84, co84, eo84⟩ := Kd.R_slice HO548.out
              subst eo84
              obtain ⟨Ao85, co85, eo85⟩ := Kd.R_slice HO_8.out
              subst eo85
              go_wp2_with (first | ((with_reducible refine gate_callee (f := 24) rfl ?_); refine zG (some 99) Try.func24 #[.slice Ao84 t546.length co84, .slice Ao85 t517.length co85] ?_; (with_reducible refine (laws_eqPieceS.calls kj47 _ _ t546 _ _ t517 true _ ?side1 ?side2 ?side3 ?side4 A82.out).mono ?_); (case side1 => exact (zC ((Kd.R_reads' HO548.out).2.2))); (case side2 => exact (Kd.R_reads' HO548.out).2.1); (case side3 => exact (zC ((Kd.R_reads' HO_8.out).2.2))); (case side4 => exact (Kd.R_reads' HO_8.out).2.1); rintro e w86 ⟨rfl, hb⟩; refine ⟨_, rfl, ?_⟩; have n0_ := zM (Kd.R_below (zR HO_8.out) hb); have n1_ := zM (Kd.R_below (zR HO_11.out) hb); have n2_ := zM (Kd.R_below (zR HO543.out) hb); have n3_ := zM (Kd.R_below (zR HO548.out) hb); have n4_ := zM (blk_below (g := gb509) (o := .cells #[.int .i64 a2_0, .string a2_1] 37 (0, 0)) (zP BK509.out) hb); have n5_ := zM (below_step (zB1 GE509.out HB.out) hb); clear HO_8; clear HO_11; clear HO543; clear HO548; clear BK509; clear HB; have HO_8 := n0_; have HO_11 := n1_; have HO543 := n2_; have HO548 := n3_; have BK509 := n4_; have HB := n5_; clear n0_ n1_ n2_ n3_ n4_ n5_; (try clear hb); (try clear hb2); (try clear hk); (try clear hi)))
              go_meet
              case rel => exact ⟨_, ((t549 != t520)), zS, H', ⟨by have := HJ19.out; have := HJ47.out; first | omega | exact Nat.le_refl _⟩, ⟨(zRm HO_11.out (fun _ hk => trivial))⟩, ⟨(zP BK509.out)⟩, ⟨(zB1 GE509.out HB.out)⟩⟩
             ·replace c83 := Bool.eq_false_iff.mpr c83
              subst c83
              rw [if_neg (show ¬ (false = true) by decide)] at H
              have H' := zM H
              clear H
              obtain ⟨Ao87, co87, eo87⟩ := Kd.R_slice HO548.out
              subst eo87
              obtain ⟨Ao88, co88, eo88⟩ := Kd.R_slice HO_8.out
              subst eo88
              go_wp2_with (first | ((with_reducible refine gate_callee (f := 24) rfl ?_); refine zG (some 99) Try.func24 #[.slice Ao87 t546.length co87, .slice Ao88 t517.length co88] ?_; (with_reducible refine (laws_eqPieceS.calls kj47 _ _ t546 _ _ t517 false _ ?side1 ?side2 ?side3 ?side4 A82.out).mono ?_); (case side1 => exact (zC ((Kd.R_reads' HO548.out).2.2))); (case side2 => exact (Kd.R_reads' HO548.out).2.1); (case side3 => exact (zC ((Kd.R_reads' HO_8.out).2.2))); (case side4 => exact (Kd.R_reads' HO_8.out).2.1); rintro e w89 ⟨rfl, hb⟩; refine ⟨_, rfl, ?_⟩; have n0_ := zM (Kd.R_below (zR HO_8.out) hb); have n1_ := zM (Kd.R_below (zR HO_11.out) hb); have n2_ := zM (Kd.R_below (zR HO543.out) hb); have n3_ := zM (Kd.R_below (zR HO548.out) hb); have n4_ := zM (blk_below (g := gb509) (o := .cells #[.int .i64 a2_0, .string a2_1] 37 (0, 0)) (zP BK509.out) hb); have n5_ := zM (below_step (zB1 GE509.out HB.out) hb); clear HO_8; clear HO_11; clear HO543; clear HO548; clear BK509; clear HB; have HO_8 := n0_; have HO_11 := n1_; have HO543 := n2_; have HO548 := n3_; have BK509 := n4_; have HB := n5_; clear n0_ n1_ n2_ n3_ n4_ n5_; (try clear hb); (try clear hb2); (try clear hk); (try clear hi)))
              go_meet
              case rel => exact ⟨_, (true), zS, H', ⟨by have := HJ19.out; have := HJ47.out; first | omega | exact Nat.le_refl _⟩, ⟨(zRm HO_11.out (fun _ hk => trivial))⟩, ⟨(zP BK509.out)⟩, ⟨(zB1 GE509.out HB.out)⟩⟩
            case rest =>
             clear HC73
             try clear c1
             try clear c2
             try clear p2
             try clear c3
             try clear c4
             try clear c5
             try clear c5b0
             try clear c6
             try clear c8
             try clear c9
             try clear c9b0
             try clear c18
             try clear c19
             try clear c20
             try clear c21
             try clear c22
             try clear c23
             try clear c24
             try clear c25
             try clear c26
             try clear c36
             try clear c43
             try clear c46
             try clear c53
             try clear c53b0
             try clear c55
             try clear c62
             try clear c65
             try clear c65b0
             try clear c69
             try clear c69b0
             try clear c69b1
             try clear c83
             try clear hcz12_0
             try clear hcz12_1
             try clear hcz23_0
             try clear hcz23_1
             try clear hcz31_0
             try clear hcz31_1
             try clear hfz12_0
             try clear hfz12_1
             try clear hfz23_0
             try clear hfz23_1
             try clear hfz31_0
             try clear hfz31_1
             try clear p2
             obtain ⟨kq, x105_72, rfl, HA, HJ72, HO_11, BK509, HB⟩ := hcut
             have hl11_72 := (Kd.R_reads' HO_11.out).1
             rw [hl11_72] at HO_11
             (try simp only [hl11_72])
             (try simp only [hl11_72] at BK509)
             cases kq with
             | zero => exact absurd HA.out (by simp [laws_FnExactAddPiece.j2])
             | succ kj72 =>
              have H := HA.out
              clear HA
              simp only [laws_FnExactAddPiece.j2] at H
              by_cases c90 : x105_72 = true
              ·subst c90
               rw [if_pos rfl] at H
               obtain rfl := Option.some.inj H
               go_wp2
               go_ret
               exact ⟨zE, (zB1 GE509.out HB.out)⟩
              ·replace c90 := Bool.eq_false_iff.mpr c90
               subst c90
               rw [if_neg (show ¬ (false = true) by decide)] at H
               replace H := Option.bind_eq_some_iff.mp H
               obtain ⟨t551, A910, H⟩ := H
               try dsimp only at H
               have A91 := zM A910
               clear A910
               by_cases c92 : t551 < 0
               ·rw [if_pos c92] at H
                have c92b0 : decide (t551 < 0) = true := decide_eq_true c92
                clear c92
                obtain rfl := Option.some.inj H
                go_wp2_with (first | ((with_reducible refine gate_callee (f := 26) rfl ?_); refine zG (some 108) Try.func26 #[.slice Ao74 t539.length co74, .int .i64 1] ?_; (with_reducible refine (laws_heldPieceS.calls kj72 _ _ t539 1 t551 _ ?side1 ?side2 A91.out).mono ?_); (case side1 => exact (zC ((Kd.R_reads' HO_11.out).2.2))); (case side2 => exact (Kd.R_reads' HO_11.out).2.1); rintro e w93 ⟨rfl, hb⟩; refine ⟨_, rfl, ?_⟩; have n0_ := zM (Kd.R_below (zR HO_11.out) hb); have n1_ := zM (blk_below (g := gb509) (o := .cells #[.int .i64 a2_0, .string a2_1] 37 (0, 0)) (zP BK509.out) hb); have n2_ := zM (below_step (zB1 GE509.out HB.out) hb); clear HO_11; clear BK509; clear HB; have HO_11 := n0_; have BK509 := n1_; have HB := n2_; clear n0_ n1_ n2_; (try clear hb); (try clear hb2); (try clear hk); (try clear hi)))
                go_ret
                exact ⟨zE, (zB1 GE509.out HB.out)⟩
               ·rw [if_neg c92] at H
                have c92b0 : decide (t551 < 0) = false := decide_eq_false c92
                clear c92
                by_cases c94 : t551 = t538
                ·rw [if_pos c94] at H
                 have c94b0 : (t551 == t538) = true := beq_iff_eq.mpr c94
                 have c94b1 : (t551 != t538) = false := bne_eq_false_iff_eq.mpr c94
                 clear c94
                 obtain rfl := Option.some.inj H
                 go_wp2_with (first | ((with_reducible refine gate_callee (f := 26) rfl ?_); refine zG (some 108) Try.func26 #[.slice Ao74 t539.length co74, .int .i64 1] ?_; (with_reducible refine (laws_heldPieceS.calls kj72 _ _ t539 1 t551 _ ?side1 ?side2 A91.out).mono ?_); (case side1 => exact (zC ((Kd.R_reads' HO_11.out).2.2))); (case side2 => exact (Kd.R_reads' HO_11.out).2.1); rintro e w95 ⟨rfl, hb⟩; refine ⟨_, rfl, ?_⟩; have n0_ := zM (Kd.R_below (zR HO_11.out) hb); have n1_ := zM (blk_below (g := gb509) (o := .cells #[.int .i64 a2_0, .string a2_1] 37 (0, 0)) (zP BK509.out) hb); have n2_ := zM (below_step (zB1 GE509.out HB.out) hb); clear HO_11; clear BK509; clear HB; have HO_11 := n0_; have BK509 := n1_; have HB := n2_; clear n0_ n1_ n2_; (try clear hb); (try clear hb2); (try clear hk); (try clear hi)))
                 go_ret
                 exact ⟨zE, (zB1 GE509.out HB.out)⟩
                ·rw [if_neg c94] at H
                 have c94b0 : (t551 == t538) = false := beq_eq_false_iff_ne.mpr c94
                 have c94b1 : (t551 != t538) = true := bne_iff_ne.mpr c94
                 obtain rfl := Option.some.inj H
                 go_wp2_with (first | ((with_reducible refine gate_callee (f := 26) rfl ?_); refine zG (some 108) Try.func26 #[.slice Ao74 t539.length co74, .int .i64 1] ?_; (with_reducible refine (laws_heldPieceS.calls kj72 _ _ t539 1 t551 _ ?side1 ?side2 A91.out).mono ?_); (case side1 => exact (zC ((Kd.R_reads' HO_11.out).2.2))); (case side2 => exact (Kd.R_reads' HO_11.out).2.1); rintro e w96 ⟨rfl, hb⟩; refine ⟨_, rfl, ?_⟩; have n0_ := zM (Kd.R_below (zR HO_11.out) hb); have n1_ := zM (blk_below (g := gb509) (o := .cells #[.int .i64 a2_0, .string a2_1] 37 (0, 0)) (zP BK509.out) hb); have n2_ := zM (below_step (zB1 GE509.out HB.out) hb); clear HO_11; clear BK509; clear HB; have HO_11 := n0_; have BK509 := n1_; have HB := n2_; clear n0_ n1_ n2_; (try clear hb); (try clear hb2); (try clear hk); (try clear hi)))
                 go_ret
                 exact ⟨zE, (zB1 GE509.out HB.out)⟩
           ·rw [if_neg c69] at H
            have c69b0 : (t540 == t538) = false := beq_eq_false_iff_ne.mpr c69
            have c69b1 : (t540 != t538) = true := bne_iff_ne.mpr c69
            obtain rfl := Option.some.inj H
            obtain ⟨Ao97, co97, eo97⟩ := Kd.R_slice HO_11.out
            subst eo97
            go_wp2_with (first | ((with_reducible refine gate_callee (f := 25) rfl ?_); refine zG (some 79) Try.func25 #[.slice Ao97 t526.length co97, .int .i64 1] ?_; (with_reducible refine (laws_markPieceS.calls kj47 (fun k_ => some k_ = (.slice Ao97 t526.length co97 : Value).ownBlock) (.slice Ao97 t526.length co97) t526 1 t538 t539 w _ ?side1 ?side2 A63.out).mono ?_); (case side1 => exact (zB1 GE509.out HB.out)); (case side2 => exact Kd.R_tight rfl HO_11.out); rintro e w98 ⟨rfl, hy0, hb, hkp⟩; refine ⟨_, rfl, ?_⟩; have n0_ := zM (Kd.R_mono (ok' := fun k_ => some k_ ≠ (.slice Ao97 t526.length co97 : Value).ownBlock) (Kd.R_keptB (HO_8.out) hkp (fun k_ hk_ hs_ => (hk_) hs_)) (fun k_ hk_ => hk_.1)); have n1_ := zM (Kd.R_reok rfl hy0 (fun k_ e_ => HO_11.out.1 k_ e_)); have n2_ := zM (blk_kept (zP BK509.out) hkp (fun hs_ => (fun e_ => (Kd.R_ne HO_11.out BK509.out (by decide)) e_) hs_)); have n3_ := zM (hb); clear HO_8; clear HO_11; clear BK509; clear HB; have HO_8 := n0_; have HO_11 := n1_; have BK509 := n2_; have HB := n3_; clear n0_ n1_ n2_ n3_; (try clear hb); (try clear hkp); (try clear hy0)) | ((with_reducible refine gate_callee (f := 26) rfl ?_); refine goesL_ (some 82) rfl rfl Try.func26 (by kernel_rfl) rfl #[.slice Ao97 t539.length co97, .int .i64 1] rfl (by (try simp only [List.map_toArray, List.map_cons, List.map_nil]); first | done | (rw [show t539.length = t526.length from (Kd.R_reads' HO_11.out).1.symm] <;> rfl) | rfl | (simp only [List.length_drop, List.length_take]; rfl)) ?_; (with_reducible refine (laws_heldPieceS.calls kj47 _ _ t539 1 t540 _ ?side1 ?side2 A64.out).mono ?_); (case side1 => exact (zC ((Kd.R_reads' HO_11.out).2.2))); (case side2 => rw [show t539.length = t526.length from (Kd.R_reads' HO_11.out).1.symm]; exact (Kd.R_reads' HO_11.out).2.1); rintro e w99 ⟨rfl, hb⟩; refine ⟨_, rfl, ?_⟩; have n0_ := zM (Kd.R_below (zR HO_8.out) hb); have n1_ := zM (Kd.R_below (zR HO_11.out) hb); have n2_ := zM (blk_below (g := gb509) (o := .cells #[.int .i64 a2_0, .string a2_1] 37 (0, 0)) (zP BK509.out) hb); have n3_ := zM (below_step (zB1 GE509.out HB.out) hb); clear HO_8; clear HO_11; clear BK509; clear HB; have HO_8 := n0_; have HO_11 := n1_; have BK509 := n2_; have HB := n3_; clear n0_ n1_ n2_ n3_; (try clear hb); (try clear hb2); (try clear hk); (try clear hi)))
            go_ret
            exact ⟨zE, (zB1 GE509.out HB.out)⟩
      ·replace c46 := Bool.eq_false_iff.mpr c46
       subst c46
       rw [if_neg (show ¬ (false = true) by decide)] at H
       obtain rfl := Option.some.inj H
       go_wp2_with (first | ((with_reducible refine gate_callee (f := 21) rfl ?_); refine zG (some 58) Try.func21 #[.slice A0 l0.length c0] ?_; (with_reducible refine (laws_toPieceS.calls kj19 _ _ l0 t531 _ ?side1 ?side2 A44.out).mono ?_); (case side1 => exact (zC (Kd.C_below HR0.out HB.out))); (case side2 => exact HC0.out); rintro e w100 ⟨v532, rfl, ho0, hb⟩; refine ⟨_, rfl, ?_⟩; have n0_ := zM (Kd.R_elder' (zR HO_8.out) (Kd.R_base ho0) hb); have n1_ := zM (Kd.R_elder' (zR HO_10.out) (Kd.R_base ho0) hb); have n2_ := zM (Kd.R_elder' (zR HO_11.out) (Kd.R_base ho0) hb); have n3_ := zM (Kd.R_lower (Kd.R_new' (Kd.R_new' (Kd.R_new' ho0 (Kd.R_lt (zR HO_8.out))) (Kd.R_lt (zR HO_10.out))) (Kd.R_lt (zR HO_11.out))) (below_size (zB1 GE509.out HB.out))); have n4_ := zM (blk_below (g := gb509) (o := .cells #[.int .i64 a2_0, .string a2_1] 37 (0, 0)) (zP BK509.out) hb); have n5_ := zM (below_step (zB1 GE509.out HB.out) hb); clear HO_8; clear HO_10; clear HO_11; clear BK509; clear HB; have HO_8 := n0_; have HO_10 := n1_; have HO_11 := n2_; have HO533 := n3_; have BK509 := n4_; have HB := n5_; clear n0_ n1_ n2_ n3_ n4_ n5_; (try clear hb); (try clear hb2); (try clear hk); (try clear hi); (try clear ho0); obtain ⟨Ao101, co101, eo101⟩ := Kd.R_slice HO533.out; subst eo101) | ((with_reducible refine gate_callee (f := 24) rfl ?_); refine zG (some 59) Try.func24 #[.slice Ao33 t521.length co33, .slice Ao101 t531.length co101] ?_; (with_reducible refine (laws_eqPieceS.calls kj19 _ _ t521 _ _ t531 false _ ?side1 ?side2 ?side3 ?side4 A45.out).mono ?_); (case side1 => exact (zC ((Kd.R_reads' HO_10.out).2.2))); (case side2 => exact (Kd.R_reads' HO_10.out).2.1); (case side3 => exact (zC ((Kd.R_reads' HO533.out).2.2))); (case side4 => exact (Kd.R_reads' HO533.out).2.1); rintro e w102 ⟨rfl, hb⟩; refine ⟨_, rfl, ?_⟩; have n0_ := zM (Kd.R_below (zR HO_8.out) hb); have n1_ := zM (Kd.R_below (zR HO_10.out) hb); have n2_ := zM (Kd.R_below (zR HO_11.out) hb); have n3_ := zM (Kd.R_below (zR HO533.out) hb); have n4_ := zM (blk_below (g := gb509) (o := .cells #[.int .i64 a2_0, .string a2_1] 37 (0, 0)) (zP BK509.out) hb); have n5_ := zM (below_step (zB1 GE509.out HB.out) hb); clear HO_8; clear HO_10; clear HO_11; clear HO533; clear BK509; clear HB; have HO_8 := n0_; have HO_10 := n1_; have HO_11 := n2_; have HO533 := n3_; have BK509 := n4_; have HB := n5_; clear n0_ n1_ n2_ n3_ n4_ n5_; (try clear hb); (try clear hb2); (try clear hk); (try clear hi)))
       go_ret
       exact ⟨zE, (zB1 GE509.out HB.out)⟩

end Go.Proofs.Yteahdfibipalkaa.G

namespace Go.Proofs.Yteahdfibipalkaa.Pure
open Go.RowKit Go.Proofs.Yteahdfibipalkaa.G Go.Proofs.YteahdfibipalkaaW.PrintWords Go.Proofs.YteahdfibipalkaaW.PrintLast

theorem Ev.pos {α : Type} {c : Prop} [Decidable c] {a b : Nat → Option α} {r : α} (h : c) (e : Ev a r) : Ev (fun k => if c then a k else b k) r := Ev.congr (fun _ => if_pos h) e
theorem Ev.neg {α : Type} {c : Prop} [Decidable c] {a b : Nat → Option α} {r : α} (h : ¬ c) (e : Ev b r) : Ev (fun k => if c then a k else b k) r := Ev.congr (fun _ => if_neg h) e
theorem Ev.eq {α : Type} {a : Nat → Option α} {r s : α} (h : r = s) (e : Ev a r) : Ev a s := h ▸ e
theorem Ev.ret {α : Type} {r s : α} (h : r = s) : Ev (fun _ => some r) s := ⟨0, fun _ _ => by rw [h]⟩
theorem Ev.retBind {α β : Type} {x : α} {f : Nat → α → Option β} {r : β} (e : Ev (fun k => f k x) r) : Ev (fun k => (some x).bind (f k)) r := e
theorem wrap64_id {x : Int} (h0 : -9223372036854775808 ≤ x) (h1 : x ≤ 9223372036854775807) : wrap64 x = x := by unfold wrap64; omega

def ok1 (x : S26) : Bool := decide (0 ≤ x.f0) && decide (x.f0 < x.f1) && decide (x.f1 ≤ 1000000000000)
def isSetP : S26 → List S26 → Bool
  | _, [] => true
  | p, x :: t => ok1 x && decide (p.f1 < x.f0) && isSetP x t
def isSet : List S26 → Bool
  | [] => true
  | x :: t => ok1 x && isSetP x t
theorem rd_mid (pre : List S26) (x : S26) (t : List S26) : rd_T26 (pre ++ x :: t) (pre.length : Int) = x := by simp [rd_T26]
theorem rd_prev (pre : List S26) (p : S26) (t : List S26) : rd_T26 ((pre ++ [p]) ++ t) (pre.length : Int) = p := by simp [rd_T26]

theorem spec_set_loop (rest : List S26) : ∀ (pre : List S26) (p : S26), (pre ++ [p] ++ rest).length ≤ 9223372036854775806 →
    Ev (fun k => spec_IsSpanSet.l0 k (pre ++ [p] ++ rest) ((pre.length + 1 : Nat) : Int)) (isSetP p rest) := by
  induction rest with
  | nil =>
    intro pre p hl
    apply Ev.step
    · intro k; rw [spec_IsSpanSet.l0]
    refine Ev.neg (by simp) (Ev.ret rfl)
  | cons x t ih =>
    intro pre p hl
    simp only [List.length_append, List.length_cons, List.length_nil] at hl
    have hw : wrap64 (((pre.length + 1 : Nat) : Int) - 1) = (pre.length : Int) := by rw [wrap64_id] <;> omega
    have hw2 : wrap64 (((pre.length + 1 : Nat) : Int) + 1) = (((pre ++ [p]).length + 1 : Nat) : Int) := by rw [wrap64_id] <;> simp <;> omega
    have e1 : rd_T26 (pre ++ [p] ++ x :: t) ((pre.length + 1 : Nat) : Int) = x := by
      have := rd_mid (pre ++ [p]) x t
      simpa using this
    have e2 : rd_T26 (pre ++ [p] ++ x :: t) (pre.length : Int) = p := rd_prev pre p (x :: t)
    have hi := ih (pre ++ [p]) x (by simp only [List.length_append, List.length_cons, List.length_nil]; omega)
    have hr : pre ++ [p] ++ [x] ++ t = pre ++ [p] ++ x :: t := by simp
    rw [hr] at hi
    apply Ev.step
    · intro k; rw [spec_IsSpanSet.l0]
    simp only [e1, hw, e2, hw2]
    refine Ev.pos (by simp only [List.length_append, List.length_cons, List.length_nil]; omega) (Ev.pos (by omega) ?_)
    by_cases h1 : x.f0 < 0
    · exact Ev.pos h1 (Ev.ret (by simp [isSetP, ok1]; omega))
    refine Ev.neg h1 ?_
    by_cases h2 : x.f0 ≥ x.f1
    · exact Ev.pos h2 (Ev.ret (by simp [isSetP, ok1]; omega))
    refine Ev.neg h2 ?_
    by_cases h3 : x.f1 > 1000000000000
    · exact Ev.pos h3 (Ev.ret (by simp [isSetP, ok1]; omega))
    refine Ev.neg h3 ?_
    refine Ev.pos (by omega) (Ev.pos (by omega) (Ev.pos (by simp only [List.length_append, List.length_cons, List.length_nil]; omega) ?_))
    by_cases h4 : p.f1 ≥ x.f0
    · exact Ev.pos h4 (Ev.ret (by simp [isSetP, ok1]; omega))
    refine Ev.neg h4 ?_
    refine Ev.eq ?_ hi
    simp [isSetP, ok1]
    omega

end Go.Proofs.Yteahdfibipalkaa.Pure

namespace Go.Proofs.Yteahdfibipalkaa.Pure
open Go.RowKit Go.Proofs.Yteahdfibipalkaa.G Go.Proofs.YteahdfibipalkaaW.PrintWords Go.Proofs.YteahdfibipalkaaW.PrintLast

def valid (x : S26) : Prop := 0 ≤ x.f0 ∧ x.f0 < x.f1 ∧ x.f1 ≤ 1000000000000
theorem ok1_iff (x : S26) : ok1 x = true ↔ valid x := by simp [ok1, valid, and_assoc]

def SetOk : List S26 → Prop
  | [] => True
  | x :: t => valid x ∧ (∀ s, s ∈ t → x.f1 < s.f0) ∧ SetOk t
theorem isSetP_iff (t : List S26) : ∀ p : S26, isSetP p t = true ↔ (SetOk t ∧ ∀ s, s ∈ t → p.f1 < s.f0) := by
  induction t with
  | nil => intro p; simp [isSetP, SetOk]
  | cons x t ih =>
    intro p
    rw [isSetP, Bool.and_eq_true, Bool.and_eq_true, ok1_iff, ih x, decide_eq_true_eq]
    constructor
    · rintro ⟨⟨h1, h2⟩, h3, h4⟩
      refine ⟨⟨h1, h4, h3⟩, fun s hs => ?_⟩
      rcases List.mem_cons.1 hs with rfl | hs
      · exact h2
      · have := h4 s hs; have := h1.2.1; omega
    · rintro ⟨⟨h1, h4, h3⟩, h2⟩
      exact ⟨⟨h1, h2 x (by simp)⟩, h3, h4⟩
theorem isSet_iff (l : List S26) : isSet l = true ↔ SetOk l := by
  cases l with
  | nil => simp [isSet, SetOk]
  | cons x t =>
    rw [isSet, Bool.and_eq_true, ok1_iff, isSetP_iff, SetOk]
    constructor
    · rintro ⟨h1, h2, h3⟩; exact ⟨h1, h3, h2⟩
    · rintro ⟨h1, h3, h2⟩; exact ⟨h1, h2, h3⟩

def addR : List S26 → Int → Int → List S26
  | [], a, b => [⟨a, b⟩]
  | s :: t, a, b => if s.f1 < a then s :: addR t a b else if s.f0 ≤ b then addR t (min a s.f0) (max b s.f1) else ⟨a, b⟩ :: s :: t
theorem addR_mem_lo (l : List S26) : ∀ (a b c : Int), (∀ s, s ∈ l → c < s.f0) → c < a → ∀ s, s ∈ addR l a b → c < s.f0 := by
  induction l with
  | nil => intro a b c _ h s hs; simp [addR] at hs; subst hs; exact h
  | cons x t ih =>
    intro a b c h1 h2 s hs
    rw [addR] at hs
    split at hs
    · rcases List.mem_cons.1 hs with rfl | hs
      · exact h1 _ (by simp)
      · exact ih a b c (fun s h => h1 s (by simp [h])) h2 s hs
    · split at hs
      · exact ih _ _ c (fun s h => h1 s (by simp [h])) (by have := h1 x (by simp); omega) s hs
      · rcases List.mem_cons.1 hs with rfl | hs
        · exact h2
        · exact h1 s hs
theorem addR_ok (l : List S26) : ∀ (a b : Int), SetOk l → 0 ≤ a → a < b → b ≤ 1000000000000 → SetOk (addR l a b) := by
  induction l with
  | nil => intro a b _ h0 h1 h2; exact ⟨⟨h0, h1, h2⟩, by simp, trivial⟩
  | cons x t ih =>
    rintro a b ⟨hx, hlt, ht⟩ h0 h1 h2
    rw [addR]
    split
    · rename_i h
      exact ⟨hx, fun s hs => addR_mem_lo t a b x.f1 hlt h s hs, ih a b ht h0 h1 h2⟩
    · split
      · have := hx.1; have := hx.2.1; have := hx.2.2
        exact ih _ _ ht (by omega) (by omega) (by omega)
      · rename_i h3 h4
        refine ⟨⟨h0, h1, h2⟩, fun s hs => ?_, hx, hlt, ht⟩
        show b < s.f0
        rcases List.mem_cons.1 hs with rfl | hs
        · omega
        · have := hlt s hs; have := hx.2.1; omega
def covB (l : List S26) (p : Int) : Prop := ∃ s, s ∈ l ∧ s.f0 ≤ p ∧ p < s.f1
theorem addR_cov (l : List S26) : ∀ (a b p : Int), SetOk l → a < b → (covB (addR l a b) p ↔ (covB l p ∨ (a ≤ p ∧ p < b))) := by
  induction l with
  | nil => intro a b p _ _; simp [addR, covB]
  | cons x t ih =>
    rintro a b p ⟨hx, hlt, ht⟩ h1
    have hc : covB (x :: t) p ↔ ((x.f0 ≤ p ∧ p < x.f1) ∨ covB t p) := by simp [covB]
    rw [addR, hc]
    split
    · have : covB (x :: addR t a b) p ↔ ((x.f0 ≤ p ∧ p < x.f1) ∨ covB (addR t a b) p) := by simp [covB]
      rw [this, ih a b p ht h1, or_assoc]
    · split
      · have := hx.2.1
        rw [ih _ _ p ht (by omega)]
        constructor
        · rintro (h | h)
          · exact .inl (.inr h)
          · by_cases hp : x.f0 ≤ p ∧ p < x.f1
            · exact .inl (.inl hp)
            · exact .inr (by omega)
        · rintro ((h | h) | h)
          · exact .inr (by omega)
          · exact .inl h
          · exact .inr (by omega)
      · have : covB (⟨a, b⟩ :: x :: t) p ↔ ((a ≤ p ∧ p < b) ∨ covB (x :: t) p) := by simp [covB]
        rw [this, hc]
        exact or_comm
def inside (l : List S26) (u v : Int) : Prop := ∃ s, s ∈ l ∧ s.f0 ≤ u ∧ v ≤ s.f1
theorem addR_self (l : List S26) : ∀ (a b u v : Int), a ≤ u → v ≤ b → inside (addR l a b) u v := by
  induction l with
  | nil => intro a b u v h1 h2; exact ⟨⟨a, b⟩, by simp [addR], h1, h2⟩
  | cons x t ih =>
    intro a b u v h1 h2
    rw [addR]
    split
    · obtain ⟨s, hs, h⟩ := ih a b u v h1 h2
      exact ⟨s, by simp [hs], h⟩
    · split
      · exact ih _ _ u v (by omega) (by omega)
      · exact ⟨⟨a, b⟩, by simp, h1, h2⟩
theorem addR_old (l : List S26) : ∀ (a b u v : Int), inside l u v → inside (addR l a b) u v := by
  induction l with
  | nil => rintro a b u v ⟨s, hs, _⟩; simp at hs
  | cons x t ih =>
    rintro a b u v ⟨s, hs, h1, h2⟩
    rw [addR]
    split
    · rcases List.mem_cons.1 hs with rfl | hs
      · exact ⟨s, by simp, h1, h2⟩
      · obtain ⟨s', hs', h'⟩ := ih a b u v ⟨s, hs, h1, h2⟩
        exact ⟨s', by simp [hs'], h'⟩
    · split
      · rcases List.mem_cons.1 hs with rfl | hs
        · exact addR_self t _ _ u v (by omega) (by omega)
        · exact ih _ _ u v ⟨s, hs, h1, h2⟩
      · exact ⟨s, by simp at hs ⊢; exact .inr hs, h1, h2⟩
def size : List S26 → Int
  | [] => 0
  | s :: t => (s.f1 - s.f0) + size t
theorem addR_size (l : List S26) : ∀ (a b : Int), SetOk l → a < b → size (addR l a b) ≤ size l + (b - a) := by
  induction l with
  | nil => intro a b _ _; simp [addR, size]
  | cons x t ih =>
    rintro a b ⟨hx, hlt, ht⟩ h1
    rw [addR]
    split
    · have := ih a b ht h1
      simp only [size]; omega
    · split
      · have hh := hx.2.1
        have := ih (min a x.f0) (max b x.f1) ht (by omega)
        simp only [size]; omega
      · simp only [size]; omega
theorem addR_length (l : List S26) : ∀ (a b : Int), (addR l a b).length ≤ l.length + 1 := by
  induction l with
  | nil => intro a b; simp [addR]
  | cons x t ih =>
    intro a b
    rw [addR]
    split
    · have := ih a b; simp; omega
    · split
      · have := ih (min a x.f0) (max b x.f1); simp; omega
      · simp
end Go.Proofs.Yteahdfibipalkaa.Pure

namespace Go.Proofs.Yteahdfibipalkaa.Pure
open Go.RowKit Go.Proofs.Yteahdfibipalkaa.G Go.Proofs.YteahdfibipalkaaW.PrintWords Go.Proofs.YteahdfibipalkaaW.PrintLast

theorem Ev.cbind {α β : Type} {o : Option α} {a : α} {f : Nat → α → Option β} {r : β} (h : o = some a) (e : Ev (fun k => f k a) r) : Ev (fun k => o.bind (f k)) r := by subst h; exact e
theorem Ev.const {α : Type} {o : Option α} {r : α} (h : o = some r) : Ev (fun _ => o) r := ⟨0, fun _ _ => h⟩
theorem bits_255 (x : Int) : 0 ≤ Go.bits .and .i64 x 255 ∧ Go.bits .and .i64 x 255 ≤ 255 := by
  have h : (BitVec.ofInt 64 x &&& BitVec.ofInt 64 255).toNat ≤ 255 := by
    rw [BitVec.toNat_and]
    exact Nat.and_le_right
  have e : Go.bits .and .i64 x 255 = ((BitVec.ofInt 64 x &&& BitVec.ofInt 64 255).toNat : Int) := by
    show IntKind.i64.wrap _ = _
    rw [IntKind.wrap_i64]
    have h' : ((BitVec.ofInt IntKind.i64.bits x &&& BitVec.ofInt IntKind.i64.bits 255).toNat) = (BitVec.ofInt 64 x &&& BitVec.ofInt 64 255).toNat := rfl
    show (((BitVec.ofInt IntKind.i64.bits x &&& BitVec.ofInt IntKind.i64.bits 255).toNat : Int) + _) % _ - _ = _
    rw [h']
    omega
  rw [e]
  omega

/-- A draw's state: the index lies in the bytes. -/
def St (b : List Int) (i : Int) : Prop := 0 ≤ i ∧ i ≤ (b.length : Int) ∧ b.length ≤ 140737488355328
theorem byte_some {b : List Int} {i : Int} (h : Int) (s : St b i) : ∃ v i' h', spec_l1Byte.f b i h = some (v, i', h') ∧ 0 ≤ v ∧ v ≤ 255 ∧ St b i' := by
  obtain ⟨s0, s1, s2⟩ := s
  unfold spec_l1Byte.f
  by_cases c : i < (b.length : Int)
  · rw [if_pos c, if_pos s0]
    refine ⟨_, _, _, rfl, (bits_255 _).1, (bits_255 _).2, ?_⟩
    rw [wrap64_id (by omega) (by omega)]
    exact ⟨by omega, by omega, s2⟩
  · rw [if_neg c]
    exact ⟨_, _, _, rfl, (bits_255 _).1, (bits_255 _).2, s0, s1, s2⟩
theorem below_some {b : List Int} {i : Int} (h n : Int) (s : St b i) (hn : 0 < n) (hn' : n ≤ 256) : ∃ v i' h', spec_l1Below.f b i h n = some (v, i', h') ∧ 0 ≤ v ∧ v < n ∧ St b i' := by
  obtain ⟨v, i', h', e, v0, v1, s'⟩ := byte_some h s
  unfold spec_l1Below.f
  rw [if_neg (by omega), if_pos hn', e, Option.bind_some, if_neg (by omega)]
  refine ⟨_, _, _, rfl, Int.tmod_nonneg _ v0, Int.tmod_lt_of_pos _ hn, s'⟩
theorem once_some {b : List Int} {i : Int} (h n : Int) (s : St b i) (hn : 0 < n) (hn' : n ≤ 256) : ∃ v i' h', spec_l1Once.f b i h n = some (v, i', h') ∧ St b i' := by
  obtain ⟨v, i', h', e, _, _, s'⟩ := below_some h n s hn hn'
  unfold spec_l1Once.f
  rw [e, Option.bind_some]
  exact ⟨_, _, _, rfl, s'⟩
theorem int_some {b : List Int} {i : Int} (h : Int) (l : List Int) (s : St b i) (hn : 0 < l.length) (hn' : l.length ≤ 256) : ∃ v i' h', spec_l1Int.f b i h l = some (v, i', h') ∧ v ∈ l ∧ St b i' := by
  obtain ⟨v, i', h', e, v0, v1, s'⟩ := below_some h (l.length : Int) s (by omega) (by omega)
  unfold spec_l1Int.f
  rw [e, Option.bind_some]
  simp only [v0, v1, if_true]
  refine ⟨_, _, _, rfl, ?_, s'⟩
  unfold rd
  have hv : v.toNat < l.length := by omega
  rw [List.getD_eq_getElem?_getD, List.getElem?_eq_getElem hv]
  exact List.getElem_mem hv
theorem new_loop (b : List Int) (_hb : b.length ≤ 140737488355328) (d : Nat) : ∀ (h i : Int), 0 ≤ i → i ≤ b.length → (b.length : Int) - i = d → ∃ h', Ev (fun k => spec_l1New.l0 k b h i) (b, 0, h') := by
  induction d with
  | zero =>
    intro h i h0 h1 hd
    refine ⟨h, ?_⟩
    apply Ev.step
    · intro k; rw [spec_l1New.l0]
    exact Ev.neg (by omega) (Ev.ret rfl)
  | succ d ih =>
    intro h i h0 h1 hd
    by_cases c : i < 4000
    · obtain ⟨h', e⟩ := ih (Go.bits .and .i64 (wrap64 ((wrap64 ((wrap64 (h * 139)) + (wrap64 (rd b i)))) + 11)) 1073741823) (i + 1) (by omega) (by omega) (by omega)
      refine ⟨h', ?_⟩
      apply Ev.step
      · intro k; rw [spec_l1New.l0]
      refine Ev.pos (by omega) (Ev.pos c (Ev.pos h0 ?_))
      rw [wrap64_id (x := i + 1) (by omega) (by omega)]
      exact e
    · refine ⟨h, ?_⟩
      apply Ev.step
      · intro k; rw [spec_l1New.l0]
      exact Ev.pos (by omega) (Ev.neg c (Ev.ret rfl))
theorem new_some (b : List Int) (hb : b.length ≤ 140737488355328) : ∃ h, Ev (fun k => spec_l1New.f k b) (b, 0, h) ∧ St b 0 := by
  obtain ⟨h', e⟩ := new_loop b hb b.length (wrap64 (271091 + (b.length : Int))) 0 (by omega) (by omega) (by omega)
  exact ⟨h', e, by omega, by omega, hb⟩
end Go.Proofs.Yteahdfibipalkaa.Pure

namespace Go.Proofs.Yteahdfibipalkaa.Pure
open Go.RowKit Go.Proofs.Yteahdfibipalkaa.G Go.Proofs.YteahdfibipalkaaW.PrintWords Go.Proofs.YteahdfibipalkaaW.PrintLast

theorem impl_set_loop (rest : List S26) : ∀ (pre : List S26) (p : S26), (pre ++ [p] ++ rest).length ≤ 9223372036854775806 →
    Ev (fun k => impl_IsSpanSet.l0 k (pre ++ [p] ++ rest) (pre ++ [p] ++ rest) ((pre ++ [p] ++ rest).length : Int) ((pre.length + 1 : Nat) : Int)) (isSetP p rest) := by
  induction rest with
  | nil =>
    intro pre p hl
    apply Ev.step
    · intro k; rw [impl_IsSpanSet.l0]
    refine Ev.neg (by simp) (Ev.ret rfl)
  | cons x t ih =>
    intro pre p hl
    have hi := ih (pre ++ [p]) x (by simp only [List.length_append, List.length_cons, List.length_nil] at hl ⊢; omega)
    have hr : pre ++ [p] ++ [x] ++ t = pre ++ [p] ++ x :: t := by simp
    rw [hr] at hi
    have hlen : ((pre ++ [p] ++ x :: t).length : Int) = pre.length + 1 + (t.length + 1) := by simp; omega
    have e1 : rd_T26 (pre ++ [p] ++ x :: t) ((pre.length + 1 : Nat) : Int) = x := by
      have := rd_mid (pre ++ [p]) x t
      simpa using this
    have e2 : rd_T26 (pre ++ [p] ++ x :: t) (pre.length : Int) = p := rd_prev pre p (x :: t)
    have hw : wrap64 (((pre.length + 1 : Nat) : Int) - 1) = (pre.length : Int) := by rw [wrap64_id] <;> omega
    have hw2 : wrap64 (((pre.length + 1 : Nat) : Int) + 1) = (((pre ++ [p]).length + 1 : Nat) : Int) := by rw [wrap64_id] <;> simp <;> omega
    generalize pre ++ [p] ++ x :: t = L at *
    apply Ev.step
    · intro k; rw [impl_IsSpanSet.l0]
    simp only [e1, hw, e2, hw2]
    refine Ev.pos (by omega) (Ev.pos (by omega) (Ev.pos (by omega) ?_))
    by_cases h1 : x.f0 < 0
    · exact Ev.pos h1 (Ev.ret (by simp [isSetP, ok1]; omega))
    refine Ev.neg h1 ?_
    by_cases h2 : x.f0 ≥ x.f1
    · exact Ev.pos h2 (Ev.ret (by simp [isSetP, ok1]; omega))
    refine Ev.neg h2 ?_
    by_cases h3 : x.f1 > 1000000000000
    · exact Ev.pos h3 (Ev.ret (by simp [isSetP, ok1]; omega))
    refine Ev.neg h3 ?_
    refine Ev.pos (by omega) (Ev.pos (by omega) (Ev.pos (by omega) ?_))
    by_cases h4 : p.f1 ≥ x.f0
    · exact Ev.pos h4 (Ev.ret (by simp [isSetP, ok1]; omega))
    refine Ev.neg h4 ?_
    refine Ev.eq ?_ hi
    simp [isSetP, ok1]
    omega
theorem spec_isSet (l : List S26) (hl : l.length ≤ 9223372036854775806) : Ev (fun k => spec_IsSpanSet.f k l) (isSet l) := by
  cases l with
  | nil =>
    apply Ev.step (f := fun _ => some true) (fun k => by simp [spec_IsSpanSet.f, spec_IsSpanSet.l0])
    exact Ev.ret rfl
  | cons x t =>
    have hi := spec_set_loop t [] x hl
    show Ev (fun k => spec_IsSpanSet.l0 k (x :: t) 0) _
    have e1 : rd_T26 (x :: t) 0 = x := rfl
    have hw : wrap64 ((0 : Int) + 1) = ((([] : List S26).length + 1 : Nat) : Int) := by rw [wrap64_id] <;> simp
    apply Ev.step
    · intro k; rw [spec_IsSpanSet.l0]
    simp only [e1, hw]
    refine Ev.pos (by simp only [List.length_cons]; omega) (Ev.pos (by omega) ?_)
    by_cases h1 : x.f0 < 0
    · exact Ev.pos h1 (Ev.ret (by simp [isSet, ok1]; omega))
    refine Ev.neg h1 ?_
    by_cases h2 : x.f0 ≥ x.f1
    · exact Ev.pos h2 (Ev.ret (by simp [isSet, ok1]; omega))
    refine Ev.neg h2 ?_
    by_cases h3 : x.f1 > 1000000000000
    · exact Ev.pos h3 (Ev.ret (by simp [isSet, ok1]; omega))
    refine Ev.neg h3 (Ev.neg (by omega) ?_)
    refine Ev.eq ?_ hi
    simp [isSet, ok1]
    omega
theorem impl_isSet (l : List S26) (hl : l.length ≤ 9223372036854775806) : Ev (fun k => impl_IsSpanSet.f k l) (isSet l) := by
  cases l with
  | nil =>
    apply Ev.step (f := fun _ => some true) (fun k => by simp [impl_IsSpanSet.f, impl_IsSpanSet.l0])
    exact Ev.ret rfl
  | cons x t =>
    have hi := impl_set_loop t [] x hl
    have hr : [] ++ [x] ++ t = x :: t := rfl
    rw [hr] at hi
    show Ev (fun k => impl_IsSpanSet.l0 k (x :: t) (x :: t) ((x :: t).length : Int) 0) _
    have e1 : rd_T26 (x :: t) 0 = x := rfl
    have hlen : ((x :: t).length : Int) = t.length + 1 := by simp
    have hw : wrap64 ((0 : Int) + 1) = ((([] : List S26).length + 1 : Nat) : Int) := by rw [wrap64_id] <;> simp
    apply Ev.step
    · intro k; rw [impl_IsSpanSet.l0]
    simp only [e1, hw]
    refine Ev.pos (by omega) (Ev.pos (by omega) (Ev.pos (by omega) ?_))
    by_cases h1 : x.f0 < 0
    · exact Ev.pos h1 (Ev.ret (by simp [isSet, ok1]; omega))
    refine Ev.neg h1 ?_
    by_cases h2 : x.f0 ≥ x.f1
    · exact Ev.pos h2 (Ev.ret (by simp [isSet, ok1]; omega))
    refine Ev.neg h2 ?_
    by_cases h3 : x.f1 > 1000000000000
    · exact Ev.pos h3 (Ev.ret (by simp [isSet, ok1]; omega))
    refine Ev.neg h3 (Ev.neg (by omega) ?_)
    refine Ev.eq ?_ hi
    simp [isSet, ok1]
    omega

def B0 : Nat := 1000000000000
/-- The second loop of AddSpan. -/
def mrg : List S26 → Int → Int → List S26
  | [], a, b => [⟨a, b⟩]
  | s :: t, a, b => if s.f0 ≤ b then mrg t (min a s.f0) (max b s.f1) else ⟨a, b⟩ :: s :: t
def addI : List S26 → Int → Int → List S26
  | [], a, b => [⟨a, b⟩]
  | s :: t, a, b => if s.f1 < a then s :: addI t a b else mrg (s :: t) a b
theorem mrg_length (l : List S26) : ∀ a b, (mrg l a b).length ≤ l.length + 1 := by
  induction l with
  | nil => intro a b; simp [mrg]
  | cons x t ih => intro a b; rw [mrg]; split; · have := ih (min a x.f0) (max b x.f1); simp; omega
                   · simp
theorem mrg_eq (l : List S26) : ∀ (a b : Int), SetOk l → (∀ s, s ∈ l → a ≤ s.f1) → mrg l a b = addR l a b := by
  induction l with
  | nil => intro a b _ _; rfl
  | cons x t ih =>
    rintro a b ⟨hx, hlt, ht⟩ h
    have h0 := h x (by simp)
    rw [mrg, addR, if_neg (show ¬ x.f1 < a by omega)]
    split
    · refine ih _ _ ht (fun s hs => ?_)
      have := h s (by simp [hs])
      omega
    · rfl
theorem SetOk.mem {l : List S26} (h : SetOk l) : ∀ s, s ∈ l → valid s := by
  induction l with
  | nil => intro s hs; simp at hs
  | cons x t ih =>
    intro s hs
    rcases List.mem_cons.1 hs with rfl | hs
    · exact h.1
    · exact ih h.2.2 s hs
theorem addI_eq (l : List S26) : ∀ (a b : Int), SetOk l → addI l a b = addR l a b := by
  induction l with
  | nil => intro a b _; rfl
  | cons x t ih =>
    rintro a b h
    have hx := h.1; have hlt := h.2.1; have ht := h.2.2
    rw [addI]
    split
    · rename_i c
      rw [addR, if_pos c, ih a b ht]
    · rename_i c
      refine mrg_eq _ _ _ h (fun s hs => ?_)
      rcases List.mem_cons.1 hs with rfl | hs
      · omega
      · have := hlt s hs; have := (ht.mem s hs).2.1; omega
theorem mn_eq (a b : Int) : mn a b = min a b := by unfold mn; split <;> omega
theorem mx_eq (a b : Int) : mx a b = max a b := by unfold mx; split <;> omega
theorem add_l1 (rest : List S26) : ∀ (pre acc : List S26) (a b : Int), (pre ++ rest).length ≤ B0 → acc.length ≤ pre.length →
    Ev (fun k => impl_AddSpan.l1 k (pre ++ rest) acc (pre.length : Int) a b) (acc ++ mrg rest a b) := by
  induction rest with
  | nil =>
    intro pre acc a b hl ha
    simp only [B0, List.length_append, List.length_nil] at hl
    apply Ev.step
    · intro k; rw [impl_AddSpan.l1]
    refine Ev.neg (by simp) (Ev.pos (by omega) (Ev.retBind (Ev.pos (by omega) (Ev.pos (by simp) (Ev.retBind (Ev.pos ?_ (Ev.ret ?_)))))))
    · simp; omega
    · simp [mrg]
  | cons x t ih =>
    intro pre acc a b hl ha
    have hi := ih (pre ++ [x]) acc (min a x.f0) (max b x.f1) (by simpa using hl) (by simp; omega)
    have hr : pre ++ [x] ++ t = pre ++ x :: t := by simp
    rw [hr] at hi
    have e1 : rd_T26 (pre ++ x :: t) (pre.length : Int) = x := rd_mid pre x t
    have e2 : (pre ++ x :: t).drop (pre.length : Int).toNat = x :: t := by simp
    simp only [B0, List.length_append, List.length_cons] at hl
    have hw : wrap64 ((pre.length : Int) + 1) = ((pre ++ [x]).length : Int) := by rw [wrap64_id (by omega) (by omega)]; simp
    apply Ev.step
    · intro k; rw [impl_AddSpan.l1]
    simp only [e1, e2, hw, mn_eq, mx_eq]
    refine Ev.pos (by simp; omega) (Ev.pos (by omega) ?_)
    by_cases c : x.f0 ≤ b
    · refine Ev.pos c ?_
      rw [mrg, if_pos c]
      exact hi
    · refine Ev.neg c (Ev.pos (by omega) (Ev.retBind (Ev.pos (by simp; omega) (Ev.retBind (Ev.pos ?_ (Ev.ret ?_))))))
      · simp; omega
      · rw [mrg, if_neg c]; simp
theorem add_l0 (rest : List S26) : ∀ (pre acc : List S26) (a b : Int), (pre ++ rest).length ≤ B0 → acc.length ≤ pre.length →
    Ev (fun k => impl_AddSpan.l0 k (pre ++ rest) acc (pre.length : Int) a b) (acc ++ addI rest a b) := by
  induction rest with
  | nil =>
    intro pre acc a b hl ha
    have h1 := add_l1 [] pre acc a b hl ha
    apply Ev.step
    · intro k; rw [impl_AddSpan.l0]
    refine Ev.neg (by simp) ?_
    apply Ev.step
    · intro k; rw [impl_AddSpan.j2]
    exact h1
  | cons x t ih =>
    intro pre acc a b hl ha
    have h1 := add_l1 (x :: t) pre acc a b hl ha
    have hi := ih (pre ++ [x]) (acc ++ [x]) a b (by simpa using hl) (by simp; omega)
    have hr : pre ++ [x] ++ t = pre ++ x :: t := by simp
    rw [hr] at hi
    have e1 : rd_T26 (pre ++ x :: t) (pre.length : Int) = x := rd_mid pre x t
    simp only [B0, List.length_append, List.length_cons] at hl
    have hw : wrap64 ((pre.length : Int) + 1) = ((pre ++ [x]).length : Int) := by rw [wrap64_id (by omega) (by omega)]; simp
    apply Ev.step
    · intro k; rw [impl_AddSpan.l0]
    simp only [e1, hw]
    refine Ev.pos (by simp; omega) (Ev.pos (by omega) ?_)
    by_cases c : x.f1 < a
    · refine Ev.pos c (Ev.pos (by omega) ?_)
      rw [addI, if_pos c]
      refine Ev.eq ?_ hi
      simp
    · refine Ev.neg c ?_
      rw [addI, if_neg c]
      apply Ev.step
      · intro k; rw [impl_AddSpan.j2]
      exact h1
def addX (l : List S26) (a b : Int) : List S26 := if isSet l = true ∧ 0 ≤ a ∧ a < b ∧ b ≤ 1000000000000 then addR l a b else l
theorem impl_add (l : List S26) (a b : Int) (hl : l.length ≤ B0) : Ev (fun k => impl_AddSpan.f k l a b) (addX l a b) := by
  have hB : B0 = 1000000000000 := rfl
  refine Ev.bind (impl_isSet l (by omega)) ?_
  have hno : (¬ (isSet l = true ∧ 0 ≤ a ∧ a < b ∧ b ≤ 1000000000000)) → Ev (fun k => impl_AddSpan.j0 k l true a b) (addX l a b) := by
    intro h
    apply Ev.step
    · intro k; rw [impl_AddSpan.j0]
    refine Ev.pos rfl ?_
    rw [addX, if_neg h]
    refine Ev.cbind (a := l) ?_ (Ev.ret rfl)
    simp only [impl_Span_38.f, Option.bind_some]
    rw [if_pos (by simp; omega)]
    simp
  by_cases c : isSet l = true
  · refine Ev.pos c ?_
    by_cases c1 : a ≥ b
    · exact Ev.pos c1 (hno (by omega))
    refine Ev.neg c1 ?_
    by_cases c2 : a < 0
    · exact Ev.pos c2 (hno (by omega))
    refine Ev.neg c2 ?_
    by_cases c3 : b > 1000000000000
    · rw [decide_eq_true c3]; exact hno (by omega)
    rw [decide_eq_false c3]
    apply Ev.step
    · intro k; rw [impl_AddSpan.j0]
    refine Ev.neg (by simp) ?_
    have := add_l0 l [] [] a b hl (by simp)
    rw [addX, if_pos ⟨c, by omega, by omega, by omega⟩, ← addI_eq l a b ((isSet_iff l).1 c)]
    exact this
  · refine Ev.neg c (hno (fun h => c h.1))
end Go.Proofs.Yteahdfibipalkaa.Pure

namespace Go.Proofs.Yteahdfibipalkaa.Pure
open Go.RowKit Go.Proofs.Yteahdfibipalkaa.G Go.Proofs.YteahdfibipalkaaW.PrintWords Go.Proofs.YteahdfibipalkaaW.PrintLast

theorem min_f (a b : Int) : spec_Min.f a b = some (min a b) := by unfold spec_Min.f; split <;> congr 1 <;> omega
theorem max_f (a b : Int) : spec_Max.f a b = some (max a b) := by unfold spec_Max.f; split <;> congr 1 <;> omega
def p2 : List S26 → Int → Int → Int × Int
  | [], a, b => (a, b)
  | s :: t, a, b => if s.f1 ≥ a ∧ s.f0 ≤ b then p2 t (min a s.f0) (max b s.f1) else p2 t a b
theorem p2_ge (l : List S26) : ∀ a b, b ≤ (p2 l a b).2 := by
  induction l with
  | nil => intro a b; simp [p2]
  | cons x t ih =>
    intro a b
    rw [p2]
    split
    · have := ih (min a x.f0) (max b x.f1); omega
    · exact ih a b
theorem p2_skip (l : List S26) : ∀ a b, (∀ s, s ∈ l → b < s.f0) → p2 l a b = (a, b) := by
  induction l with
  | nil => intro a b _; rfl
  | cons x t ih =>
    intro a b h
    have := h x (by simp)
    rw [p2, if_neg (by omega)]
    exact ih a b (fun s hs => h s (by simp [hs]))
def addS (l : List S26) (a b : Int) : List S26 := l.filter (fun s => decide (s.f1 < a)) ++ [⟨(p2 l a b).1, (p2 l a b).2⟩] ++ l.filter (fun s => decide (s.f0 > (p2 l a b).2))
theorem addS_eq (l : List S26) : ∀ a b : Int, SetOk l → a < b → addS l a b = addR l a b := by
  induction l with
  | nil => intro a b _ _; rfl
  | cons x t ih =>
    rintro a b ⟨hx, hlt, ht⟩ hab
    have hb := p2_ge t a b
    have hx1 := hx.2.1
    rw [addR]
    by_cases c : x.f1 < a
    · rw [if_pos c, ← ih a b ht hab]
      unfold addS
      rw [p2, if_neg (by omega), List.filter_cons_of_pos (by simpa using c), List.filter_cons_of_neg (by simp; omega)]
      simp
    rw [if_neg c]
    have hno : ∀ a', a' ≤ a → t.filter (fun s => decide (s.f1 < a')) = [] := by
      intro a' ha
      rw [List.filter_eq_nil_iff]
      intro s hs
      have := hlt s hs
      have := (ht.mem s hs).2.1
      simp; omega
    by_cases c2 : x.f0 ≤ b
    · rw [if_pos c2, ← ih (min a x.f0) (max b x.f1) ht (by omega)]
      have hb' := p2_ge t (min a x.f0) (max b x.f1)
      unfold addS
      rw [p2, if_pos ⟨by omega, c2⟩, List.filter_cons_of_neg (by simpa using c), List.filter_cons_of_neg (by simp; omega), hno a (by omega), hno (min a x.f0) (by omega)]
    · rw [if_neg c2]
      unfold addS
      have hall : ∀ s, s ∈ t → b < s.f0 := fun s hs => by have := hlt s hs; omega
      rw [p2, if_neg (by omega), p2_skip t a b hall, List.filter_cons_of_neg (by simpa using c), hno a (by omega)]
      simp only [List.nil_append, List.singleton_append]
      congr 1
      rw [List.filter_eq_self.2]
      intro s hs
      rcases List.mem_cons.1 hs with rfl | hs
      · simp; omega
      · have := hall s hs; simp; omega
theorem fl_le (l : List S26) (p : S26 → Bool) : (l.filter p).length ≤ l.length := List.length_filter_le p l
theorem s_l2 (rest : List S26) : ∀ (pre acc : List S26) (a b : Int), (pre ++ rest).length ≤ B0 → acc.length ≤ B0 + pre.length + 1 →
    Ev (fun k => spec_AddSpan.l2 k (pre ++ rest) acc (pre.length : Int) a b) (acc ++ rest.filter (fun s => decide (s.f0 > b))) := by
  induction rest with
  | nil =>
    intro pre acc a b hl ha
    apply Ev.step
    · intro k; rw [spec_AddSpan.l2]
    exact Ev.neg (by simp) (Ev.ret (by simp))
  | cons x t ih =>
    intro pre acc a b hl ha
    have e1 : rd_T26 (pre ++ x :: t) (pre.length : Int) = x := rd_mid pre x t
    have hr : pre ++ [x] ++ t = pre ++ x :: t := by simp
    have hi := fun acc h => ih (pre ++ [x]) acc a b (by simpa using hl) h
    rw [hr] at hi
    simp only [B0, List.length_append, List.length_cons, List.length_nil] at hl ha hi
    have hw : wrap64 ((pre.length : Int) + 1) = ((pre.length + (0 + 1) : Nat) : Int) := by rw [wrap64_id (by omega) (by omega)]; simp
    apply Ev.step
    · intro k; rw [spec_AddSpan.l2]
    simp only [e1, hw]
    refine Ev.pos (by simp; omega) (Ev.pos (by omega) ?_)
    by_cases c : x.f0 > b
    · refine Ev.pos c (Ev.pos (by omega) ?_)
      rw [List.filter_cons_of_pos (by simpa using c)]
      refine Ev.eq ?_ (hi (acc ++ [x]) (by simp; omega))
      simp
    · refine Ev.neg c ?_
      rw [List.filter_cons_of_neg (by simpa using c)]
      exact hi acc (by omega)
theorem s_l1 (L : List S26) (hL : L.length ≤ B0) (rest : List S26) : ∀ (pre acc : List S26) (a b : Int), pre ++ rest = L → acc.length ≤ B0 →
    Ev (fun k => spec_AddSpan.l1 k L acc (pre.length : Int) a b) (acc ++ [⟨(p2 rest a b).1, (p2 rest a b).2⟩] ++ L.filter (fun s => decide (s.f0 > (p2 rest a b).2))) := by
  induction rest with
  | nil =>
    intro pre acc a b hl ha
    simp only [List.append_nil] at hl
    subst hl
    have h2 := s_l2 pre [] (acc ++ [⟨a, b⟩]) a b (by simpa using hL) (by simp; omega)
    simp only [B0] at ha
    apply Ev.step
    · intro k; rw [spec_AddSpan.l1]
    refine Ev.neg (by omega) (Ev.pos (by omega) ?_)
    exact h2
  | cons x t ih =>
    intro pre acc a b hl ha
    have e1 : rd_T26 L (pre.length : Int) = x := by rw [← hl]; exact rd_mid pre x t
    have hi := fun a b => ih (pre ++ [x]) acc a b (by simpa using hl) ha
    have hll : L.length = pre.length + (t.length + 1) := by rw [← hl]; simp
    simp only [List.length_append, List.length_cons, List.length_nil] at hi
    simp only [B0] at hL ha
    have hw : wrap64 ((pre.length : Int) + 1) = ((pre.length + (0 + 1) : Nat) : Int) := by rw [wrap64_id (by omega) (by omega)]; simp
    have hj : ∀ bb : Bool, (bb = true ↔ x.f0 ≤ b) → ∀ bc : Bool, bc = (decide (x.f1 ≥ a) && bb) → Ev (fun k => spec_AddSpan.j3 k L acc (pre.length : Int) bc a b) (acc ++ [⟨(p2 (x :: t) a b).1, (p2 (x :: t) a b).2⟩] ++ L.filter (fun s => decide (s.f0 > (p2 (x :: t) a b).2))) := by
      intro bb hbb bc hbc
      apply Ev.step
      · intro k; rw [spec_AddSpan.j3]
      simp only [e1, hw]
      cases bc with
      | true =>
        have h := hbc.symm
        simp only [Bool.and_eq_true, decide_eq_true_eq] at h
        have h2 := hbb.1 h.2
        rw [p2, if_pos ⟨h.1, h2⟩]
        exact Ev.pos rfl (Ev.pos (by omega) (Ev.pos (by omega) (Ev.cbind (min_f _ _) (Ev.cbind (max_f _ _) (hi _ _)))))
      | false =>
        have h := hbc.symm
        have hn : ¬ (x.f1 ≥ a ∧ x.f0 ≤ b) := by
          rintro ⟨h1, h2⟩
          rw [hbb.2 h2] at h
          simp at h
          omega
        rw [p2, if_neg hn]
        exact Ev.neg (by simp) (hi a b)
    apply Ev.step
    · intro k; rw [spec_AddSpan.l1]
    simp only [e1]
    refine Ev.pos (by omega) (Ev.pos (by omega) ?_)
    by_cases c : x.f1 ≥ a
    · exact Ev.pos c (hj (decide (x.f0 ≤ b)) (by simp) _ (by rw [decide_eq_true c]; rfl))
    · exact Ev.neg c (hj (decide (x.f0 ≤ b)) (by simp) _ (by rw [decide_eq_false c]; rfl))
theorem s_l0 (L : List S26) (hL : L.length ≤ B0) (rest : List S26) : ∀ (pre acc : List S26) (a b : Int), pre ++ rest = L → acc.length ≤ pre.length →
    Ev (fun k => spec_AddSpan.l0 k L acc (pre.length : Int) a b) (acc ++ rest.filter (fun s => decide (s.f1 < a)) ++ [⟨(p2 L a b).1, (p2 L a b).2⟩] ++ L.filter (fun s => decide (s.f0 > (p2 L a b).2))) := by
  induction rest with
  | nil =>
    intro pre acc a b hl ha
    simp only [List.append_nil] at hl
    subst hl
    apply Ev.step
    · intro k; rw [spec_AddSpan.l0]
    refine Ev.neg (by omega) ?_
    have := s_l1 pre hL pre [] acc a b rfl (by omega)
    simpa using this
  | cons x t ih =>
    intro pre acc a b hl ha
    have e1 : rd_T26 L (pre.length : Int) = x := by rw [← hl]; exact rd_mid pre x t
    have hi := fun acc h => ih (pre ++ [x]) acc a b (by simpa using hl) h
    have hll : L.length = pre.length + (t.length + 1) := by rw [← hl]; simp
    simp only [List.length_append, List.length_cons, List.length_nil] at hi
    simp only [B0] at hL
    have hw : wrap64 ((pre.length : Int) + 1) = ((pre.length + (0 + 1) : Nat) : Int) := by rw [wrap64_id (by omega) (by omega)]; simp
    apply Ev.step
    · intro k; rw [spec_AddSpan.l0]
    simp only [e1, hw]
    refine Ev.pos (by omega) (Ev.pos (by omega) ?_)
    by_cases c : x.f1 < a
    · refine Ev.pos c (Ev.pos (by omega) ?_)
      rw [List.filter_cons_of_pos (by simpa using c)]
      refine Ev.eq ?_ (hi (acc ++ [x]) (by simp; omega))
      simp
    · refine Ev.neg c ?_
      rw [List.filter_cons_of_neg (by simpa using c)]
      exact hi acc (by omega)
theorem spec_add (l : List S26) (a b : Int) (hl : l.length ≤ B0) : Ev (fun k => spec_AddSpan.f k l a b) (addX l a b) := by
  have hB : B0 = 1000000000000 := rfl
  refine Ev.bind (spec_isSet l (by omega)) ?_
  have hno : (¬ (isSet l = true ∧ 0 ≤ a ∧ a < b ∧ b ≤ 1000000000000)) → Ev (fun k => spec_AddSpan.j0 k l true a b) (addX l a b) := by
    intro h
    apply Ev.step
    · intro k; rw [spec_AddSpan.j0]
    refine Ev.pos rfl ?_
    rw [addX, if_neg h]
    refine Ev.retBind (Ev.pos ?_ (Ev.ret (by simp)))
    simp; omega
  by_cases c : isSet l = true
  · refine Ev.pos c ?_
    by_cases c2 : a < 0
    · exact Ev.pos c2 (hno (by omega))
    refine Ev.neg c2 ?_
    by_cases c1 : a ≥ b
    · exact Ev.pos c1 (hno (by omega))
    refine Ev.neg c1 ?_
    by_cases c3 : b > 1000000000000
    · rw [decide_eq_true c3]; exact hno (by omega)
    rw [decide_eq_false c3]
    apply Ev.step
    · intro k; rw [spec_AddSpan.j0]
    refine Ev.neg (by simp) ?_
    have := s_l0 l hl l [] [] a b rfl (by simp)
    rw [addX, if_pos ⟨c, by omega, by omega, by omega⟩, ← addS_eq l a b ((isSet_iff l).1 c) (by omega)]
    exact this
  · refine Ev.neg c (hno (fun h => c h.1))

def cov (l : List S26) (p : Int) : Bool := l.any fun y => decide (y.f0 ≤ p) && decide (p + 1 ≤ y.f1)
theorem cov_iff (l : List S26) (p : Int) : cov l p = true ↔ covB l p := by
  simp [cov, covB, Int.add_one_le_iff]
theorem spec_cov_loop (rest : List S26) : ∀ (pre : List S26) (a b : Int), (pre ++ rest).length ≤ B0 →
    Ev (fun k => spec_CoversSpan.l0 k (pre ++ rest) (pre.length : Int) a b) ((rest.any fun y => decide (y.f0 ≤ a) && decide (b ≤ y.f1)) || decide (a ≥ b)) := by
  induction rest with
  | nil =>
    intro pre a b hl
    apply Ev.step
    · intro k; rw [spec_CoversSpan.l0]
    exact Ev.neg (by simp) (Ev.ret (by simp))
  | cons x t ih =>
    intro pre a b hl
    have e1 : rd_T26 (pre ++ x :: t) (pre.length : Int) = x := rd_mid pre x t
    have hr : pre ++ [x] ++ t = pre ++ x :: t := by simp
    have hi := ih (pre ++ [x]) a b (by simpa using hl)
    rw [hr] at hi
    simp only [B0, List.length_append, List.length_cons, List.length_nil] at hl hi
    have hw : wrap64 ((pre.length : Int) + 1) = ((pre.length + (0 + 1) : Nat) : Int) := by rw [wrap64_id (by omega) (by omega)]; simp
    apply Ev.step
    · intro k; rw [spec_CoversSpan.l0]
    simp only [e1, hw]
    refine Ev.pos (by simp; omega) (Ev.pos (by omega) ?_)
    by_cases c : x.f0 ≤ a
    · refine Ev.pos c ?_
      by_cases c2 : b ≤ x.f1
      · exact Ev.pos c2 (Ev.ret (by simp [c, c2]))
      · exact Ev.neg c2 (Ev.eq (by simp [c2]) hi)
    · exact Ev.neg c (Ev.eq (by simp [c]) hi)
theorem spec_cov (l : List S26) (p : Int) (hl : l.length ≤ B0) (h0 : 0 ≤ p) (h1 : p ≤ 1000000000000) : Ev (fun k => spec_CoversSpan.f k l p (wrap64 (p + 1))) (cov l p) := by
  rw [wrap64_id (by omega) (by omega)]
  refine Ev.eq ?_ (spec_cov_loop l [] p (p + 1) hl)
  rw [cov, decide_eq_false (show ¬ p ≥ p + 1 by omega), Bool.or_false]
theorem impl_cov (l : List S26) (p : Int) (h0 : 0 ≤ p) (h1 : p ≤ 1000000000000) : impl_CoversSpan.f l p (wrap64 (p + 1)) = some (cov l p) := by
  rw [wrap64_id (by omega) (by omega), impl_CoversSpan.f, if_neg (by omega)]; rfl

def missR : List S26 → Int → Int → List S26
  | [], f, t => if f < t then [⟨f, t⟩] else []
  | y :: r, f, t => if y.f1 ≤ f ∨ t ≤ y.f0 then missR r f t else (if f < y.f0 then [⟨f, y.f0⟩] else []) ++ missR r y.f1 t
theorem missR_cov (l : List S26) : ∀ (f t p : Int), SetOk l → (covB (missR l f t) p ↔ (f ≤ p ∧ p < t ∧ ¬ covB l p)) := by
  induction l with
  | nil =>
    intro f t p _
    rw [missR]
    split
    · simp [covB]
    · simp [covB]; omega
  | cons y r ih =>
    rintro f t p ⟨hy, hlt, hr⟩
    have hc : covB (y :: r) p ↔ ((y.f0 ≤ p ∧ p < y.f1) ∨ covB r p) := by simp [covB]
    have hy1 := hy.2.1
    rw [missR, hc]
    split
    · rw [ih f t p hr]
      constructor
      · rintro ⟨h1, h2, h3⟩
        exact ⟨h1, h2, fun h => h.elim (by omega) h3⟩
      · rintro ⟨h1, h2, h3⟩
        exact ⟨h1, h2, fun h => h3 (.inr h)⟩
    · rename_i c
      have happ : covB ((if f < y.f0 then [⟨f, y.f0⟩] else []) ++ missR r y.f1 t) p ↔ ((f ≤ p ∧ p < y.f0) ∨ covB (missR r y.f1 t) p) := by
        split
        · simp [covB, or_and_right, exists_or]
        · simp only [List.nil_append]
          constructor
          · exact .inr
          · rintro (h | h)
            · omega
            · exact h
      have hfar : p < y.f0 → ¬ covB r p := by
        rintro h ⟨s, hs, h1, h2⟩
        have := hlt s hs
        omega
      rw [happ, ih y.f1 t p hr]
      constructor
      · rintro (h | ⟨h1, h2, h3⟩)
        · exact ⟨h.1, by omega, fun h' => h'.elim (by omega) (hfar h.2)⟩
        · exact ⟨by omega, h2, fun h' => h'.elim (by omega) h3⟩
      · rintro ⟨h1, h2, h3⟩
        by_cases c2 : p < y.f0
        · exact .inl ⟨h1, c2⟩
        · refine .inr ⟨?_, h2, fun h => h3 (.inr h)⟩
          apply Classical.byContradiction
          intro h
          exact h3 (.inl (by omega))
theorem miss_l1 (L : List S26) (hL : L.length ≤ B0) (t : Int) (a0 : Int) (rest : List S26) : ∀ (pre acc : List S26) (f : Int), pre ++ rest = L → acc.length ≤ pre.length →
    Ev (fun k => impl_MissingSpans.l1 k acc f L (L.length : Int) (pre.length : Int) a0 t) (acc ++ missR rest f t) := by
  induction rest with
  | nil =>
    intro pre acc f hl ha
    simp only [List.append_nil] at hl
    subst hl
    simp only [B0] at hL
    apply Ev.step
    · intro k; rw [impl_MissingSpans.l1]
    refine Ev.neg (by omega) ?_
    by_cases c : f < t
    · exact Ev.pos c (Ev.pos (by omega) (Ev.ret (by rw [missR, if_pos c])))
    · exact Ev.neg c (Ev.ret (by rw [missR, if_neg c]; simp))
  | cons x r ih =>
    intro pre acc f hl ha
    have e1 : rd_T26 L (pre.length : Int) = x := by rw [← hl]; exact rd_mid pre x r
    have hi := fun acc f h => ih (pre ++ [x]) acc f (by simpa using hl) h
    have hll : L.length = pre.length + (r.length + 1) := by rw [← hl]; simp
    simp only [List.length_append, List.length_cons, List.length_nil] at hi
    simp only [B0] at hL
    have hw : wrap64 ((pre.length : Int) + 1) = ((pre.length + (0 + 1) : Nat) : Int) := by rw [wrap64_id (by omega) (by omega)]; simp
    have hj : ∀ bc : Bool, (bc = true ↔ (x.f1 ≤ f ∨ t ≤ x.f0)) → Ev (fun k => impl_MissingSpans.j1 k acc f L (L.length : Int) (pre.length : Int) bc a0 t x.f0 x.f1) (acc ++ missR (x :: r) f t) := by
      intro bc hbc
      apply Ev.step
      · intro k; rw [impl_MissingSpans.j1]
      simp only [hw]
      cases bc with
      | true =>
        rw [missR, if_pos (hbc.1 rfl)]
        exact Ev.pos rfl (hi acc f (by omega))
      | false =>
        rw [missR, if_neg (fun h => by have := hbc.2 h; simp at this)]
        refine Ev.neg (by simp) ?_
        by_cases c : x.f0 > f
        · rw [if_pos (show f < x.f0 by omega)]
          refine Ev.pos c (Ev.pos (by omega) ?_)
          exact Ev.eq (by simp) (hi (acc ++ [⟨f, x.f0⟩]) x.f1 (by simp; omega))
        · rw [if_neg (show ¬ f < x.f0 by omega)]
          exact Ev.neg c (Ev.eq (by simp) (hi acc x.f1 (by omega)))
    apply Ev.step
    · intro k; rw [impl_MissingSpans.l1]
    simp only [e1]
    refine Ev.pos (by omega) (Ev.pos (by omega) (Ev.pos (by omega) ?_))
    by_cases c : x.f1 ≤ f
    · exact Ev.pos c (hj _ (by simp [c]))
    · exact Ev.neg c (hj _ (by simp [c]))
def missX (l : List S26) (f t : Int) : List S26 := if isSet l = true then missR l f t else missR [] f t
theorem impl_miss (l : List S26) (a b : Int) (hl : l.length ≤ B0) : Ev (fun k => impl_MissingSpans.f k l a b) (missX l a b) := by
  have hB : B0 = 1000000000000 := rfl
  refine Ev.retBind (Ev.bind (impl_isSet l (by omega)) ?_)
  by_cases c : isSet l = true
  · refine Ev.pos c ?_
    rw [missX, if_pos c]
    exact miss_l1 l hl b a l [] [] a rfl (by simp)
  · refine Ev.neg c ?_
    rw [missX, if_neg c]
    apply Ev.step
    · intro k; rw [impl_MissingSpans.l0]
    refine Ev.neg (by simp) ?_
    by_cases c : a < b
    · exact Ev.pos c (Ev.pos (by simp) (Ev.ret (by rw [missR, if_pos c]; simp)))
    · exact Ev.neg c (Ev.ret (by rw [missR, if_neg c]))
theorem missR_length (l : List S26) : ∀ f t, (missR l f t).length ≤ l.length + 1 := by
  induction l with
  | nil => intro f t; rw [missR]; split <;> simp
  | cons x r ih =>
    intro f t
    rw [missR]
    split
    · have := ih f t; simp; omega
    · have := ih x.f1 t
      split <;> simp <;> omega
end Go.Proofs.Yteahdfibipalkaa.Pure

namespace Go.Proofs.Yteahdfibipalkaa.Pure
open Go.RowKit Go.Proofs.Yteahdfibipalkaa.G Go.Proofs.YteahdfibipalkaaW.PrintWords Go.Proofs.YteahdfibipalkaaW.PrintLast

theorem addX_length (l : List S26) (a b : Int) : (addX l a b).length ≤ l.length + 1 := by
  unfold addX; split
  · exact addR_length l a b
  · omega
theorem addX_ok {l : List S26} (h : SetOk l) (a b : Int) : SetOk (addX l a b) := by
  unfold addX; split
  · rename_i c; exact addR_ok l a b h c.2.1 c.2.2.1 c.2.2.2
  · exact h
theorem span_some {b : List Int} {i : Int} (h : Int) (s : St b i) : ∃ u v i' h', spec_l9Span.f b i h = some (u, v, i', h') ∧ 0 ≤ u ∧ u ≤ v ∧ v ≤ 20 ∧ St b i' := by
  obtain ⟨u, i1, h1, e1, u0, u1, s1⟩ := below_some h 16 s (by omega) (by omega)
  obtain ⟨v, i2, h2, e2, v0, v1, s2⟩ := below_some h1 6 s1 (by omega) (by omega)
  refine ⟨u, u + v, i2, h2, ?_, u0, by omega, by omega, s2⟩
  unfold spec_l9Span.f
  rw [e1, Option.bind_some, e2, Option.bind_some, wrap64_id (by omega) (by omega)]
theorem set_loop (b : List Int) (n : Nat) : ∀ (acc : List S26) (i h : Int), St b i → acc.length + n ≤ 100 → ∃ l i' h', Ev (fun k => spec_l9Set.l0 k acc (n : Int) b i h) (l, i', h') ∧ St b i' ∧ l.length ≤ 101 := by
  induction n with
  | zero =>
    intro acc i h s hl
    obtain ⟨v, i1, h1, e1, s1⟩ := once_some h 9 s (by omega) (by omega)
    obtain ⟨u, w, i2, h2, e2, _, _, _, s2⟩ := span_some h1 s1
    by_cases c : v = true
    · refine ⟨acc ++ [⟨u, w⟩], i2, h2, ?_, s2, by simp; omega⟩
      apply Ev.step
      · intro k; rw [spec_l9Set.l0]
      exact Ev.neg (by omega) (Ev.cbind e1 (Ev.pos c (Ev.cbind e2 (Ev.pos (by omega) (Ev.ret rfl)))))
    · refine ⟨acc, i1, h1, ?_, s1, by omega⟩
      apply Ev.step
      · intro k; rw [spec_l9Set.l0]
      exact Ev.neg (by omega) (Ev.cbind e1 (Ev.neg c (Ev.ret rfl)))
  | succ n ih =>
    intro acc i h s hl
    obtain ⟨u, w, i2, h2, e2, _, _, _, s2⟩ := span_some h s
    have hlen := addX_length acc u w
    obtain ⟨l, i', h', e, s', hl'⟩ := ih (addX acc u w) i2 h2 s2 (by omega)
    refine ⟨l, i', h', ?_, s', hl'⟩
    apply Ev.step
    · intro k; rw [spec_l9Set.l0]
    refine Ev.pos (by omega) (Ev.cbind e2 (Ev.bind (spec_add acc u w (by simp only [B0]; omega)) ?_))
    rw [wrap64_id (x := ((n + 1 : Nat) : Int) - 1) (by omega) (by omega), show ((n + 1 : Nat) : Int) - 1 = (n : Int) by omega]
    exact e
theorem l9_some {b : List Int} {i : Int} (h : Int) (s : St b i) : ∃ l i' h', Ev (fun k => spec_l9Set.f k b i h) (l, i', h') ∧ St b i' ∧ l.length ≤ 101 := by
  obtain ⟨v, i1, h1, e1, v0, v1, s1⟩ := below_some h 5 s (by omega) (by omega)
  obtain ⟨n, rfl⟩ := Int.eq_ofNat_of_zero_le v0
  obtain ⟨l, i', h', e, s', hl'⟩ := set_loop b n [] i1 h1 s1 (by simp; omega)
  exact ⟨l, i', h', Ev.cbind e1 e, s', hl'⟩
theorem odd_some {b : List Int} {i : Int} (h : Int) (s : St b i) : ∃ v i' h', spec_l1Odd.f b i h = some (v, i', h') ∧ St b i' := by
  obtain ⟨v, i1, h1, e1, _, s1⟩ := int_some h [(-1), 0, 1, 2, 255, 256, 65535, 2147483647, 2147483648, 4294967295, 4294967296, (-2147483648), 9223372036854775807, (-9223372036854775808)] s (by simp) (by simp)
  refine ⟨v, i1, h1, ?_, s1⟩
  unfold spec_l1Odd.f
  rw [e1, Option.bind_some]
theorem draw_add (b : List Int) (hb : b.length ≤ 140737488355328) : ∃ l u v, Ev (fun k => spec_DrawAddSpan.f k b) (l, u, v) ∧ l.length ≤ 101 := by
  obtain ⟨h0, e0, s0⟩ := new_some b hb
  obtain ⟨l, i1, h1, e1, s1, hl⟩ := l9_some h0 s0
  obtain ⟨u, v, i2, h2, e2, _, _, _, s2⟩ := span_some h1 s1
  obtain ⟨c, i3, h3, e3, s3⟩ := once_some h2 9 s2 (by omega) (by omega)
  obtain ⟨x, i4, h4, e4, s4⟩ := odd_some h3 s3
  by_cases hc : c = true
  · exact ⟨l, x, v, Ev.bind e0 (Ev.bind e1 (Ev.cbind e2 (Ev.cbind e3 (Ev.pos hc (Ev.cbind e4 (Ev.ret rfl)))))), hl⟩
  · exact ⟨l, u, v, Ev.bind e0 (Ev.bind e1 (Ev.cbind e2 (Ev.cbind e3 (Ev.neg hc (Ev.ret rfl))))), hl⟩
theorem draw_miss (b : List Int) (hb : b.length ≤ 140737488355328) : ∃ l u v, Ev (fun k => spec_DrawMissingSpans.f k b) (l, u, v) ∧ l.length ≤ 101 := by
  obtain ⟨h0, e0, s0⟩ := new_some b hb
  obtain ⟨l, i1, h1, e1, s1, hl⟩ := l9_some h0 s0
  obtain ⟨u, v, i2, h2, e2, _, _, _, s2⟩ := span_some h1 s1
  exact ⟨l, u, v, Ev.bind e0 (Ev.bind e1 (Ev.cbind e2 (Ev.ret rfl))), hl⟩
def small (x : S26) : Prop := 0 ≤ x.f0 ∧ x.f0 ≤ x.f1 ∧ x.f1 ≤ 20
theorem unite_loop (b : List Int) (n : Nat) : ∀ (acc : List S26) (i h : Int), St b i → acc.length + n ≤ 100 → (∀ s, s ∈ acc → small s) → ∃ l, Ev (fun k => spec_DrawUniteSpans.l0 k acc (n : Int) b i h) l ∧ l.length ≤ 100 ∧ ∀ s, s ∈ l → small s := by
  induction n with
  | zero =>
    intro acc i h s hl ha
    refine ⟨acc, ?_, by omega, ha⟩
    apply Ev.step
    · intro k; rw [spec_DrawUniteSpans.l0]
    exact Ev.neg (by omega) (Ev.ret rfl)
  | succ n ih =>
    intro acc i h s hl ha
    obtain ⟨u, w, i2, h2, e2, u0, u1, u2, s2⟩ := span_some h s
    obtain ⟨l, e, hl', hs⟩ := ih (acc ++ [⟨u, w⟩]) i2 h2 s2 (by simp; omega) (fun s hs => by
      rcases List.mem_append.1 hs with hs | hs
      · exact ha s hs
      · simp at hs; subst hs; exact ⟨u0, u1, u2⟩)
    refine ⟨l, ?_, hl', hs⟩
    apply Ev.step
    · intro k; rw [spec_DrawUniteSpans.l0]
    refine Ev.pos (by omega) (Ev.cbind e2 (Ev.pos (by omega) ?_))
    rw [wrap64_id (x := ((n + 1 : Nat) : Int) - 1) (by omega) (by omega), show ((n + 1 : Nat) : Int) - 1 = (n : Int) by omega]
    exact e
theorem draw_unite (b : List Int) (hb : b.length ≤ 140737488355328) : ∃ l, Ev (fun k => spec_DrawUniteSpans.f k b) l ∧ l.length ≤ 100 ∧ ∀ s, s ∈ l → small s := by
  obtain ⟨h0, e0, s0⟩ := new_some b hb
  obtain ⟨v, i1, h1, e1, v0, v1, s1⟩ := below_some h0 6 s0 (by omega) (by omega)
  obtain ⟨n, rfl⟩ := Int.eq_ofNat_of_zero_le v0
  obtain ⟨l, e, hl, hs⟩ := unite_loop b n [] i1 h1 s1 (by simp; omega) (by simp)
  exact ⟨l, Ev.bind e0 (Ev.cbind e1 e), hl, hs⟩

def uni : List S26 → List S26 → List S26
  | acc, [] => acc
  | acc, x :: t => uni (addX acc x.f0 x.f1) t
theorem uni_ok (w : List S26) : ∀ acc, SetOk acc → SetOk (uni acc w) := by
  induction w with
  | nil => intro acc h; exact h
  | cons x t ih => intro acc h; exact ih _ (addX_ok h _ _)
theorem uni_length (w : List S26) : ∀ acc, (uni acc w).length ≤ acc.length + w.length := by
  induction w with
  | nil => intro acc; simp [uni]
  | cons x t ih => intro acc; have := ih (addX acc x.f0 x.f1); have := addX_length acc x.f0 x.f1; simp only [uni, List.length_cons]; omega
theorem addX_old {l : List S26} {a b u v : Int} (h : inside l u v) : inside (addX l a b) u v := by
  unfold addX; split
  · exact addR_old l a b u v h
  · exact h
theorem uni_old (w : List S26) : ∀ acc u v, inside acc u v → inside (uni acc w) u v := by
  induction w with
  | nil => intro acc u v h; exact h
  | cons x t ih => intro acc u v h; exact ih _ u v (addX_old h)
theorem uni_new (w : List S26) : ∀ acc, SetOk acc → ∀ s, s ∈ w → small s → s.f0 < s.f1 → inside (uni acc w) s.f0 s.f1 := by
  induction w with
  | nil => intro acc _ s hs; simp at hs
  | cons x t ih =>
    intro acc hok s hs h1 h2
    rcases List.mem_cons.1 hs with rfl | hs
    · refine uni_old t _ _ _ ?_
      have := h1.1; have := h1.2.2
      rw [addX, if_pos ⟨(isSet_iff acc).2 hok, by omega, h2, by omega⟩]
      exact addR_self acc _ _ _ _ (Int.le_refl _) (Int.le_refl _)
    · exact ih _ (addX_ok hok _ _) s hs h1 h2
theorem uni_size (w : List S26) : ∀ acc, SetOk acc → (∀ s, s ∈ w → small s) → size (uni acc w) ≤ size acc + size w := by
  induction w with
  | nil => intro acc _ _; simp [uni, size]
  | cons x t ih =>
    intro acc hok hs
    have hx := hs x (by simp)
    have h1 := ih (addX acc x.f0 x.f1) (addX_ok hok _ _) (fun s h => hs s (by simp [h]))
    have h2 : size (addX acc x.f0 x.f1) ≤ size acc + (x.f1 - x.f0) := by
      unfold addX
      split
      · rename_i c; exact addR_size acc _ _ hok c.2.2.1
      · have := hx.2.1; omega
    simp only [uni, size]; omega
theorem unite_l0 (L : List S26) (hL : L.length ≤ 1000) (rest : List S26) : ∀ (pre acc : List S26), pre ++ rest = L → acc.length ≤ pre.length →
    Ev (fun k => impl_UniteSpans.l0 k acc L (L.length : Int) (pre.length : Int)) (uni acc rest) := by
  induction rest with
  | nil =>
    intro pre acc hl ha
    simp only [List.append_nil] at hl
    subst hl
    apply Ev.step
    · intro k; rw [impl_UniteSpans.l0]
    exact Ev.neg (by omega) (Ev.ret rfl)
  | cons x r ih =>
    intro pre acc hl ha
    have e1 : rd_T26 L (pre.length : Int) = x := by rw [← hl]; exact rd_mid pre x r
    have hlen := addX_length acc x.f0 x.f1
    have hi := ih (pre ++ [x]) (addX acc x.f0 x.f1) (by simpa using hl) (by simp; omega)
    have hll : L.length = pre.length + (r.length + 1) := by rw [← hl]; simp
    simp only [List.length_append, List.length_cons, List.length_nil] at hi
    have hw : wrap64 ((pre.length : Int) + 1) = ((pre.length + (0 + 1) : Nat) : Int) := by rw [wrap64_id (by omega) (by omega)]; simp
    apply Ev.step
    · intro k; rw [impl_UniteSpans.l0]
    simp only [e1, hw]
    exact Ev.pos (by omega) (Ev.pos (by omega) (Ev.pos (by omega) (Ev.bind (impl_add acc _ _ (by simp only [B0]; omega)) hi)))
theorem impl_unite (w : List S26) (hw : w.length ≤ 1000) : Ev (fun k => impl_UniteSpans.f k w) (uni [] w) := unite_l0 w hw w [] [] rfl (by simp)
def sized (x : S26) : Prop := 0 ≤ x.f0 ∧ x.f0 ≤ x.f1 ∧ x.f1 ≤ 1000000000000
theorem size_l0 (L : List S26) (hL : L.length ≤ 1000) (hs : ∀ s, s ∈ L → sized s) (rest : List S26) : ∀ (pre : List S26) (n : Int), pre ++ rest = L → 0 ≤ n → n ≤ 1000000000000 * pre.length →
    Ev (fun k => impl_SpanSize.l0 k n L (L.length : Int) (pre.length : Int)) (n + size rest) := by
  induction rest with
  | nil =>
    intro pre n hl h0 h1
    simp only [List.append_nil] at hl
    subst hl
    apply Ev.step
    · intro k; rw [impl_SpanSize.l0]
    exact Ev.neg (by omega) (Ev.ret (by simp [size]))
  | cons x r ih =>
    intro pre n hl h0 h1
    have e1 : rd_T26 L (pre.length : Int) = x := by rw [← hl]; exact rd_mid pre x r
    have hx := hs x (by rw [← hl]; simp)
    have hx0 := hx.1; have hx1 := hx.2.1; have hx2 := hx.2.2
    have hll : L.length = pre.length + (r.length + 1) := by rw [← hl]; simp
    have hi := ih (pre ++ [x]) (n + (x.f1 - x.f0)) (by simpa using hl) (by omega) (by simp; omega)
    simp only [List.length_append, List.length_cons, List.length_nil] at hi
    have hw : wrap64 ((pre.length : Int) + 1) = ((pre.length + (0 + 1) : Nat) : Int) := by rw [wrap64_id (by omega) (by omega)]; simp
    have hw2 : wrap64 (x.f1 - x.f0) = x.f1 - x.f0 := wrap64_id (by omega) (by omega)
    have hw3 : wrap64 (n + (x.f1 - x.f0)) = n + (x.f1 - x.f0) := wrap64_id (by omega) (by omega)
    apply Ev.step
    · intro k; rw [impl_SpanSize.l0]
    simp only [e1, hw, hw2, hw3]
    refine Ev.pos (by omega) (Ev.pos (by omega) (Ev.pos (by omega) ?_))
    exact Ev.eq (by simp only [size]; omega) hi
theorem impl_size (l : List S26) (hl : l.length ≤ 1000) (hs : ∀ s, s ∈ l → sized s) : Ev (fun k => impl_SpanSize.f k l) (size l) :=
  Ev.eq (by omega) (size_l0 l hl hs l [] 0 rfl (by omega) (by omega))

/-- The last loop: each drawn span is covered; what is united is a set, and no greater. -/
theorem law_l1 (y : List S26) (g : Bool) (hy : y.length ≤ 1000) (hg : g = true → isSet y = true) (L : List S26) (hL : L.length ≤ 100) (hs : ∀ s, s ∈ L → small s) (rest : List S26) : ∀ (pre : List S26), pre ++ rest = L →
    Ev (fun k => laws_FnIntervals.l1 k y g L (uni [] L) (pre.length : Int)) true := by
  have hlen := uni_length L []
  simp only [List.length_nil, Nat.zero_add] at hlen
  have hok : SetOk (uni [] L) := uni_ok L [] trivial
  induction rest with
  | nil =>
    intro pre hl
    simp only [List.append_nil] at hl
    subst hl
    have hz : isSet (uni [] pre) = true := (isSet_iff _).2 hok
    have z1 := Ev.eq hz (impl_isSet (uni [] pre) (by omega))
    have z2 := Ev.eq hz (spec_isSet (uni [] pre) (by omega))
    have z3 := impl_size (uni [] pre) (by omega) (fun s h => by have := hok.mem s h; exact ⟨this.1, by have := this.2.1; omega, this.2.2⟩)
    have z4 := impl_size pre (by omega) (fun s h => by have := hs s h; exact ⟨this.1, this.2.1, by have := this.2.2; omega⟩)
    have z5 : decide (size (uni [] pre) ≤ size pre) = true := by
      have := uni_size pre [] trivial hs
      simp only [size] at this
      simp; omega
    apply Ev.step
    · intro k; rw [laws_FnIntervals.l1]
    refine Ev.neg (by omega) ?_
    have hfin : ∀ {f : Nat → Option Bool}, Ev f true → Ev f true := fun h => h
    by_cases c : g = true
    · exact Ev.pos c (Ev.bind (Ev.eq (hg c) (impl_isSet y (by omega))) (Ev.pos rfl (Ev.bind z1 (Ev.pos rfl (Ev.bind z2 (Ev.pos rfl (Ev.bind z3 (Ev.bind z4 (Ev.ret z5)))))))))
    · exact Ev.neg c (Ev.bind z1 (Ev.pos rfl (Ev.bind z2 (Ev.pos rfl (Ev.bind z3 (Ev.bind z4 (Ev.ret z5)))))))
  | cons x r ih =>
    intro pre hl
    have e1 : rd_T26 L (pre.length : Int) = x := by rw [← hl]; exact rd_mid pre x r
    have hxm : x ∈ L := by rw [← hl]; simp
    have hx := hs x hxm
    have hll : L.length = pre.length + (r.length + 1) := by rw [← hl]; simp
    have hi := ih (pre ++ [x]) (by simpa using hl)
    simp only [List.length_append, List.length_cons, List.length_nil] at hi
    have hw : wrap64 ((pre.length : Int) + 1) = ((pre.length + (0 + 1) : Nat) : Int) := by rw [wrap64_id (by omega) (by omega)]; simp
    have hc : impl_CoversSpan.f (uni [] L) x.f0 x.f1 = some true := by
      unfold impl_CoversSpan.f
      by_cases c : x.f0 ≥ x.f1
      · rw [if_pos c]
      · rw [if_neg c]
        obtain ⟨s, h1, h2, h3⟩ := uni_new L [] trivial x hxm hx (by omega)
        congr 1
        rw [List.any_eq_true]
        exact ⟨s, h1, by simp [h2, h3]⟩
    apply Ev.step
    · intro k; rw [laws_FnIntervals.l1]
    simp only [e1, hw]
    exact Ev.pos (by omega) (Ev.pos (by omega) (Ev.pos hx.1 (Ev.cbind hc (Ev.pos rfl hi))))
theorem law_end (b : List Int) (hb : b.length ≤ 140737488355328) (l y u gaps : List S26) (g : Bool) (p A B V W : Int) (hy : y.length ≤ 1000) (hg : g = true → isSet y = true) :
    Ev (fun k => laws_FnIntervals.j1 k b l y u gaps g p false A B V W) true := by
  obtain ⟨w, e, hl, hs⟩ := draw_unite b hb
  apply Ev.step
  · intro k; rw [laws_FnIntervals.j1]
  exact Ev.neg (by simp) (Ev.bind e (Ev.bind (impl_unite w (by omega)) (law_l1 y g hy hg w hl hs w [] rfl)))
theorem law_l0 (b : List Int) (hb : b.length ≤ 140737488355328) (l u : List S26) (A B V W : Int) (hl : l.length ≤ 101) (hu : u.length ≤ 101) (d : Nat) : ∀ p : Int, 0 ≤ p → p ≤ 40 → 40 - p = d →
    Ev (fun k => laws_FnIntervals.l0 k b l (addX l A B) u (missX u V W) (isSet l) p A B V W) true := by
  have hyl := addX_length l A B
  have hgood : isSet l = true → isSet (addX l A B) = true := fun h => (isSet_iff _).2 (addX_ok ((isSet_iff _).1 h) A B)
  have hml : (missX u V W).length ≤ 1000 := by
    unfold missX
    split
    · have := missR_length u V W; omega
    · have := missR_length [] V W; simp at this; omega
  induction d with
  | zero =>
    intro p h0 h1 hd
    apply Ev.step
    · intro k; rw [laws_FnIntervals.l0]
    exact Ev.neg (by omega) (law_end b hb _ _ _ _ _ _ _ _ _ _ (by omega) hgood)
  | succ d ih =>
    intro p h0 h1 hd
    have hi := ih (p + 1) (by omega) (by omega) (by omega)
    have hw : wrap64 (p + 1) = p + 1 := wrap64_id (by omega) (by omega)
    have hj2 : isSet l = true → A ≥ 0 → Ev (fun k => laws_FnIntervals.j2 k b l (addX l A B) u (missX u V W) (isSet l) p false A B V W p (wrap64 (p + 1))) true := by
      intro hset hA
      apply Ev.step
      · intro k; rw [laws_FnIntervals.j2]
      refine Ev.neg (by simp) (Ev.bind (spec_isSet u (by omega)) ?_)
      by_cases cu : isSet u = true
      · refine Ev.pos cu (Ev.bind (spec_cov _ p (by simp only [B0]; omega) h0 (by omega)) ?_)
        have hm : missX u V W = missR u V W := by rw [missX, if_pos cu]
        have hcv := missR_cov u V W p ((isSet_iff u).1 cu)
        rw [← cov_iff, ← cov_iff, ← hm] at hcv
        have hnf : ¬ (V ≤ p ∧ p < W) → ((cov (missX u V W) p) != false) = false := by
          intro h
          cases hq : cov (missX u V W) p with
          | false => rfl
          | true => exact absurd (hcv.1 hq) (fun h' => h ⟨h'.1, h'.2.1⟩)
        rw [hw]
        by_cases c1 : V ≤ p
        · refine Ev.pos c1 ?_
          by_cases c2 : p < W
          · have h2 := spec_cov u p (by simp only [B0]; omega) h0 (by omega)
            rw [hw] at h2
            refine Ev.pos c2 (Ev.bind h2 (Ev.neg ?_ hi))
            cases hq : cov (missX u V W) p with
            | true =>
              have := (hcv.1 hq).2.2
              simp at this
              simp [this]
            | false =>
              cases hq2 : cov u p with
              | true => simp
              | false => exact absurd (hcv.2 ⟨c1, c2, by simp [hq2]⟩) (by simp [hq])
          · exact Ev.neg c2 (Ev.neg (by rw [hnf (fun h => c2 h.2)]; simp) hi)
        · exact Ev.neg c1 (Ev.neg (by rw [hnf (fun h => c1 h.1)]; simp) hi)
      · refine Ev.neg cu ?_
        rw [hw]
        exact hi
    have hj1 : Ev (fun k => laws_FnIntervals.j1 k b l (addX l A B) u (missX u V W) (isSet l) p true A B V W) true ∨ ¬ (isSet l = true ∧ A ≥ 0) := by
      by_cases hc : isSet l = true ∧ A ≥ 0
      · left
        obtain ⟨hset, hA⟩ := hc
        have hok := (isSet_iff l).1 hset
        apply Ev.step
        · intro k; rw [laws_FnIntervals.j1]
        refine Ev.pos rfl (Ev.cbind (impl_cov _ p h0 (by omega)) (Ev.bind (spec_cov l p (by simp only [B0]; omega) h0 (by omega)) ?_))
        have hcv : cov (addX l A B) p = (cov l p || decide (A ≤ p ∧ p < B ∧ B ≤ 1000000000000)) := by
          rw [Bool.eq_iff_iff, Bool.or_eq_true, decide_eq_true_eq]
          unfold addX
          split
          · rename_i c
            rw [cov_iff, cov_iff, addR_cov l A B p hok c.2.2.1]
            constructor
            · rintro (h | h)
              · exact .inl h
              · exact .inr ⟨h.1, h.2, c.2.2.2⟩
            · rintro (h | h)
              · exact .inl h
              · exact .inr ⟨h.1, h.2.1⟩
          · rename_i c
            constructor
            · exact .inl
            · rintro (h | h)
              · exact h
              · exact absurd ⟨hset, hA, by omega, h.2.2⟩ c
        rw [hcv]
        have h2 := hj2 hset hA
        by_cases c0 : cov l p = true
        · refine Ev.pos c0 ?_
          rw [c0, Bool.true_or]
          exact h2
        refine Ev.neg c0 ?_
        have c0' : cov l p = false := by simpa using c0
        rw [c0', Bool.false_or]
        by_cases c1 : A ≤ p
        · refine Ev.pos c1 ?_
          by_cases c2 : p < B
          · refine Ev.pos c2 ?_
            rw [show decide (A ≤ p ∧ p < B ∧ B ≤ 1000000000000) = decide (B ≤ 1000000000000) by simp [c1, c2], bne_self_eq_false]
            exact h2
          · refine Ev.neg c2 ?_
            rw [show decide (A ≤ p ∧ p < B ∧ B ≤ 1000000000000) = false by simp [c2], bne_self_eq_false]
            exact h2
        · refine Ev.neg c1 ?_
          rw [show decide (A ≤ p ∧ p < B ∧ B ≤ 1000000000000) = false by simp [c1], bne_self_eq_false]
          exact h2
      · exact .inr hc
    apply Ev.step
    · intro k; rw [laws_FnIntervals.l0]
    refine Ev.pos (by omega) ?_
    have hend := law_end b hb l (addX l A B) u (missX u V W) (isSet l) p A B V W (by omega) hgood
    by_cases c1 : isSet l = true
    · refine Ev.pos c1 ?_
      by_cases c2 : A ≥ 0
      · rw [decide_eq_true c2]
        exact hj1.resolve_right (fun h => h ⟨c1, c2⟩)
      · rw [decide_eq_false c2]
        exact hend
    · exact Ev.neg c1 hend
theorem intervals (b : List Int) (hb : b.length ≤ 140737488355328) : Ev (fun k => laws_FnIntervals.f k b) true := by
  refine Ev.cbind (a := decide ((b.length : Int) > 1048576)) rfl ?_
  by_cases c : decide ((b.length : Int) > 1048576) = true
  · exact Ev.pos c (Ev.ret rfl)
  refine Ev.neg c ?_
  obtain ⟨l, A, B, e1, hl⟩ := draw_add b hb
  obtain ⟨u, V, W, e2, hu⟩ := draw_miss b hb
  refine Ev.bind e1 (Ev.bind (impl_add l A B (by simp only [B0]; omega)) (Ev.bind e2 (Ev.bind (impl_miss u V W (by simp only [B0]; omega)) (Ev.bind (spec_isSet l (by omega)) ?_))))
  exact law_l0 b hb l u A B V W hl hu 40 0 (by omega) (by omega) (by omega)
end Go.Proofs.Yteahdfibipalkaa.Pure

namespace Go.Proofs.Yteahdfibipalkaa.Pure
open Go.RowKit Go.Proofs.Yteahdfibipalkaa.G Go.Proofs.YteahdfibipalkaaW.PrintWords Go.Proofs.YteahdfibipalkaaW.PrintLast

theorem Ev.uniq {α : Type} {a : Nat → Option α} {r s : α} (h : Ev a r) (h' : Ev a s) : r = s := by
  obtain ⟨n, hn⟩ := h
  obtain ⟨m, hm⟩ := h'
  have h1 := hn (n + m) (by omega)
  have h2 := hm (n + m) (by omega)
  simp only [h1] at h2
  exact Option.some.inj h2
def B1 : Nat := 1048576
def spn (x : S44) : S26 := ⟨x.f0, wrap64 (x.f0 + (x.f1.size : Int))⟩
def spOf (l : List S44) : List S26 := l.map spn
theorem rd44_mid (pre : List S44) (x : S44) (t : List S44) : rd_T44 (pre ++ x :: t) (pre.length : Int) = x := by simp [rd_T44]
theorem next_len {α : Type} (pre : List α) (x : α) (h : pre.length < 9223372036854775807) : wrap64 ((pre.length : Int) + 1) = ((pre ++ [x]).length : Int) := by
  rw [wrap64_id (by omega) (by omega)]; simp
theorem spec_sp_l0 (L : List S44) (hL : L.length ≤ B1) (rest : List S44) : ∀ (pre : List S44) (acc : List S26), pre ++ rest = L → acc.length = pre.length →
    Ev (fun k => spec_SpansOf.l0 k L acc (pre.length : Int)) (acc ++ spOf rest) := by
  induction rest with
  | nil =>
    intro pre acc hl ha
    simp only [List.append_nil] at hl
    subst hl
    apply Ev.step
    · intro k; rw [spec_SpansOf.l0]
    exact Ev.neg (by omega) (Ev.ret (by simp [spOf]))
  | cons x t ih =>
    intro pre acc hl ha
    have e1 : rd_T44 L (pre.length : Int) = x := by rw [← hl]; exact rd44_mid pre x t
    have hi := ih (pre ++ [x]) (acc ++ [spn x]) (by simpa using hl) (by simp [ha])
    have hlen : pre.length + (t.length + 1) = L.length := by rw [← hl]; simp
    simp only [B1] at hL
    rw [← next_len pre x (by omega)] at hi
    apply Ev.step
    · intro k; rw [spec_SpansOf.l0]
    simp only [e1]
    refine Ev.pos (by omega) (Ev.pos (by omega) (Ev.pos (by omega) (Ev.eq ?_ hi)))
    simp [spOf]
theorem spec_sp (l : List S44) (hl : l.length ≤ B1) : Ev (fun k => spec_SpansOf.f k l) (spOf l) := spec_sp_l0 l hl l [] [] rfl rfl
theorem impl_sp_l0 (L : List S44) (hL : L.length ≤ B1) (rest : List S44) : ∀ (pre : List S44) (acc : List S26), pre ++ rest = L → acc.length = pre.length →
    Ev (fun k => impl_SpansOf.l0 k acc L (L.length : Int) (pre.length : Int)) (acc ++ spOf rest) := by
  induction rest with
  | nil =>
    intro pre acc hl ha
    simp only [List.append_nil] at hl
    subst hl
    apply Ev.step
    · intro k; rw [impl_SpansOf.l0]
    exact Ev.neg (by omega) (Ev.ret (by simp [spOf]))
  | cons x t ih =>
    intro pre acc hl ha
    have e1 : rd_T44 L (pre.length : Int) = x := by rw [← hl]; exact rd44_mid pre x t
    have hi := ih (pre ++ [x]) (acc ++ [spn x]) (by simpa using hl) (by simp [ha])
    have hlen : pre.length + (t.length + 1) = L.length := by rw [← hl]; simp
    simp only [B1] at hL
    rw [← next_len pre x (by omega)] at hi
    apply Ev.step
    · intro k; rw [impl_SpansOf.l0]
    simp only [e1]
    refine Ev.pos (by omega) (Ev.pos (by omega) (Ev.pos (by omega) (Ev.pos (by omega) (Ev.eq ?_ hi))))
    simp [spOf]
theorem impl_sp (l : List S44) (hl : l.length ≤ B1) : Ev (fun k => impl_SpansOf.f k l) (spOf l) := impl_sp_l0 l hl l [] [] rfl rfl

theorem SetOk_append (a : List S26) : ∀ b, SetOk (a ++ b) ↔ (SetOk a ∧ SetOk b ∧ ∀ s, s ∈ a → ∀ u, u ∈ b → s.f1 < u.f0) := by
  induction a with
  | nil => intro b; simp [SetOk]
  | cons x t ih =>
    intro b
    show (valid x ∧ (∀ s, s ∈ t ++ b → x.f1 < s.f0) ∧ SetOk (t ++ b)) ↔ _
    rw [ih b]
    constructor
    · rintro ⟨h1, h2, h3, h4, h5⟩
      refine ⟨⟨h1, fun s hs => h2 s (by simp [hs]), h3⟩, h4, fun s hs u hu => ?_⟩
      rcases List.mem_cons.1 hs with rfl | hs
      · exact h2 u (by simp [hu])
      · exact h5 s hs u hu
    · rintro ⟨⟨h1, h2, h3⟩, h4, h5⟩
      refine ⟨h1, fun s hs => ?_, h3, h4, fun s hs => h5 s (by simp [hs])⟩
      rcases List.mem_append.1 hs with hs | hs
      · exact h2 s hs
      · exact h5 x (by simp) s hs
def lastOk (l : List S26) (n : Int) : Bool := decide (l.length = 0) || decide ((rd_T26 l ((l.length : Int) - 1)).f1 ≤ n)
theorem lastOk_iff (l : List S26) (n : Int) (h : SetOk l) : lastOk l n = true ↔ ∀ s, s ∈ l → s.f1 ≤ n := by
  rcases List.eq_nil_or_concat l with rfl | ⟨pre, y, rfl⟩
  · simp [lastOk]
  · rw [List.concat_eq_append] at *
    have e : rd_T26 (pre ++ [y]) (((pre ++ [y]).length : Int) - 1) = y := by
      have : (((pre ++ [y]).length : Int) - 1) = (pre.length : Int) := by simp
      rw [this]; exact rd_mid pre y []
    rw [lastOk, e]
    have h3 := ((SetOk_append pre [y]).1 h).2.2
    have hy := (((SetOk_append pre [y]).1 h).2.1).1
    simp
    constructor
    · rintro hn s (hs | rfl)
      · have := h3 s hs y (by simp); have := hy.2.1; omega
      · exact hn
    · intro hh; exact hh y (.inr rfl)
def areP (l : List S44) (n : Int) : Bool := decide (0 ≤ n) && decide (n ≤ 600) && decide (l.length ≤ 8) && isSet (spOf l) && lastOk (spOf l) n
theorem spOf_length (l : List S44) : (spOf l).length = l.length := by simp [spOf]
theorem last_ev (l : List S26) (n : Int) (hl : l.length ≤ B1) : Ev (fun _ => if (l.length : Int) = 0 then some true else (if 0 ≤ wrap64 ((l.length : Int) - 1) then (if wrap64 ((l.length : Int) - 1) < (l.length : Int) then some (decide ((rd_T26 l (wrap64 ((l.length : Int) - 1))).f1 ≤ n)) else none) else none)) (lastOk l n) := by
  simp only [B1] at hl
  by_cases c : l.length = 0
  · exact Ev.pos (by omega) (Ev.ret (by simp [lastOk, c]))
  · refine Ev.neg (by omega) ?_
    rw [wrap64_id (by omega) (by omega)]
    exact Ev.pos (by omega) (Ev.pos (by omega) (Ev.ret (by simp only [lastOk, decide_eq_false c, Bool.false_or])))
theorem spec_are (l : List S44) (n : Int) (hl : l.length ≤ B1) : Ev (fun k => spec_ArePieces.f k l n) (areP l n) := by
  have hB : B1 = 1048576 := rfl
  refine Ev.bind (spec_sp l hl) ?_
  refine Ev.cbind (a := decide (0 ≤ n) && decide (n ≤ 600)) (by unfold spec_l1In.f; by_cases c : 0 ≤ n <;> simp [c]) ?_
  by_cases c : (decide (0 ≤ n) && decide (n ≤ 600)) = true
  · refine Ev.pos c ?_
    by_cases c2 : l.length ≤ 8
    · refine Ev.pos (by omega) ?_
      refine Ev.bind (spec_isSet (spOf l) (by rw [spOf_length]; omega)) ?_
      by_cases c3 : isSet (spOf l) = true
      · refine Ev.pos c3 ?_
        refine Ev.eq ?_ (last_ev (spOf l) n (by rw [spOf_length]; omega))
        simp only [areP, c, c3, decide_eq_true c2, Bool.and_true, Bool.true_and]
      · exact Ev.neg c3 (Ev.ret (by simp [areP, c3]))
    · exact Ev.neg (by omega) (Ev.ret (by simp [areP, c2]))
  · refine Ev.neg c (Ev.ret ?_)
    simp only [Bool.not_eq_true] at c
    simp only [areP, c, Bool.false_and]
theorem impl_are (l : List S44) (n : Int) (hl : l.length ≤ B1) : Ev (fun k => impl_ArePieces.f k l n) (areP l n) := by
  have hB : B1 = 1048576 := rfl
  refine Ev.bind (impl_sp l hl) ?_
  refine Ev.cbind (a := decide (0 ≤ n) && decide (n ≤ 600)) (by unfold impl_inRange.f; by_cases c : 0 ≤ n <;> simp [c]) ?_
  by_cases c : (decide (0 ≤ n) && decide (n ≤ 600)) = true
  · refine Ev.pos c ?_
    by_cases c2 : l.length ≤ 8
    · refine Ev.neg (by omega) ?_
      refine Ev.bind (impl_isSet (spOf l) (by rw [spOf_length]; omega)) ?_
      by_cases c3 : isSet (spOf l) = true
      · refine Ev.pos c3 ?_
        refine Ev.eq ?_ (last_ev (spOf l) n (by rw [spOf_length]; omega))
        simp only [areP, c, c3, decide_eq_true c2, Bool.and_true, Bool.true_and]
      · exact Ev.neg c3 (Ev.ret (by simp [areP, c3]))
    · exact Ev.pos (by omega) (Ev.ret (by simp [areP, c2]))
  · refine Ev.neg c (Ev.ret ?_)
    simp only [Bool.not_eq_true] at c
    simp only [areP, c, Bool.false_and]

/-- What a valid list of pieces is. -/
structure Val (l : List S44) (n : Int) : Prop where
  lo : 0 ≤ n
  hi : n ≤ 600
  len : l.length ≤ 8
  set : SetOk (spOf l)
  mem : ∀ x, x ∈ l → 0 ≤ x.f0 ∧ 0 < x.f1.size ∧ x.f0 + (x.f1.size : Int) ≤ n
theorem spn_val {x : S44} {n : Int} (h : 0 ≤ x.f0 ∧ 0 < x.f1.size ∧ x.f0 + (x.f1.size : Int) ≤ n) (hn : n ≤ 600) : spn x = ⟨x.f0, x.f0 + (x.f1.size : Int)⟩ := by
  rw [spn, wrap64_id (by omega) (by omega)]
theorem areP_iff (l : List S44) (n : Int) (hs : ∀ x, x ∈ l → x.f1.size ≤ B1) : areP l n = true ↔ Val l n := by
  simp only [areP, Bool.and_eq_true, decide_eq_true_eq, isSet_iff]
  constructor
  · rintro ⟨⟨⟨⟨h1, h2⟩, h3⟩, h4⟩, h5⟩
    refine ⟨h1, h2, h3, h4, fun x hx => ?_⟩
    have hv := h4.mem (spn x) (List.mem_map_of_mem hx)
    have hle := (lastOk_iff _ n h4).1 h5 (spn x) (List.mem_map_of_mem hx)
    have hz := hs x hx
    simp only [valid, spn, B1] at hv hle hz
    rw [wrap64_id (by omega) (by omega)] at hv hle
    omega
  · intro v
    refine ⟨⟨⟨⟨v.lo, v.hi⟩, v.len⟩, v.set⟩, (lastOk_iff _ n v.set).2 fun s hs => ?_⟩
    obtain ⟨x, hx, rfl⟩ := List.mem_map.1 hs
    rw [spn_val (v.mem x hx) v.hi]
    exact (v.mem x hx).2.2

/-- The byte that a list of pieces holds at a position, -1 where none does. -/
def byt : List S44 → Int → Int
  | [], _ => -1
  | x :: t, p => if x.f0 ≤ p ∧ p < x.f0 + (x.f1.size : Int) then bt x.f1 (p - x.f0) else byt t p
theorem byt_lo (l : List S44) (p : Int) : -1 ≤ byt l p ∧ byt l p ≤ 255 := by
  induction l with
  | nil => simp [byt]
  | cons x t ih =>
    rw [byt]
    split
    · have := bt_range x.f1 (p - x.f0); omega
    · exact ih
theorem byt_cov (l : List S44) (p : Int) : 0 ≤ byt l p ↔ ∃ x, x ∈ l ∧ x.f0 ≤ p ∧ p < x.f0 + (x.f1.size : Int) := by
  induction l with
  | nil => simp [byt]
  | cons x t ih =>
    rw [byt]
    split
    · rename_i h
      have := bt_range x.f1 (p - x.f0)
      exact ⟨fun _ => ⟨x, by simp, h.1, h.2⟩, fun _ => this.1⟩
    · rename_i h
      rw [ih]
      constructor
      · rintro ⟨y, hy, h'⟩; exact ⟨y, by simp [hy], h'⟩
      · rintro ⟨y, hy, h'⟩
        rcases List.mem_cons.1 hy with rfl | hy
        · exact absurd h' h
        · exact ⟨y, hy, h'⟩
theorem cov_byt {l : List S44} {n : Int} (v : Val l n) (p : Int) : cov (spOf l) p = true ↔ 0 ≤ byt l p := by
  rw [cov_iff, byt_cov]
  constructor
  · rintro ⟨s, hs, h1, h2⟩
    obtain ⟨x, hx, rfl⟩ := List.mem_map.1 hs
    rw [spn_val (v.mem x hx) v.hi] at h1 h2
    exact ⟨x, hx, h1, h2⟩
  · rintro ⟨x, hx, h1, h2⟩
    refine ⟨spn x, List.mem_map_of_mem hx, ?_⟩
    rw [spn_val (v.mem x hx) v.hi]
    exact ⟨h1, h2⟩
theorem spec_byte_l0 (L : List S44) (n : Int) (v : Val L n) (p : Int) (hp : 0 ≤ p) (hp' : p ≤ 600) (rest : List S44) : ∀ (pre : List S44), pre ++ rest = L →
    Ev (fun k => spec_l10Byte.l0 k L p (pre.length : Int)) (byt rest p) := by
  have hL := v.len
  have hn := v.hi
  induction rest with
  | nil =>
    intro pre hl
    simp only [List.append_nil] at hl
    subst hl
    apply Ev.step
    · intro k; rw [spec_l10Byte.l0]
    exact Ev.neg (by omega) (Ev.ret rfl)
  | cons x t ih =>
    intro pre hl
    have e1 : rd_T44 L (pre.length : Int) = x := by rw [← hl]; exact rd44_mid pre x t
    have hi := ih (pre ++ [x]) (by simpa using hl)
    have hlen : pre.length + (t.length + 1) = L.length := by rw [← hl]; simp
    have hx := v.mem x (by rw [← hl]; simp)
    have hb := bt_range x.f1 (p - x.f0)
    rw [← next_len pre x (by omega)] at hi
    apply Ev.step
    · intro k; rw [spec_l10Byte.l0]
    simp only [e1, wrap64_id (x := x.f0 + (x.f1.size : Int)) (by omega) (by omega), wrap64_id (x := p - x.f0) (by omega) (by omega), wrap64_id (x := bt x.f1 (p - x.f0)) (by omega) (by omega)]
    refine Ev.pos (by omega) (Ev.pos (by omega) ?_)
    have hby : byt (x :: t) p = if x.f0 ≤ p ∧ p < x.f0 + (x.f1.size : Int) then bt x.f1 (p - x.f0) else byt t p := rfl
    by_cases c : x.f0 ≤ p
    · refine Ev.pos c ?_
      by_cases c2 : p < x.f0 + (x.f1.size : Int)
      · exact Ev.pos c2 (Ev.pos (by omega) (Ev.pos (by omega) (Ev.ret (by rw [hby, if_pos ⟨c, c2⟩]))))
      · exact Ev.neg c2 (Ev.eq (by rw [hby, if_neg (by omega)]) hi)
    · exact Ev.neg c (Ev.eq (by rw [hby, if_neg (by omega)]) hi)
theorem spec_byte {l : List S44} {n : Int} (v : Val l n) (p : Int) (hp : 0 ≤ p) (hp' : p ≤ 600) : Ev (fun k => spec_l10Byte.f k l p) (byt l p) := spec_byte_l0 l n v p hp hp' l [] rfl
end Go.Proofs.Yteahdfibipalkaa.Pure

namespace Go.Proofs.Yteahdfibipalkaa.Pure
set_option linter.unusedVariables false
open Go.RowKit Go.Proofs.Yteahdfibipalkaa.G Go.Proofs.YteahdfibipalkaaW.PrintWords Go.Proofs.YteahdfibipalkaaW.PrintLast

def conf (l : List S44) (a : Int) (d : ByteArray) (p : Int) : Bool := decide (0 ≤ byt l p) && decide (byt l p ≠ bt d (p - a))
def anyC (l : List S44) (a : Int) (d : ByteArray) : Int → Nat → Bool
  | _, 0 => false
  | p, m + 1 => conf l a d p || anyC l a d (p + 1) m
def newB (l : List S44) (a : Int) (d : ByteArray) (p : Int) : Int := if byt l p < 0 then bt d (p - a) else byt l p
def vals (g : Int → Int) : Int → Nat → List Int
  | _, 0 => []
  | p, m + 1 => g p :: vals g (p + 1) m
def mk (g : Int → Int) (s : S26) : S44 := ⟨s.f0, strOfNums (vals g s.f0 (s.f1 - s.f0).toNat)⟩
def good (l : List S44) (n a : Int) (d : ByteArray) : Bool := areP l n && decide (0 ≤ a) && decide (0 < d.size) && decide (a + (d.size : Int) ≤ n)
def addP (l : List S44) (n a : Int) (d : ByteArray) : List S44 × Bool :=
  if good l n a d = true then (if anyC l a d a d.size = true then (l, false) else (if 8 < (addX (spOf l) a (a + (d.size : Int))).length then (l, false) else ((addX (spOf l) a (a + (d.size : Int))).map (mk (newB l a d)), true))) else (l, false)

section spec
variable {L : List S44} {n a : Int} {d : ByteArray} {SP : List S26}
theorem spec_l2 (v : Val L n) (hd : d.size ≤ B1) (hcov : ∀ s, s ∈ SP → ∀ p, s.f0 ≤ p → p < s.f1 → 0 ≤ byt L p ∨ (a ≤ p ∧ p < a + (d.size : Int))) (hSP : SP.length ≤ 8)
    (j : Nat) (s : S26) (e : rd_T26 SP (j : Int) = s) (hs : s ∈ SP) (h0 : 0 ≤ s.f0) (h1 : s.f1 ≤ 600) (hj : j < SP.length) (acc13 : List S44) (ha : acc13.length ≤ 8) {R : List S44 × Bool} (m : Nat) : ∀ (p : Int) (acc : List Int), p + (m : Int) = s.f1 → s.f0 ≤ p → acc.length + m ≤ 600 →
    Ev (fun k => spec_AddPiece.l1 k L SP (acc13 ++ [(⟨s.f0, strOfNums (acc ++ vals (newB L a d) p m)⟩ : S44)]) (wrap64 ((j : Int) + 1)) a d) R → Ev (fun k => spec_AddPiece.l2 k L SP acc13 (j : Int) acc p a d) R := by
  induction m with
  | zero =>
    intro p acc hp hp0 hacc hR
    apply Ev.step
    · intro k; rw [spec_AddPiece.l2]
    simp only [e]
    refine Ev.pos (by omega) (Ev.pos (by omega) (Ev.neg (by omega) (Ev.pos (by omega) ?_)))
    simpa [vals] using hR
  | succ m ih =>
    intro p acc hp hp0 hacc hR
    have hn := v.hi
    have hB : B1 = 1048576 := rfl
    have hq : Ev (fun k => spec_AddPiece.l2 k L SP acc13 (j : Int) (acc ++ [newB L a d p]) (p + 1) a d) R := by
      refine ih (p + 1) (acc ++ [newB L a d p]) (by omega) (by omega) (by simp; omega) ?_
      simpa [vals] using hR
    have hb := byt_lo L p
    apply Ev.step
    · intro k; rw [spec_AddPiece.l2]
    simp only [e]
    refine Ev.pos (by omega) (Ev.pos (by omega) (Ev.pos (by omega) (Ev.bind (spec_byte v p (by omega) (by omega)) ?_)))
    rw [wrap64_id (x := p + 1) (by omega) (by omega)]
    by_cases c : byt L p < 0
    · have hc := hcov s hs p hp0 (by omega)
      have hbt := bt_range d (p - a)
      rw [newB, if_pos c] at hq
      rw [wrap64_id (x := p - a) (by omega) (by omega), wrap64_id (x := bt d (p - a)) (by omega) (by omega), Int.emod_eq_of_lt (by omega) (by omega)]
      exact Ev.pos c (Ev.pos (by omega) (Ev.pos (by omega) (Ev.pos (by omega) hq)))
    · rw [newB, if_neg c] at hq
      rw [Int.emod_eq_of_lt (a := byt L p) (by omega) (by omega)]
      exact Ev.neg c (Ev.pos (by omega) hq)
theorem spec_l1 (v : Val L n) (hd : d.size ≤ B1) (hcov : ∀ s, s ∈ SP → ∀ p, s.f0 ≤ p → p < s.f1 → 0 ≤ byt L p ∨ (a ≤ p ∧ p < a + (d.size : Int))) (hSP : SP.length ≤ 8)
    (hin : ∀ s, s ∈ SP → 0 ≤ s.f0 ∧ s.f0 < s.f1 ∧ s.f1 ≤ 600) (rest : List S26) : ∀ (pre : List S26) (acc : List S44), pre ++ rest = SP → acc.length = pre.length →
    Ev (fun k => spec_AddPiece.l1 k L SP acc (pre.length : Int) a d) (acc ++ rest.map (mk (newB L a d)), true) := by
  induction rest with
  | nil =>
    intro pre acc hl ha
    simp only [List.append_nil] at hl
    subst hl
    apply Ev.step
    · intro k; rw [spec_AddPiece.l1]
    exact Ev.neg (by omega) (Ev.ret (by simp))
  | cons x t ih =>
    intro pre acc hl ha
    have e1 : rd_T26 SP (pre.length : Int) = x := by rw [← hl]; exact rd_mid pre x t
    have hi := ih (pre ++ [x]) (acc ++ [mk (newB L a d) x]) (by simpa using hl) (by simp [ha])
    have hlen : pre.length + (t.length + 1) = SP.length := by rw [← hl]; simp
    have hx := hin x (by rw [← hl]; simp)
    rw [← next_len pre x (by omega)] at hi
    apply Ev.step
    · intro k; rw [spec_AddPiece.l1]
    simp only [e1]
    refine Ev.pos (by omega) (Ev.pos (by omega) ?_)
    refine spec_l2 v hd hcov hSP pre.length x e1 (by rw [← hl]; simp) hx.1 hx.2.2 (by omega) acc (by omega) (x.f1 - x.f0).toNat x.f0 [] (by omega) (by omega) (by simp; omega) ?_
    refine Ev.eq ?_ hi
    simp
theorem sp_in (v : Val L n) (h0 : 0 ≤ a) (h1 : 0 < d.size) (h2 : a + (d.size : Int) ≤ n) : addX (spOf L) a (a + (d.size : Int)) = addR (spOf L) a (a + (d.size : Int)) := by
  have := v.hi
  rw [addX, if_pos ⟨(isSet_iff _).2 v.set, h0, by omega, by omega⟩]
theorem addR_hi (l : List S26) : ∀ (a b c : Int), (∀ s, s ∈ l → s.f1 ≤ c) → b ≤ c → ∀ s, s ∈ addR l a b → s.f1 ≤ c := by
  induction l with
  | nil => intro a b c _ h s hs; simp [addR] at hs; subst hs; exact h
  | cons x t ih =>
    intro a b c h1 h2 s hs
    rw [addR] at hs
    split at hs
    · rcases List.mem_cons.1 hs with rfl | hs
      · exact h1 _ (by simp)
      · exact ih a b c (fun s h => h1 s (by simp [h])) h2 s hs
    · split at hs
      · exact ih _ _ c (fun s h => h1 s (by simp [h])) (by have := h1 x (by simp); omega) s hs
      · rcases List.mem_cons.1 hs with rfl | hs
        · exact h2
        · exact h1 s hs
theorem sp_hi (v : Val L n) : ∀ s, s ∈ spOf L → s.f1 ≤ n := by
  intro s hs
  obtain ⟨x, hx, rfl⟩ := List.mem_map.1 hs
  rw [spn_val (v.mem x hx) v.hi]
  exact (v.mem x hx).2.2
theorem sp_facts (v : Val L n) (h0 : 0 ≤ a) (h1 : 0 < d.size) (h2 : a + (d.size : Int) ≤ n) :
    SetOk (addR (spOf L) a (a + (d.size : Int))) ∧ (∀ s, s ∈ addR (spOf L) a (a + (d.size : Int)) → 0 ≤ s.f0 ∧ s.f0 < s.f1 ∧ s.f1 ≤ n) ∧
    (∀ s, s ∈ addR (spOf L) a (a + (d.size : Int)) → ∀ p, s.f0 ≤ p → p < s.f1 → 0 ≤ byt L p ∨ (a ≤ p ∧ p < a + (d.size : Int))) := by
  have hn := v.hi
  have hok := addR_ok (spOf L) a (a + (d.size : Int)) v.set h0 (by omega) (by omega)
  refine ⟨hok, fun s hs => ⟨(hok.mem s hs).1, (hok.mem s hs).2.1, addR_hi _ _ _ n (sp_hi v) h2 s hs⟩, fun s hs p hp hp' => ?_⟩
  rcases (addR_cov (spOf L) a (a + (d.size : Int)) p v.set (by omega)).1 ⟨s, hs, hp, hp'⟩ with h | h
  · exact .inl ((cov_byt v p).1 ((cov_iff _ _).2 h))
  · exact .inr h
theorem spec_l0 (v : Val L n) (hd : d.size ≤ B1) (h0 : 0 ≤ a) (h1 : 0 < d.size) (h2 : a + (d.size : Int) ≤ n) (m : Nat) : ∀ p : Int, p + (m : Int) = a + (d.size : Int) → a ≤ p →
    Ev (fun k => spec_AddPiece.l0 k L L (a + (d.size : Int)) p a d) (if anyC L a d p m = true then (L, false) else (if 8 < (addX (spOf L) a (a + (d.size : Int))).length then (L, false) else ((addX (spOf L) a (a + (d.size : Int))).map (mk (newB L a d)), true))) := by
  have hn := v.hi
  have hB : B1 = 1048576 := rfl
  induction m with
  | zero =>
    intro p hp hp0
    have hle := v.len
    obtain ⟨f1, f2, f3⟩ := sp_facts v h0 h1 h2
    rw [anyC, if_neg (by simp)]
    apply Ev.step
    · intro k; rw [spec_AddPiece.l0]
    refine Ev.neg (by omega) (Ev.bind (spec_sp L (by omega)) (Ev.bind (spec_add (spOf L) a (a + (d.size : Int)) (by rw [spOf_length]; simp only [B0]; omega)) ?_))
    rw [sp_in v h0 h1 h2]
    by_cases c : 8 < (addR (spOf L) a (a + (d.size : Int))).length
    · rw [if_pos c]
      exact Ev.pos (by omega) (Ev.ret rfl)
    · rw [if_neg c]
      refine Ev.neg (by omega) ?_
      exact spec_l1 v hd f3 (by omega) (fun s hs => ⟨(f2 s hs).1, (f2 s hs).2.1, by have := (f2 s hs).2.2; omega⟩) _ [] [] rfl rfl
  | succ m ih =>
    intro p hp hp0
    have hi := ih (p + 1) (by omega) (by omega)
    have hb := byt_lo L p
    have hbt := bt_range d (p - a)
    apply Ev.step
    · intro k; rw [spec_AddPiece.l0]
    rw [wrap64_id (x := p - a) (by omega) (by omega), wrap64_id (x := bt d (p - a)) (by omega) (by omega), wrap64_id (x := p + 1) (by omega) (by omega)]
    refine Ev.pos (by omega) (Ev.bind (spec_byte v p (by omega) (by omega)) ?_)
    by_cases c : byt L p ≥ 0
    · refine Ev.pos c (Ev.pos (by omega) (Ev.pos (by omega) ?_))
      by_cases c2 : byt L p = bt d (p - a)
      · refine Ev.pos c2 (Ev.eq ?_ hi)
        have : conf L a d p = false := by simp [conf, c2]
        simp only [anyC, this, Bool.false_or]
      · refine Ev.neg c2 (Ev.ret ?_)
        have : conf L a d p = true := by simp only [conf, Bool.and_eq_true, decide_eq_true_eq]; exact ⟨by omega, c2⟩
        simp only [anyC, this, Bool.true_or, if_true]
    · refine Ev.neg c (Ev.eq ?_ hi)
      have : conf L a d p = false := by simp only [conf, Bool.and_eq_false_iff, decide_eq_false_iff_not]; exact .inl (by omega)
      simp only [anyC, this, Bool.false_or]
end spec
def Sz (l : List S44) : Prop := l.length ≤ B1 ∧ ∀ x, x ∈ l → x.f1.size ≤ B1
theorem spec_addP (l : List S44) (n a : Int) (d : ByteArray) (hs : Sz l) (hd : d.size ≤ B1) (hn : -9223372036854775808 ≤ n ∧ n ≤ 9223372036854775807) : Ev (fun k => spec_AddPiece.f k l n a d) (addP l n a d) := by
  have hB : B1 = 1048576 := rfl
  obtain ⟨hl, hs⟩ := hs
  refine Ev.retBind (Ev.pos (by simp; omega) (Ev.retBind ?_))
  rw [List.nil_append]
  refine Ev.bind (spec_are l n hl) ?_
  have hno : good l n a d = false → Ev (fun k => spec_AddPiece.j0 k l l (wrap64 (a + (d.size : Int))) true a d) (addP l n a d) := by
    intro h
    apply Ev.step
    · intro k; rw [spec_AddPiece.j0]
    exact Ev.pos rfl (Ev.ret (by rw [addP, h]; simp))
  by_cases c : areP l n = true
  · have v := (areP_iff l n hs).1 c
    have h0 := v.lo
    have h1 := v.hi
    refine Ev.pos c ?_
    by_cases c1 : a < 0
    · exact Ev.pos c1 (hno (by simp [good, show ¬ 0 ≤ a by omega]))
    refine Ev.neg c1 ?_
    by_cases c2 : d.size = 0
    · exact Ev.pos (by omega) (hno (by simp [good, c2]))
    refine Ev.neg (by omega) ?_
    by_cases c3 : (d.size : Int) > n
    · exact Ev.pos c3 (hno (by simp [good, show ¬ a + (d.size : Int) ≤ n by omega]))
    refine Ev.neg c3 ?_
    rw [wrap64_id (x := n - (d.size : Int)) (by omega) (by omega)]
    by_cases c4 : a > n - (d.size : Int)
    · rw [decide_eq_true c4]; exact hno (by simp [good, show ¬ a + (d.size : Int) ≤ n by omega])
    rw [decide_eq_false c4]
    have hg : good l n a d = true := by simp only [good, Bool.and_eq_true, decide_eq_true_eq]; exact ⟨⟨⟨c, by omega⟩, by omega⟩, by omega⟩
    apply Ev.step
    · intro k; rw [spec_AddPiece.j0]
    rw [wrap64_id (x := a + (d.size : Int)) (by omega) (by omega)]
    refine Ev.neg (by simp) (Ev.eq ?_ (spec_l0 v hd (by omega) (by omega) (by omega) d.size a rfl (by omega)))
    rw [addP, if_pos hg]
  · exact Ev.neg c (hno (by simp [good, c]))
end Go.Proofs.Yteahdfibipalkaa.Pure

namespace Go.Proofs.Yteahdfibipalkaa.Pure
open Go.RowKit Go.Proofs.Yteahdfibipalkaa.G Go.Proofs.YteahdfibipalkaaW.PrintWords Go.Proofs.YteahdfibipalkaaW.PrintLast
set_option linter.unusedVariables false

theorem toList_d (s : ByteArray) : s.toList = s.data.toList := by rw [← Go.ByteArray.toList_eq]
theorem toList_inj {s t : ByteArray} (h : s.toList = t.toList) : s = t := by
  rw [toList_d, toList_d] at h
  cases s; cases t
  simp at h
  rw [h]
theorem toList_nil {s : ByteArray} : s.toList = ([] : List UInt8) ↔ s.size = 0 := by
  rw [toList_d]
  constructor
  · intro h
    show s.data.size = 0
    rw [← Array.length_toList, h]; rfl
  · intro h
    apply List.eq_nil_of_length_eq_zero
    rw [Array.length_toList]
    exact h
theorem anyC_iff (l : List S44) (a : Int) (d : ByteArray) (m : Nat) : ∀ p, anyC l a d p m = true ↔ ∃ q, p ≤ q ∧ q < p + (m : Int) ∧ conf l a d q = true := by
  induction m with
  | zero => intro p; simp only [anyC]; constructor
            · intro h; simp at h
            · rintro ⟨q, h1, h2, _⟩; omega
  | succ m ih =>
    intro p
    simp only [anyC, Bool.or_eq_true, ih (p + 1)]
    constructor
    · rintro (h | ⟨q, h1, h2, h3⟩)
      · exact ⟨p, by omega, by omega, h⟩
      · exact ⟨q, by omega, by omega, h3⟩
    · rintro ⟨q, h1, h2, h3⟩
      by_cases c : q = p
      · subst c; exact .inl h3
      · exact .inr ⟨q, by omega, by omega, h3⟩
def put (arr : List Int) (x : S44) : List Int := arr.take x.f0.toNat ++ bytesOf x.f1 ++ arr.drop (x.f0.toNat + x.f1.size)
def cp : List Int → List S44 → List Int
  | arr, [] => arr
  | arr, x :: t => cp (put arr x) t
theorem put_length (arr : List Int) (x : S44) (h0 : 0 ≤ x.f0) (h1 : x.f0 + (x.f1.size : Int) ≤ arr.length) : (put arr x).length = arr.length := by
  simp only [put, List.length_append, List.length_take, List.length_drop, bytesOf_length]
  omega
theorem rd_put (arr : List Int) (x : S44) (h0 : 0 ≤ x.f0) (h1 : x.f0 + (x.f1.size : Int) ≤ arr.length) (p : Int) (hp : 0 ≤ p) :
    rd (put arr x) p = if x.f0 ≤ p ∧ p < x.f0 + (x.f1.size : Int) then bt x.f1 (p - x.f0) else rd arr p := by
  have hb := bytesOf_length x.f1
  by_cases c : x.f0 ≤ p
  · by_cases c2 : p < x.f0 + (x.f1.size : Int)
    · rw [if_pos ⟨c, c2⟩, ← rd_bytesOf]
      simp only [rd, put, List.getD_eq_getElem?_getD, List.getElem?_append, List.length_append, List.length_take, hb]
      rw [if_pos (by omega), if_neg (by omega)]
      congr 2
      omega
    · rw [if_neg (by omega)]
      simp only [rd, put, List.getD_eq_getElem?_getD, List.getElem?_append, List.length_append, List.length_take, hb, List.getElem?_drop]
      rw [if_neg (by omega)]
      congr 2
      omega
  · rw [if_neg (by omega)]
    simp only [rd, put, List.getD_eq_getElem?_getD, List.getElem?_append, List.length_append, List.length_take, hb, List.getElem?_take]
    rw [if_pos (by omega), if_pos (by omega), if_pos (by omega)]
theorem rd_cp (n : Int) (hn : n ≤ 600) (l : List S44) : ∀ arr : List Int, SetOk (spOf l) → (∀ x, x ∈ l → 0 ≤ x.f0 ∧ 0 < x.f1.size ∧ x.f0 + (x.f1.size : Int) ≤ n) → (arr.length : Int) = n →
    ((cp arr l).length : Int) = n ∧ ∀ p, 0 ≤ p → rd (cp arr l) p = if byt l p < 0 then rd arr p else byt l p := by
  induction l with
  | nil => intro arr _ _ h; exact ⟨h, fun p _ => by simp [cp, byt]⟩
  | cons x t ih =>
    intro arr hs hm ha
    have hx := hm x (by simp)
    have hpl := put_length arr x hx.1 (by omega)
    obtain ⟨i1, i2⟩ := ih (put arr x) hs.2.2 (fun y hy => hm y (by simp [hy])) (by omega)
    refine ⟨i1, fun p hp => ?_⟩
    rw [cp, i2 p hp, rd_put arr x hx.1 (by omega) p hp]
    by_cases c : x.f0 ≤ p ∧ p < x.f0 + (x.f1.size : Int)
    · have : ¬ 0 ≤ byt t p := by
        rw [byt_cov]
        rintro ⟨y, hy, h1, h2⟩
        have := hs.2.1 (spn y) (List.mem_map_of_mem hy)
        rw [spn_val hx hn, spn_val (hm y (by simp [hy])) hn] at this
        simp only at this
        omega
      rw [if_pos (by omega), if_pos c, byt, if_pos c, if_neg]
      have := bt_range x.f1 (p - x.f0)
      omega
    · rw [if_neg c, byt, if_neg c]
def st (a : Int) (d : ByteArray) : List Int → Int → Nat → List Int
  | arr, _, 0 => arr
  | arr, i, m + 1 => st a d (arr.set (a + i).toNat (bt d i)) (i + 1) m
theorem rd_set (arr : List Int) (q v : Int) (h0 : 0 ≤ q) (h1 : q < arr.length) (p : Int) (hp : 0 ≤ p) : rd (arr.set q.toNat v) p = if p = q then v else rd arr p := by
  simp only [rd, List.getD_eq_getElem?_getD, List.getElem?_set]
  by_cases c : p = q
  · subst c
    rw [if_pos rfl, if_pos (by omega), if_pos rfl]; rfl
  · rw [if_neg (by omega), if_neg c]
theorem rd_st (a : Int) (d : ByteArray) (m : Nat) : ∀ (arr : List Int) (i : Int), 0 ≤ a → 0 ≤ i → a + i + m ≤ arr.length → (st a d arr i m).length = arr.length ∧
    ∀ p, 0 ≤ p → rd (st a d arr i m) p = if a + i ≤ p ∧ p < a + i + (m : Int) then bt d (p - a) else rd arr p := by
  induction m with
  | zero => intro arr i _ _ _; exact ⟨rfl, fun p _ => by rw [if_neg (by omega)]; rfl⟩
  | succ m ih =>
    intro arr i h0 h1 h2
    obtain ⟨i1, i2⟩ := ih (arr.set (a + i).toNat (bt d i)) (i + 1) h0 (by omega) (by simp; omega)
    refine ⟨by rw [st, i1]; simp, fun p hp => ?_⟩
    rw [st, i2 p hp, rd_set arr (a + i) (bt d i) (by omega) (by omega) p hp]
    by_cases c : p = a + i
    · rw [if_neg (by omega), if_pos c, if_pos (by omega)]
      congr 1; omega
    · by_cases c2 : a + (i + 1) ≤ p ∧ p < a + (i + 1) + (m : Int)
      · rw [if_pos c2, if_pos (by omega)]
      · rw [if_neg c2, if_neg c, if_neg (by omega)]
theorem vals_length (g : Int → Int) (m : Nat) : ∀ p, (vals g p m).length = m := by
  induction m with
  | zero => intro p; rfl
  | succ m ih => intro p; simp [vals, ih]
theorem vals_congr {g h : Int → Int} (m : Nat) : ∀ p, (∀ q, p ≤ q → q < p + (m : Int) → g q = h q) → vals g p m = vals h p m := by
  induction m with
  | zero => intro p _; rfl
  | succ m ih => intro p hq; rw [vals, vals, hq p (by omega) (by omega), ih (p + 1) fun q h1 h2 => hq q (by omega) (by omega)]
theorem vals_get (g : Int → Int) (m : Nat) : ∀ (p : Int) (i : Nat), i < m → (vals g p m)[i]? = some (g (p + (i : Int))) := by
  induction m with
  | zero => intro p i h; omega
  | succ m ih =>
    intro p i h
    cases i with
    | zero => simp [vals]
    | succ i => rw [vals, List.getElem?_cons_succ, ih (p + 1) i (by omega)]; congr 2; omega
theorem slice_vals (arr : List Int) (u v : Int) (h0 : 0 ≤ u) (h1 : u ≤ v) (h2 : v ≤ arr.length) : (arr.take v.toNat).drop u.toNat = vals (rd arr) u (v - u).toNat := by
  apply List.ext_getElem?
  intro i
  by_cases c : i < (v - u).toNat
  · rw [vals_get _ _ _ _ c, List.getElem?_drop, List.getElem?_take, if_pos (by omega)]
    simp only [rd, List.getD_eq_getElem?_getD]
    rw [show (u + (i : Int)).toNat = u.toNat + i by omega, List.getElem?_eq_getElem (by omega)]
    rfl
  · rw [List.getElem?_eq_none (by simp; omega), List.getElem?_eq_none (by rw [vals_length]; omega)]
theorem piece_f (l : List S44) (h : l.length ≤ B1) : impl_Piece.f l = some l := by
  simp only [B1] at h
  unfold impl_Piece.f
  rw [Option.bind_some, if_pos (by simp; omega)]
  rfl
section impl
variable {L : List S44} {n a : Int} {d : ByteArray}
theorem impl_l2 (hL : L.length ≤ B1) (arr : List Int) (SP : List S26) (hSP : SP.length ≤ 100) (hin : ∀ s, s ∈ SP → 0 ≤ s.f0 ∧ s.f0 < s.f1 ∧ s.f1 ≤ arr.length) (rest : List S26) : ∀ (pre : List S26) (acc : List S44), pre ++ rest = SP → acc.length = pre.length →
    Ev (fun k => impl_AddPiece.l2 k L arr acc SP (SP.length : Int) (pre.length : Int)) (if 8 < SP.length then (L, false) else (acc ++ rest.map (mk (rd arr)), true)) := by
  induction rest with
  | nil =>
    intro pre acc hl ha
    simp only [List.append_nil] at hl
    subst hl
    apply Ev.step
    · intro k; rw [impl_AddPiece.l2]
    refine Ev.neg (by omega) ?_
    by_cases c : 8 < pre.length
    · exact Ev.pos (by omega) (Ev.cbind (piece_f L hL) (Ev.ret (by rw [if_pos c])))
    · exact Ev.neg (by omega) (Ev.ret (by rw [if_neg c]; simp))
  | cons x t ih =>
    intro pre acc hl ha
    have e1 : rd_T26 SP (pre.length : Int) = x := by rw [← hl]; exact rd_mid pre x t
    have hi := ih (pre ++ [x]) (acc ++ [mk (rd arr) x]) (by simpa using hl) (by simp [ha])
    have hlen : pre.length + (t.length + 1) = SP.length := by rw [← hl]; simp
    have hx := hin x (by rw [← hl]; simp)
    rw [← next_len pre x (by omega)] at hi
    apply Ev.step
    · intro k; rw [impl_AddPiece.l2]
    simp only [e1]
    rw [slice_vals arr x.f0 x.f1 hx.1 (by omega) hx.2.2]
    refine Ev.pos (by omega) (Ev.pos (by omega) (Ev.pos (by omega) (Ev.pos hx.1 (Ev.pos (by omega) (Ev.pos hx.2.2 (Ev.pos (by omega) (Ev.eq ?_ hi)))))))
    simp [mk]
theorem impl_l1 (v : Val L n) (h0 : 0 ≤ a) (h2 : a + (d.size : Int) ≤ n) {R : List S44 × Bool} (m : Nat) : ∀ (arr : List Int) (i : Int), (arr.length : Int) = n → 0 ≤ i → i + (m : Int) = d.size →
    (∀ q, a + i ≤ q → rd arr q = if byt L q < 0 then 0 else byt L q) →
    (anyC L a d (a + i) m = false → Ev (fun k => impl_AddPiece.l1 k L (st a d arr i m) (d.size : Int) (d.size : Int) a d) R) →
    Ev (fun k => impl_AddPiece.l1 k L arr (d.size : Int) i a d) (if anyC L a d (a + i) m = true then (L, false) else R) := by
  have hn := v.hi
  have hlen := v.len
  have hB : B1 = 1048576 := rfl
  induction m with
  | zero =>
    intro arr i ha hi him hr hR
    rw [anyC, if_neg (by simp)]
    have : i = (d.size : Int) := by omega
    subst this
    exact hR rfl
  | succ m ih =>
    intro arr i ha hi him hr hR
    have hb := byt_lo L (a + i)
    have hra := hr (a + i) (by omega)
    have hcov : (cov (spOf L) (a + i) = true) = (0 ≤ byt L (a + i)) := propext (cov_byt v (a + i))
    have hsub : a + i - a = i := by omega
    have hnext : conf L a d (a + i) = false → Ev (fun k => impl_AddPiece.l1 k L (arr.set (a + i).toNat (bt d i)) (d.size : Int) (i + 1) a d) (if anyC L a d (a + i) (m + 1) = true then (L, false) else R) := by
      intro hc
      have := ih (arr.set (a + i).toNat (bt d i)) (i + 1) (by simpa using ha) (by omega) (by omega) (fun q hq => by
        rw [rd_set arr (a + i) (bt d i) (by omega) (by omega) q (by omega), if_neg (by omega)]; exact hr q (by omega)) (fun h => hR (by rw [anyC, hc, Bool.false_or, show a + i + 1 = a + (i + 1) by omega]; exact h))
      rw [anyC, hc, Bool.false_or, show a + i + 1 = a + (i + 1) by omega]
      exact this
    apply Ev.step
    · intro k; rw [impl_AddPiece.l1]
    rw [wrap64_id (x := a + i) (by omega) (by omega), wrap64_id (x := i + 1) (by omega) (by omega)]
    refine Ev.pos (by omega) (Ev.bind (impl_sp L (by omega)) (Ev.cbind (impl_cov (spOf L) (a + i) (by omega) (by omega)) ?_))
    by_cases c : cov (spOf L) (a + i) = true
    · have c' := hcov ▸ c
      refine Ev.pos c (Ev.pos (by omega) (Ev.pos (by omega) (Ev.pos hi (Ev.pos (by omega) ?_))))
      rw [hra, if_neg (by omega)]
      by_cases c2 : byt L (a + i) = bt d i
      · exact Ev.pos c2 (hnext (by simp [conf, c2, hsub]))
      · refine Ev.neg c2 (Ev.cbind (piece_f L (by omega)) (Ev.ret ?_))
        have : conf L a d (a + i) = true := by simp only [conf, Bool.and_eq_true, decide_eq_true_eq, hsub]; exact ⟨c', c2⟩
        rw [anyC, this, Bool.true_or, if_pos rfl]
    · refine Ev.neg c (Ev.pos hi (Ev.pos (by omega) (Ev.pos (by omega) (Ev.pos (by omega) (hnext ?_)))))
      have : ¬ 0 ≤ byt L (a + i) := fun h => c (hcov ▸ h)
      simp [conf, this]
theorem impl_l0 (v : Val L n) {R : List S44 × Bool} (rest : List S44) : ∀ (pre : List S44) (arr : List Int), pre ++ rest = L → (arr.length : Int) = n →
    Ev (fun k => impl_AddPiece.l1 k L (cp arr rest) (d.size : Int) 0 a d) R → Ev (fun k => impl_AddPiece.l0 k L arr L (L.length : Int) (pre.length : Int) a d) R := by
  have hn := v.hi
  have hL := v.len
  induction rest with
  | nil =>
    intro pre arr hl ha hR
    simp only [List.append_nil] at hl
    subst hl
    apply Ev.step
    · intro k; rw [impl_AddPiece.l0]
    exact Ev.neg (by omega) hR
  | cons x t ih =>
    intro pre arr hl ha hR
    have e1 : rd_T44 L (pre.length : Int) = x := by rw [← hl]; exact rd44_mid pre x t
    have hx := v.mem x (by rw [← hl]; simp)
    have hi := ih (pre ++ [x]) (put arr x) (by simpa using hl) (by rw [put_length arr x hx.1 (by omega)]; exact ha) hR
    have hlen : pre.length + (t.length + 1) = L.length := by rw [← hl]; simp
    rw [← next_len pre x (by omega)] at hi
    apply Ev.step
    · intro k; rw [impl_AddPiece.l0]
    simp only [e1]
    refine Ev.pos (by omega) (Ev.pos (by omega) (Ev.pos (by omega) (Ev.cbind (a := put arr x) ?_ hi)))
    rw [copyAt.f, if_pos hx.1, if_pos hx.2.1, if_pos (by omega)]
    rfl
end impl
theorem impl_addP (l : List S44) (n a : Int) (d : ByteArray) (hs : Sz l) (hd : d.size ≤ B1) (hn : -9223372036854775808 ≤ n ∧ n ≤ 9223372036854775807) : Ev (fun k => impl_AddPiece.f k l n a d) (addP l n a d) := by
  have hB : B1 = 1048576 := rfl
  obtain ⟨hl, hs⟩ := hs
  refine Ev.bind (impl_are l n hl) ?_
  have hno : good l n a d = false → Ev (fun k => impl_AddPiece.j0 k l n true a d) (addP l n a d) := by
    intro h
    apply Ev.step
    · intro k; rw [impl_AddPiece.j0]
    exact Ev.pos rfl (Ev.cbind (piece_f l hl) (Ev.ret (by rw [addP, h]; simp)))
  by_cases c : areP l n = true
  · have v := (areP_iff l n hs).1 c
    have h0 := v.lo
    have h1 := v.hi
    refine Ev.pos c ?_
    by_cases c2 : d.size = 0
    · exact Ev.pos (toList_nil.2 c2) (hno (by simp [good, c2]))
    refine Ev.neg (fun h => c2 (toList_nil.1 h)) ?_
    by_cases c1 : a < 0
    · exact Ev.pos c1 (hno (by simp [good, show ¬ 0 ≤ a by omega]))
    refine Ev.neg c1 ?_
    rw [wrap64_id (x := n - (d.size : Int)) (by omega) (by omega)]
    by_cases c4 : a > n - (d.size : Int)
    · rw [decide_eq_true c4]; exact hno (by simp [good, show ¬ a + (d.size : Int) ≤ n by omega])
    rw [decide_eq_false c4]
    have hg : good l n a d = true := by simp only [good, Bool.and_eq_true, decide_eq_true_eq]; exact ⟨⟨⟨c, by omega⟩, by omega⟩, by omega⟩
    obtain ⟨f1, f2, f3⟩ := sp_facts (a := a) (d := d) v (by omega) (by omega) (by omega)
    have hlen := v.len
    obtain ⟨k1, k2⟩ := rd_cp n h1 l (List.replicate n.toNat 0) v.set v.mem (by simp; omega)
    have hz : ∀ p, rd (List.replicate n.toNat (0 : Int)) p = 0 := by
      intro p
      simp only [rd, List.getD_eq_getElem?_getD, List.getElem?_replicate]
      split <;> rfl
    obtain ⟨s1, s2⟩ := rd_st a d d.size (cp (List.replicate n.toNat 0) l) 0 (by omega) (by omega) (by omega)
    apply Ev.step
    · intro k; rw [impl_AddPiece.j0]
    refine Ev.neg (by simp) (Ev.pos h0 (Ev.pos (by omega) ?_))
    refine impl_l0 v l [] (List.replicate n.toNat 0) rfl (by simp; omega) ?_
    have := impl_l1 (R := if 8 < (addX (spOf l) a (a + (d.size : Int))).length then (l, false) else ((addX (spOf l) a (a + (d.size : Int))).map (mk (newB l a d)), true)) v (a := a) (d := d) (by omega) (by omega) d.size (cp (List.replicate n.toNat 0) l) 0 k1 (by omega) (by omega) (fun q hq => by rw [k2 q (by omega), hz]) (fun hc => ?_)
    · refine Ev.eq ?_ this
      rw [addP, if_pos hg, Int.add_zero]
    · apply Ev.step
      · intro k; rw [impl_AddPiece.l1]
      rw [wrap64_id (x := a + (d.size : Int)) (by omega) (by omega)]
      refine Ev.neg (by omega) (Ev.bind (impl_sp l hl) (Ev.bind (impl_add (spOf l) a (a + (d.size : Int)) (by rw [spOf_length]; simp only [B0]; omega)) ?_))
      rw [sp_in v (by omega) (by omega) (by omega)]
      have hal := addR_length (spOf l) a (a + (d.size : Int))
      rw [spOf_length] at hal
      refine Ev.eq ?_ (impl_l2 hl _ _ (by omega) (fun s hs => ⟨(f2 s hs).1, (f2 s hs).2.1, by have := (f2 s hs).2.2; omega⟩) _ [] [] rfl rfl)
      have hmap : (addR (spOf l) a (a + (d.size : Int))).map (mk (rd (st a d (cp (List.replicate n.toNat 0) l) 0 d.size))) = (addR (spOf l) a (a + (d.size : Int))).map (mk (newB l a d)) := by
        apply List.map_congr_left
        intro s hs
        have := f2 s hs
        simp only [mk]
        congr 2
        refine vals_congr _ _ fun q hq1 hq2 => ?_
        rw [s2 q (by omega), k2 q (by omega), hz, newB]
        have hcv := f3 s hs q hq1 (by omega)
        have hb := byt_lo l q
        by_cases cc : a ≤ q ∧ q < a + (d.size : Int)
        · rw [if_pos (by omega)]
          by_cases c5 : byt l q < 0
          · rw [if_pos c5]
          · rw [if_neg c5]
            apply Classical.byContradiction
            intro hne
            have := (anyC_iff l a d d.size (a + 0)).2 ⟨q, by omega, by omega, by simp only [conf, Bool.and_eq_true, decide_eq_true_eq]; exact ⟨by omega, fun h => hne h.symm⟩⟩
            rw [hc] at this
            cases this
        · rw [if_neg (by omega), if_neg (by omega), if_neg (by omega)]
      rw [hmap, List.nil_append]
  · exact Ev.neg c (hno (by simp [good, c]))
end Go.Proofs.Yteahdfibipalkaa.Pure

namespace Go.Proofs.Yteahdfibipalkaa.Pure
open Go.RowKit Go.Proofs.Yteahdfibipalkaa.G Go.Proofs.YteahdfibipalkaaW.PrintWords Go.Proofs.YteahdfibipalkaaW.PrintLast
set_option linter.unusedVariables false

theorem rd37_mid (pre : List S37) (x : S37) (t : List S37) : rd_T37 (pre ++ x :: t) (pre.length : Int) = x := by simp [rd_T37]
theorem sz_l0 (L : List S37) (hL : L.length ≤ B1) (hz : ∀ x, x ∈ L → x.f1.size ≤ 9223372036854775807) (rest : List S37) : ∀ (pre : List S37) (r : Int), pre ++ rest = L → 0 ≤ r → r ≤ 1048576 →
    ∃ v, Ev (fun k => laws_szPieceS.l0 k L r (pre.length : Int)) v ∧ (v < 0 ∨ (0 ≤ v ∧ v ≤ 1048576 ∧ ∀ x, x ∈ rest → x.f1.size ≤ B1)) := by
  have hB : B1 = 1048576 := rfl
  induction rest with
  | nil =>
    intro pre r hl h0 h1
    simp only [List.append_nil] at hl
    subst hl
    refine ⟨r, ?_, .inr ⟨h0, h1, by simp⟩⟩
    apply Ev.step
    · intro k; rw [laws_szPieceS.l0]
    exact Ev.neg (by omega) (Ev.ret rfl)
  | cons x t ih =>
    intro pre r hl h0 h1
    have e1 : rd_T37 L (pre.length : Int) = x := by rw [← hl]; exact rd37_mid pre x t
    have hlen : pre.length + (t.length + 1) = L.length := by rw [← hl]; simp
    have hx := hz x (by rw [← hl]; simp)
    by_cases c : r - (x.f1.size : Int) < 0
    · refine ⟨-1, ?_, .inl (by omega)⟩
      apply Ev.step
      · intro k; rw [laws_szPieceS.l0]
      simp only [e1]
      refine Ev.pos (by omega) (Ev.pos (by omega) (Ev.cbind (a := -1) ?_ (Ev.pos (by omega) (Ev.ret rfl))))
      rw [laws_szPiece.f, wrap64_id (by omega) (by omega), if_pos c]
    · obtain ⟨v, e, hv⟩ := ih (pre ++ [x]) (r - (x.f1.size : Int)) (by simpa using hl) (by omega) (by omega)
      refine ⟨v, ?_, hv.imp id fun ⟨h1, h2, h3⟩ => ⟨h1, h2, fun y hy => ?_⟩⟩
      · rw [← next_len pre x (by omega)] at e
        apply Ev.step
        · intro k; rw [laws_szPieceS.l0]
        simp only [e1]
        refine Ev.pos (by omega) (Ev.pos (by omega) (Ev.cbind (a := r - (x.f1.size : Int)) ?_ (Ev.neg (by omega) e)))
        rw [laws_szPiece.f, wrap64_id (by omega) (by omega), if_neg c]
      · rcases List.mem_cons.1 hy with rfl | hy
        · omega
        · exact h3 y hy
theorem sz_ev (L : List S37) (hL : L.length ≤ 9223372036854775807) (hz : ∀ x, x ∈ L → x.f1.size ≤ 9223372036854775807) :
    ∃ v, Ev (fun k => laws_szPieceS.f k L 1048576) v ∧ (v < 0 ∨ (0 ≤ v ∧ v ≤ 1048576 ∧ L.length ≤ B1 ∧ ∀ x, x ∈ L → x.f1.size ≤ B1)) := by
  have hB : B1 = 1048576 := rfl
  unfold laws_szPieceS.f
  rw [wrap64_id (by omega) (by omega)]
  by_cases c : (1048576 : Int) - (L.length : Int) < 0
  · exact ⟨-1, Ev.pos c (Ev.ret rfl), .inl (by omega)⟩
  · obtain ⟨v, e, hv⟩ := sz_l0 L (by omega) hz L [] (1048576 - (L.length : Int)) rfl (by omega) (by omega)
    exact ⟨v, Ev.neg c e, hv.imp id fun ⟨h1, h2, h3⟩ => ⟨h1, h2, by omega, h3⟩⟩
def cv (x : S37) : S44 := ⟨x.f0, x.f1⟩
theorem to_l0 (L : List S37) (hL : L.length ≤ B1) (rest : List S37) : ∀ (pre : List S37), pre ++ rest = L →
    Ev (fun k => laws_toPieceS.l0 k L (pre.map cv ++ List.replicate rest.length z44) (pre.length : Int)) (L.map cv) := by
  have hB : B1 = 1048576 := rfl
  induction rest with
  | nil =>
    intro pre hl
    simp only [List.append_nil] at hl
    subst hl
    apply Ev.step
    · intro k; rw [laws_toPieceS.l0]
    exact Ev.neg (by omega) (Ev.ret (by simp))
  | cons x t ih =>
    intro pre hl
    have e1 : rd_T37 L (pre.length : Int) = x := by rw [← hl]; exact rd37_mid pre x t
    have hlen : pre.length + (t.length + 1) = L.length := by rw [← hl]; simp
    have e := ih (pre ++ [x]) (by simpa using hl)
    rw [← next_len pre x (by omega)] at e
    apply Ev.step
    · intro k; rw [laws_toPieceS.l0]
    simp only [e1, laws_toPiece.f]
    refine Ev.pos (by omega) (Ev.pos (by omega) (Ev.retBind (Ev.pos (by simp; omega) ?_)))
    have : (pre.map cv ++ List.replicate (x :: t).length z44).set ((pre.length : Int)).toNat (⟨x.f0, x.f1⟩ : S44) = (pre ++ [x]).map cv ++ List.replicate t.length z44 := by
      simp [List.replicate_succ, cv]
    rw [this]
    exact e
theorem to_ev (L : List S37) (hL : L.length ≤ B1) : Ev (fun k => laws_toPieceS.f k L) (L.map cv) := by
  have hB : B1 = 1048576 := rfl
  exact Ev.pos (by omega) (Ev.pos (by omega) (to_l0 L hL L [] rfl))
theorem eq_l0 (L : List S44) (hL : L.length ≤ B1) (rest : List S44) : ∀ (pre : List S44), pre ++ rest = L → Ev (fun k => laws_eqPieceS.l0 k L L (pre.length : Int)) true := by
  have hB : B1 = 1048576 := rfl
  induction rest with
  | nil =>
    intro pre hl
    simp only [List.append_nil] at hl
    subst hl
    apply Ev.step
    · intro k; rw [laws_eqPieceS.l0]
    exact Ev.neg (by omega) (Ev.ret rfl)
  | cons x t ih =>
    intro pre hl
    have e1 : rd_T44 L (pre.length : Int) = x := by rw [← hl]; exact rd44_mid pre x t
    have hlen : pre.length + (t.length + 1) = L.length := by rw [← hl]; simp
    have e := ih (pre ++ [x]) (by simpa using hl)
    rw [← next_len pre x (by omega)] at e
    apply Ev.step
    · intro k; rw [laws_eqPieceS.l0]
    simp only [e1]
    refine Ev.pos (by omega) (Ev.pos (by omega) (Ev.pos (by omega) (Ev.cbind (a := true) ?_ (Ev.pos rfl e))))
    rw [laws_eqPiece.f, if_pos rfl, if_pos rfl]
theorem eq_ev (L : List S44) (hL : L.length ≤ B1) : Ev (fun k => laws_eqPieceS.f k L L) true := Ev.pos rfl (eq_l0 L hL L [] rfl)
theorem text_l0 (m : Nat) : ∀ (x : Int) (s : ByteArray), 0 ≤ x → x ≤ m → m + s.size ≤ 4611686018427387904 → ∃ r, Ev (fun k => laws_markText.l0 k x s) r := by
  induction m with
  | zero =>
    intro x s h0 h1 h2
    refine ⟨(⟨#[109]⟩ : ByteArray) ++ s, ?_⟩
    apply Ev.step
    · intro k; rw [laws_markText.l0]
    exact Ev.neg (by omega) (Ev.pos (by omega) (Ev.ret rfl))
  | succ m ih =>
    intro x s h0 h1 h2
    by_cases c : x > 0
    · have hd : Int.tdiv x 10 = x / 10 := Int.tdiv_eq_ediv_of_nonneg h0
      have hsz : (strOfNums [wrap64 (48 + Int.tmod x 10) % 256]).size = 1 := by rw [strOfNums_size]; rfl
      obtain ⟨r, e⟩ := ih (x / 10) (strOfNums [wrap64 (48 + Int.tmod x 10) % 256] ++ s) (by omega) (by omega) (by rw [ByteArray.size_append, hsz]; omega)
      refine ⟨r, ?_⟩
      apply Ev.step
      · intro k; rw [laws_markText.l0]
      rw [hd, wrap64_id (x := x / 10) (by omega) (by omega)]
      exact Ev.pos c (Ev.retBind (Ev.pos (by rw [hsz]; omega) e))
    · refine ⟨(⟨#[109]⟩ : ByteArray) ++ s, ?_⟩
      apply Ev.step
      · intro k; rw [laws_markText.l0]
      exact Ev.neg c (Ev.pos (by omega) (Ev.ret rfl))
theorem text_ev (x : Int) (h : x ≤ 4611686018427387904) : ∃ r, Ev (fun k => laws_markText.f k x) r := by
  by_cases c : x ≤ 0
  · exact ⟨_, Ev.pos c (Ev.ret rfl)⟩
  · obtain ⟨r, e⟩ := text_l0 x.toNat x ⟨#[]⟩ (by omega) (by omega) (by show x.toNat + 0 ≤ _; omega)
    exact ⟨r, Ev.neg c e⟩
/-- The mark's list: as long, held. -/
inductive Mk : Int → List S44 → Prop
  | nil (c : Int) : Mk c []
  | cons {c : Int} {s : ByteArray} {t : List S44} : Ev (fun k => laws_markText.f k (c + 1)) s → Mk (c + 2) t → Mk c (⟨c, s⟩ :: t)
theorem mark_l0 (rest : List S44) : ∀ (pre : List S44) (c : Int), 0 ≤ c → c + 2 * rest.length ≤ 4611686018427387000 → (pre ++ rest).length ≤ B1 →
    ∃ l, Ev (fun k => laws_markPieceS.l0 k (pre ++ rest) c (pre.length : Int)) (c + 2 * (rest.length : Int), pre ++ l) ∧ Mk c l ∧ l.length = rest.length := by
  have hB : B1 = 1048576 := rfl
  induction rest with
  | nil =>
    intro pre c h0 h1 h2
    refine ⟨[], ?_, .nil c, rfl⟩
    apply Ev.step
    · intro k; rw [laws_markPieceS.l0]
    exact Ev.neg (by simp) (Ev.ret (by simp))
  | cons x t ih =>
    intro pre c h0 h1 h2
    simp only [List.length_append, List.length_cons] at h1 h2
    obtain ⟨s, hs⟩ := text_ev (c + 1) (by omega)
    obtain ⟨l, e, hm, hl⟩ := ih (pre ++ [⟨c, s⟩]) (c + 2) (by omega) (by omega) (by simp; omega)
    refine ⟨⟨c, s⟩ :: l, ?_, .cons hs hm, by simp [hl]⟩
    rw [← next_len pre _ (by omega)] at e
    apply Ev.step
    · intro k; rw [laws_markPieceS.l0]
    rw [wrap64_id (x := c + 1) (by omega) (by omega), wrap64_id (x := c + 1 + 1) (by omega) (by omega), show c + 1 + 1 = c + 2 by omega]
    refine Ev.pos (by simp; omega) (Ev.pos (by omega) (Ev.retBind (Ev.bind hs ?_)))
    have e2 : ((pre ++ x :: t).set ((pre.length : Int)).toNat (⟨c, (rd_T44 (pre ++ x :: t) (pre.length : Int)).f1⟩ : S44)) = pre ++ ⟨c, x.f1⟩ :: t := by rw [rd44_mid]; simp
    rw [e2, rd44_mid]
    have e3 : ((pre ++ (⟨c, x.f1⟩ : S44) :: t).set ((pre.length : Int)).toNat (⟨c, s⟩ : S44)) = pre ++ [⟨c, s⟩] ++ t := by simp
    rw [e3]
    refine Ev.eq ?_ e
    simp; omega
theorem mark_ev (L : List S44) (hL : L.length ≤ B1) : ∃ l, Ev (fun k => laws_markPieceS.f k L 1) (1 + 2 * (L.length : Int), l) ∧ Mk 1 l ∧ l.length = L.length := by
  have hB : B1 = 1048576 := rfl
  exact mark_l0 L [] 1 (by omega) (by omega) hL
theorem held_l0 (rest : List S44) : ∀ (pre : List S44) (c : Int), 0 ≤ c → c + 2 * rest.length ≤ 4611686018427387000 → (pre ++ rest).length ≤ B1 → Mk c rest →
    Ev (fun k => laws_heldPieceS.l0 k (pre ++ rest) c (pre.length : Int)) (c + 2 * (rest.length : Int)) := by
  have hB : B1 = 1048576 := rfl
  induction rest with
  | nil =>
    intro pre c h0 h1 h2 _
    apply Ev.step
    · intro k; rw [laws_heldPieceS.l0]
    exact Ev.neg (by simp) (Ev.ret (by simp))
  | cons x t ih =>
    intro pre c h0 h1 h2 hm
    simp only [List.length_append, List.length_cons] at h1 h2
    cases hm with
    | cons hs hm =>
      rename_i s
      have e := ih (pre ++ [⟨c, s⟩]) (c + 2) (by omega) (by omega) (by simp; omega) hm
      rw [← next_len pre _ (by omega), show pre ++ [(⟨c, s⟩ : S44)] ++ t = pre ++ ⟨c, s⟩ :: t by simp] at e
      apply Ev.step
      · intro k; rw [laws_heldPieceS.l0]
      rw [rd44_mid, wrap64_id (x := c + 1) (by omega) (by omega), wrap64_id (x := c + 1 + 1) (by omega) (by omega), show c + 1 + 1 = c + 2 by omega]
      refine Ev.pos (by simp; omega) (Ev.pos (by omega) (Ev.pos rfl (Ev.bind hs (Ev.pos rfl (Ev.eq ?_ e)))))
      simp; omega
theorem held_ev {l : List S44} (hL : l.length ≤ B1) (h : Mk 1 l) : Ev (fun k => laws_heldPieceS.f k l 1) (1 + 2 * (l.length : Int)) := by
  have hB : B1 = 1048576 := rfl
  exact held_l0 l [] 1 (by omega) (by omega) hL h
theorem addP_length (l : List S44) (n a : Int) (d : ByteArray) (hl : l.length ≤ B1) : (addP l n a d).1.length ≤ B1 := by
  have hB : B1 = 1048576 := rfl
  unfold addP
  split
  · split
    · exact hl
    · split
      · exact hl
      · rename_i h
        simp only [List.length_map]
        omega
  · exact hl
theorem exactAddPiece (l0 : List S37) (n a : Int) (d : ByteArray) (hl : l0.length ≤ 9223372036854775807) (hz : ∀ x, x ∈ l0 → x.f1.size ≤ 9223372036854775807) (hd : d.size ≤ 9223372036854775807)
    (hn : -9223372036854775808 ≤ n ∧ n ≤ 9223372036854775807) : Ev (fun k => laws_FnExactAddPiece.f k l0 n a d) true := by
  have hB : B1 = 1048576 := rfl
  obtain ⟨v, e, hv⟩ := sz_ev l0 hl hz
  refine Ev.bind e ?_
  rcases hv with hv | ⟨hv0, hv1, hl1, hz1⟩
  · exact Ev.pos hv (Ev.ret rfl)
  refine Ev.neg (by omega) ?_
  by_cases c : v - (d.size : Int) < 0
  · refine Ev.cbind (a := -1) ?_ (Ev.pos (by omega) (Ev.ret rfl))
    rw [laws_szPiece.f, wrap64_id (by omega) (by omega), if_pos c]
  refine Ev.cbind (a := v - (d.size : Int)) ?_ (Ev.neg c ?_)
  · rw [laws_szPiece.f, wrap64_id (by omega) (by omega), if_neg c]
  have hS : Sz (l0.map cv) := ⟨by simpa using hl1, fun x hx => by obtain ⟨y, hy, rfl⟩ := List.mem_map.1 hx; exact hz1 y hy⟩
  have hd1 : d.size ≤ B1 := by omega
  have hR := addP_length (l0.map cv) n a d hS.1
  have s1 := spec_addP (l0.map cv) n a d hS hd1 hn
  have i1 := impl_addP (l0.map cv) n a d hS hd1 hn
  have t1 := to_ev l0 hl1
  generalize l0.map cv = L at *
  generalize addP L n a d = R at *
  obtain ⟨m1, em1, _, _⟩ := mark_ev L hS.1
  obtain ⟨m2, em2, km2, lm2⟩ := mark_ev R.1 hR
  have hh := held_ev (by omega) km2
  refine Ev.bind t1 (Ev.cbind rfl (Ev.bind s1 (Ev.bind t1 (Ev.cbind rfl (Ev.bind i1 (Ev.bind (eq_ev R.1 hR) (Ev.pos rfl ?_)))))))
  rw [show (R.2 != R.2) = false by simp]
  apply Ev.step
  · intro k; rw [laws_FnExactAddPiece.j0]
  refine Ev.neg (by simp) (Ev.bind t1 (Ev.bind (eq_ev L hS.1) (Ev.pos rfl (Ev.bind em1 (Ev.neg (by omega) (Ev.bind (eq_ev R.1 hR) (Ev.pos rfl ?_)))))))
  rw [show (R.2 != R.2) = false by simp]
  apply Ev.step
  · intro k; rw [laws_FnExactAddPiece.j1]
  refine Ev.neg (by simp) (Ev.bind em2 (Ev.bind hh (Ev.neg (by omega) (Ev.pos (by rw [lm2]) (Ev.bind t1 (Ev.cbind rfl (Ev.bind i1 (Ev.bind (eq_ev R.1 hR) (Ev.pos rfl ?_)))))))))
  rw [show (R.2 != R.2) = false by simp]
  apply Ev.step
  · intro k; rw [laws_FnExactAddPiece.j2]
  exact Ev.neg (by simp) (Ev.bind hh (Ev.neg (by omega) (Ev.pos (by rw [lm2]) (Ev.ret rfl))))
end Go.Proofs.Yteahdfibipalkaa.Pure
