/- Texts for: FnPieces holds for every input, without a condition: adding pieces keeps and reads back every byte, in any order. -/
import Derived.Test.YteahdfibipalkaaKFnPieces0
import Derived.Test.YteahdfibipalkaaKFnPieces2
import Derived.Test.YteahdfibipalkaaKFnPieces5

namespace Go.Proofs.Yteahdfibipalkaa.G
open Go.RowKit Go.Proofs.YteahdfibipalkaaW.PrintWords Go.Proofs.YteahdfibipalkaaW.PrintLast Go.Proofs.YteahdfibipalkaaW.PrintMore
attribute [local go_sem] max2_int min2_int max_two min_two max_three min_three max_four min_four   -- for this text's walks alone
set_option linter.unusedVariables false
set_option linter.unusedSimpArgs false

/-! ### laws_FnPieces: function 5 -/
def laws_FnPieces.T13 : Bool × List (List Nat × List Nat) := (true, [([], []), ([], []), ([], []), ([1, 2], [1, 2]), ([3], [3]), ([4], [4]), ([], []), ([], []), ([6, 7], [6, 7]), ([8], [8]), ([9], [9]), ([], []), ([], []), ([11, 12], [11, 12]), ([13], [13]), ([14], [14]), ([15], [15]), ([10, 16], [10, 16]), ([5, 17], [5, 17]), ([0, 18], [0, 18]), ([19], [19]), ([20], [20]), ([20], [20]), ([21, 19, 0, 1, 2, 3, 4, 5, 6, 7, 8, 9, 10, 11, 12, 13, 14, 15, 16, 17, 18, 19, 20, 21], [21]), ([22, 23, 0, 1, 2, 3, 4, 5, 6, 7, 8, 9, 10, 11, 12, 13, 14, 15, 16, 17, 18, 19, 20, 21, 22, 23], [22])])
def laws_FnPieces.B13 : List Nat := [0, 0, 0, 6, 14, 30, 0, 0, 192, 448, 960, 0, 0, 6144, 14336, 30720, 63488, 131008, 262142, 524287, 1048575, 2097151, 2097151, 4194303, 16777215]
theorem laws_FnPieces.tab13 : rtab .any (opsOf Try.f5 13) = laws_FnPieces.T13 := by kernel_rfl
theorem laws_FnPieces.bits13 : waitsOk laws_FnPieces.T13.2 laws_FnPieces.B13 = true := by kernel_rfl
set_option maxHeartbeats 8000000 in
set_option maxRecDepth 100000 in
theorem laws_FnPieces.calls (k : Nat) (A0 : Option Addr) (c0 : Nat) (l0 : List Int) (r : Bool) (w : World) (hr0 : Kd.C (Kd.int .u8) w A0 l0.length l0) (hc0 : l0.length ≤ c0) (h : laws_FnPieces.f k l0 = some r) :
  Calls Try.prog 5 #[.slice A0 l0.length c0] w fun e w' => e = .returned (.bool r) ∧ Below w.heap.size w w' := by
 have hu44 := Try.underlying44
 have hu26 := Try.underlying26
 have HR0 := zM hr0
 have HC0 := zM hc0
 clear hr0 hc0
 have HB := zM (Below.refl w.heap.size w)
 have H : ((laws_big.f l0).bind fun t632 => (if t632 = true then (some true) else ((spec_DrawAddPiece.f k l0).bind fun bt633 => ((impl_AddPiece.f k bt633.1 bt633.2.1 bt633.2.2.1 bt633.2.2.2).bind fun bt640 => (if bt640.2 = true then ((impl_ReadPieces.f k bt640.1 bt633.2.2.1 (wrap64 (bt633.2.2.1 + (bt633.2.2.2.size : Int)))).bind fun bt644 => (if bt644.2 = true then (if bt644.1.toList = bt633.2.2.2.toList then ((spec_ArePieces.f k bt640.1 bt633.2.1).bind fun t646 => (if t646 = true then ((impl_SpansOf.f k bt640.1).bind fun t647 => ((impl_SpanSize.f k t647).bind fun t650 => (laws_FnPieces.j0 k bt633.1 bt633.2.1 bt640.1 (decide (t650 > bt633.2.1)) bt633.2.2.1 bt633.2.2.2))) else (laws_FnPieces.j0 k bt633.1 bt633.2.1 bt640.1 true bt633.2.2.1 bt633.2.2.2))) else (laws_FnPieces.j0 k bt633.1 bt633.2.1 bt640.1 true bt633.2.2.1 bt633.2.2.2)) else (laws_FnPieces.j0 k bt633.1 bt633.2.1 bt640.1 true bt633.2.2.1 bt633.2.2.2))) else (some ((bt640.1.length : Int) == (bt633.1.length : Int)))))))) = some r := h
 clear h
 replace H := Option.bind_eq_some_iff.mp H
 obtain ⟨t632, A20, H⟩ := H
 try dsimp only at H
 have A2 := zM A20
 clear A20
 by_cases c3 : t632 = true
 ·subst c3
  rw [if_pos rfl] at H
  obtain rfl := Option.some.inj H
  go_enter Try.func5, Try.ntmps5
  go_wp2_with (first | ((with_reducible refine gate_callee (f := 6) rfl ?_); refine zG (some 17) Try.func6 #[.slice A0 l0.length c0] ?_; (with_reducible refine (laws_big.calls _ _ l0 true _ ?side1 ?side2 A2.out).mono ?_); (case side1 => exact (zC HR0.out)); (case side2 => exact HC0.out); rintro e w' ⟨rfl, ⟨nd, rfl⟩⟩; refine ⟨_, rfl, ?_⟩))
  go_ret
  exact ⟨zE, (zB HB.out)⟩
 ·replace c3 := Bool.eq_false_iff.mpr c3
  subst c3
  rw [if_neg (show ¬ (false = true) by decide)] at H
  replace H := Option.bind_eq_some_iff.mp H
  obtain ⟨⟨t633, t636, t637, t638⟩, A40, H⟩ := H
  try dsimp only at H
  have A4 := zM A40
  clear A40
  replace H := Option.bind_eq_some_iff.mp H
  obtain ⟨⟨t640, t643⟩, A50, H⟩ := H
  try dsimp only at H
  have A5 := zM A50
  clear A50
  by_cases c6 : t643 = true
  ·subst c6
   rw [if_pos rfl] at H
   replace H := Option.bind_eq_some_iff.mp H
   obtain ⟨⟨t644, t645⟩, A70, H⟩ := H
   try dsimp only at H
   have A7 := zM A70
   clear A70
   have HC8 := zM H
   clear H
   go_enter Try.func5, Try.ntmps5
   go_upto_region 8 with (first | ((with_reducible refine gate_callee (f := 6) rfl ?_); refine zG (some 17) Try.func6 #[.slice A0 l0.length c0] ?_; (with_reducible refine (laws_big.calls _ _ l0 false _ ?side1 ?side2 A2.out).mono ?_); (case side1 => exact (zC HR0.out)); (case side2 => exact HC0.out); rintro e w' ⟨rfl, ⟨nd, rfl⟩⟩; refine ⟨_, rfl, ?_⟩) | ((with_reducible refine gate_callee (f := 27) rfl ?_); refine zG (some 20) Try.func27 #[.slice A0 l0.length c0] ?_; (with_reducible refine (spec_DrawAddPiece.calls k _ _ l0 t633 t636 t637 t638 _ ?side1 ?side2 A4.out).mono ?_); (case side1 => exact (zC HR0.out)); (case side2 => exact HC0.out); rintro e w9 ⟨v634, rfl, ho0, hb⟩; refine ⟨_, rfl, ?_⟩; have n0_ := zM (Kd.R_lower ho0 (below_size (zB HB.out))); have n1_ := zM (below_step (zB HB.out) hb); clear HB; have HO635 := n0_; have HB := n1_; clear n0_ n1_; (try clear hb); (try clear hb2); (try clear hk); (try clear hi); (try clear ho0)) | ((with_reducible refine gate_dst (N := 5) rfl ?_); refine box_event ?hg (N := 5) ?hd (cs := #[.int .i64 0, .string (⟨#[]⟩ : ByteArray)]) (t := 44) ?hr ?_; (case hd => rfl); (case hg => rfl); (case hr => first | (go_simp; done) | (go_simp; rfl)); intro gb639 hg w10 hbox hb; have n0_ := zM (Kd.R_below (Kd.R_elderB (zR HO635.out) gb639 (Nat.le_of_eq hg.symm)) hb); have n1_ := zM (below_step (zB HB.out) hb); have n2_ := zM (hbox); have n3_ := zM ((by rw [hg]; exact (below_size (zB HB.out)) : w.heap.size ≤ gb639)); have n4_ := zM ((by rw [hg]; exact (below_size (zB HB.out)) : w.heap.size ≤ gb639)); clear HO635; clear HB; have HO635 := n0_; have HB := n1_; have BK639 := n2_; have GW639 := n3_; have GE639 := n4_; clear n0_ n1_ n2_ n3_ n4_; clear hb hbox hg; have hcz11_0 : w10.cell? ⟨gb639, 0, none⟩ = some (.int .i64 0) := (blk_cell BK639.out 0).trans rfl; have hcz11_1 : w10.cell? ⟨gb639, 1, none⟩ = some (.string (⟨#[]⟩ : ByteArray)) := (blk_cell BK639.out 1).trans rfl; have hfz11_0 := blk_frozen BK639.out 0; have hfz11_1 := blk_frozen BK639.out 1; obtain ⟨Ao12, co12, eo12⟩ := Kd.R_slice HO635.out; subst eo12) | ((with_reducible refine gate_callee (f := 23) rfl ?_); refine zG (some 28) Try.func23 #[.slice Ao12 t633.length co12, .int .i64 t636, .agg #[.int .i64 t637, .string t638]] ?_; (with_reducible refine (impl_AddPiece.calls k _ _ t633 t636 t637 t638 t640 true _ ?side1 ?side2 A5.out).mono ?_); (case side1 => refine (Kd.R_reads' (e := 44) (base := w.heap.size) (ok := fun k_ => (True ∧ k_ ≠ gb639)) (n := t633.length) (c := co12) ?_).2.2; exact (by (with_reducible repeat (first | apply Kd.R_alloc | apply Kd.R_drewN | apply Kd.R_drew)); exact (Kd.R_mono (Kd.R_far (p := ⟨gb639, 1, none⟩) (Kd.R_far (p := ⟨gb639, 0, none⟩) (Kd.R_mono HO635.out (fun k_ hk => (⟨hk, hk.2⟩ : _ ∧ k_ ≠ gb639))) (fun _ hk => hk.2) (.int .i64 t637)) (fun _ hk => hk.2) (.string t638)) (fun _ h_ => h_.1)))); (case side2 => exact (Kd.R_reads' HO635.out).2.1); rintro e w13 ⟨v641, rfl, ho0, hb⟩; refine ⟨_, rfl, ?_⟩; have n0_ := zM (Kd.R_elder' (by (with_reducible repeat (first | apply Kd.R_alloc | apply Kd.R_drewN | apply Kd.R_drew)); exact (Kd.R_mono (Kd.R_far (p := ⟨gb639, 1, none⟩) (Kd.R_far (p := ⟨gb639, 0, none⟩) (Kd.R_mono HO635.out (fun k_ hk => (⟨hk, hk.2⟩ : _ ∧ k_ ≠ gb639))) (fun _ hk => hk.2) (.int .i64 t637)) (fun _ hk => hk.2) (.string t638)) (fun _ h_ => h_.1))) (Kd.R_base ho0) hb); have n1_ := zM (Kd.R_lower (Kd.R_newB (Kd.R_new' ho0 (Kd.R_lt (by (with_reducible repeat (first | apply Kd.R_alloc | apply Kd.R_drewN | apply Kd.R_drew)); exact (Kd.R_mono (Kd.R_far (p := ⟨gb639, 1, none⟩) (Kd.R_far (p := ⟨gb639, 0, none⟩) (Kd.R_mono HO635.out (fun k_ hk => (⟨hk, hk.2⟩ : _ ∧ k_ ≠ gb639))) (fun _ hk => hk.2) (.int .i64 t637)) (fun _ hk => hk.2) (.string t638)) (fun _ h_ => h_.1))))) (g := gb639) (o := .cells #[.int .i64 t637, .string t638] 44 (0, 0)) (by (with_reducible repeat (first | refine blk_drewN ?_ _ | refine blk_drew ?_ | refine blk_alloc ?_ _)); refine blk_put (cs := #[.int .i64 t637, .string (⟨#[]⟩ : ByteArray)]) ?_ 1 _ rfl; (with_reducible repeat (first | refine blk_drewN ?_ _ | refine blk_drew ?_ | refine blk_alloc ?_ _)); refine blk_put (cs := #[.int .i64 0, .string (⟨#[]⟩ : ByteArray)]) ?_ 0 _ rfl; (with_reducible repeat (first | refine blk_drewN ?_ _ | refine blk_drew ?_ | refine blk_alloc ?_ _)); exact BK639.out)) (below_size (zB1 GE639.out HB.out))); have n2_ := zM (blk_below (g := gb639) (o := .cells #[.int .i64 t637, .string t638] 44 (0, 0)) (by (with_reducible repeat (first | refine blk_drewN ?_ _ | refine blk_drew ?_ | refine blk_alloc ?_ _)); refine blk_put (cs := #[.int .i64 t637, .string (⟨#[]⟩ : ByteArray)]) ?_ 1 _ rfl; (with_reducible repeat (first | refine blk_drewN ?_ _ | refine blk_drew ?_ | refine blk_alloc ?_ _)); refine blk_put (cs := #[.int .i64 0, .string (⟨#[]⟩ : ByteArray)]) ?_ 0 _ rfl; (with_reducible repeat (first | refine blk_drewN ?_ _ | refine blk_drew ?_ | refine blk_alloc ?_ _)); exact BK639.out) hb); have n3_ := zM (below_step (zB1 GE639.out HB.out) hb); clear HO635; clear BK639; clear HB; have HO635 := n0_; have HO642 := n1_; have BK639 := n2_; have HB := n3_; clear n0_ n1_ n2_ n3_; (try clear hb); (try clear hb2); (try clear hk); (try clear hi); (try clear ho0); have hcz14_0 : w13.cell? ⟨gb639, 0, none⟩ = some (.int .i64 t637) := (blk_cell BK639.out 0).trans rfl; have hcz14_1 : w13.cell? ⟨gb639, 1, none⟩ = some (.string t638) := (blk_cell BK639.out 1).trans rfl; have hfz14_0 := blk_frozen BK639.out 0; have hfz14_1 := blk_frozen BK639.out 1; obtain ⟨Ao15, co15, eo15⟩ := Kd.R_slice HO642.out; subst eo15) | ((with_reducible refine gate_callee (f := 28) rfl ?_); refine zG (some 49) Try.func28 #[.slice Ao15 t640.length co15, .agg #[.int .i64 t637, .int .i64 (wrap64 (t637 + (t638.size : Int)))]] ?_; (with_reducible refine (impl_ReadPieces.calls k _ _ t640 t637 (wrap64 (t637 + (t638.size : Int))) t644 t645 _ ?side1 ?side2 A7.out).mono ?_); (case side1 => exact (zC ((Kd.R_reads' HO642.out).2.2))); (case side2 => exact (Kd.R_reads' HO642.out).2.1); rintro e w16 ⟨rfl, hb⟩; refine ⟨_, rfl, ?_⟩; have n0_ := zM (Kd.R_below (zR HO635.out) hb); have n1_ := zM (Kd.R_below (zR HO642.out) hb); have n2_ := zM (blk_below (g := gb639) (o := .cells #[.int .i64 t637, .string t638] 44 (0, 0)) (zP BK639.out) hb); have n3_ := zM (below_step (zB1 GE639.out HB.out) hb); clear HO635; clear HO642; clear BK639; clear HB; have HO635 := n0_; have HO642 := n1_; have BK639 := n2_; have HB := n3_; clear n0_ n1_ n2_ n3_; (try clear hb); (try clear hb2); (try clear hk); (try clear hi)))
   (try simp only [Act.put, List.setIfInBounds_toArray, List.set_cons_zero, List.set_cons_succ])
   go_cut [72] (fun v72 wc => ∃ (kq : Nat) (x72_7 : Bool), v72 = .bool x72_7 ∧ Aside0 (laws_FnPieces.j0 kq t633 t636 t640 x72_7 t637 t638 = some r) ∧ Aside0 (kq ≤ k) ∧ Aside0 (Kd.R k44 44 wc w.heap.size (fun k_ => some k_ ≠ ((.slice Ao15 t640.length co15) : Value).ownBlock ∧ k_ ≠ gb639) (.slice Ao12 t633.length co12) t633) ∧ Aside0 (Kd.R k44 44 wc w.heap.size (fun k_ => some k_ ≠ ((.slice Ao12 t633.length co12) : Value).ownBlock ∧ k_ ≠ gb639) (.slice Ao15 t640.length co15) t640) ∧ Aside0 (wc.heap[gb639]? = some (.cells #[.int .i64 t637, .string t638] 44 (0, 0))) ∧ Aside0 (Below w.heap.size w wc))
   case first =>
    have H := HC8.out
    clear HC8
    by_cases c17 : t645 = true
    ·subst c17
     rw [if_pos rfl] at H
     by_cases c18 : t644.toList = t638.toList
     ·rw [if_pos c18] at H
      have c18b0 : (t644.toList == t638.toList) = true := beq_iff_eq.mpr c18
      have c18b1 : (t644.toList != t638.toList) = false := bne_eq_false_iff_eq.mpr c18
      clear c18
      (first | rw [c18b0] | (simp only [i64_w, i32_w]; rw [c18b0]) | skip)
      replace H := Option.bind_eq_some_iff.mp H
      obtain ⟨t646, A190, H⟩ := H
      try dsimp only at H
      have A19 := zM A190
      clear A190
      by_cases c20 : t646 = true
      ·subst c20
       rw [if_pos rfl] at H
       replace H := Option.bind_eq_some_iff.mp H
       obtain ⟨t647, A210, H⟩ := H
       try dsimp only at H
       have A21 := zM A210
       clear A210
       replace H := Option.bind_eq_some_iff.mp H
       obtain ⟨t650, A220, H⟩ := H
       try dsimp only at H
       have A22 := zM A220
       clear A220
       have H' := zM H
       clear H
       have hcz23_0 : w16.cell? ⟨gb639, 0, none⟩ = some (.int .i64 t637) := (blk_cell BK639.out 0).trans rfl
       have hcz23_1 : w16.cell? ⟨gb639, 1, none⟩ = some (.string t638) := (blk_cell BK639.out 1).trans rfl
       have hfz23_0 := blk_frozen BK639.out 0
       have hfz23_1 := blk_frozen BK639.out 1
       go_wp2_with (first | (go_at_call 29; (with_reducible refine (spec_ArePieces.calls k _ _ t640 t636 true _ ?side1 ?side2 A19.out).mono ?_); (case side1 => exact (zC ((Kd.R_reads' HO642.out).2.2))); (case side2 => exact (Kd.R_reads' HO642.out).2.1); rintro e w24 ⟨rfl, hb⟩; have n0_ := zM (Kd.R_below (zR HO635.out) hb); have n1_ := zM (Kd.R_below (zR HO642.out) hb); have n2_ := zM (blk_below (g := gb639) (o := .cells #[.int .i64 t637, .string t638] 44 (0, 0)) (zP BK639.out) hb); have n3_ := zM (below_step (zB1 GE639.out HB.out) hb); clear HO635; clear HO642; clear BK639; clear HB; have HO635 := n0_; have HO642 := n1_; have BK639 := n2_; have HB := n3_; clear n0_ n1_ n2_ n3_; (try clear hb); (try clear hb2); (try clear hk); (try clear hi)) | (go_at_call 30; (with_reducible refine (impl_SpansOf.calls k _ _ t640 t647 _ ?side1 ?side2 A21.out).mono ?_); (case side1 => exact (zC ((Kd.R_reads' HO642.out).2.2))); (case side2 => exact (Kd.R_reads' HO642.out).2.1); rintro e w25 ⟨v648, rfl, ho0, hb⟩; have n0_ := zM (Kd.R_below (zR HO635.out) hb); have n1_ := zM (Kd.R_below (zR HO642.out) hb); have n2_ := zM (Kd.R_lower ho0 (below_size (zB1 GE639.out HB.out))); have n3_ := zM (blk_below (g := gb639) (o := .cells #[.int .i64 t637, .string t638] 44 (0, 0)) (zP BK639.out) hb); have n4_ := zM (below_step (zB1 GE639.out HB.out) hb); clear HO635; clear HO642; clear BK639; clear HB; have HO635 := n0_; have HO642 := n1_; have HO649 := n2_; have BK639 := n3_; have HB := n4_; clear n0_ n1_ n2_ n3_ n4_; (try clear hb); (try clear hb2); (try clear hk); (try clear hi); (try clear ho0); obtain ⟨Ao26, co26, eo26⟩ := Kd.R_slice HO649.out; subst eo26) | (go_at_call 17; (with_reducible refine (impl_SpanSize.calls k _ _ t647 t650 _ ?side1 ?side2 A22.out).mono ?_); (case side1 => exact (zC ((Kd.R_reads' HO649.out).2.2))); (case side2 => exact (Kd.R_reads' HO649.out).2.1); rintro e w27 ⟨rfl, hb⟩; have n0_ := zM (Kd.R_below (zR HO635.out) hb); have n1_ := zM (Kd.R_below (zR HO642.out) hb); have n2_ := zM (Kd.R_below (zR HO649.out) hb); have n3_ := zM (blk_below (g := gb639) (o := .cells #[.int .i64 t637, .string t638] 44 (0, 0)) (zP BK639.out) hb); have n4_ := zM (below_step (zB1 GE639.out HB.out) hb); clear HO635; clear HO642; clear HO649; clear BK639; clear HB; have HO635 := n0_; have HO642 := n1_; have HO649 := n2_; have BK639 := n3_; have HB := n4_; clear n0_ n1_ n2_ n3_ n4_; (try clear hb); (try clear hb2); (try clear hk); (try clear hi)))
       go_meet
       case rel => exact ⟨_, (decide (t650 > t636)), zS, H', ⟨by first | omega | exact Nat.le_refl _⟩, ⟨(zRm HO635.out (fun _ hk => ⟨hk.2, hk.1.2⟩))⟩, ⟨(zRm HO642.out (fun _ hk => ⟨hk.1.2, hk.2⟩))⟩, ⟨(zP BK639.out)⟩, ⟨(zB1 GE639.out HB.out)⟩⟩
      ·replace c20 := Bool.eq_false_iff.mpr c20
       subst c20
       rw [if_neg (show ¬ (false = true) by decide)] at H
       have H' := zM H
       clear H
       have hcz28_0 : w16.cell? ⟨gb639, 0, none⟩ = some (.int .i64 t637) := (blk_cell BK639.out 0).trans rfl
       have hcz28_1 : w16.cell? ⟨gb639, 1, none⟩ = some (.string t638) := (blk_cell BK639.out 1).trans rfl
       have hfz28_0 := blk_frozen BK639.out 0
       have hfz28_1 := blk_frozen BK639.out 1
       go_wp2_with (first | (go_at_call 29; (with_reducible refine (spec_ArePieces.calls k _ _ t640 t636 false _ ?side1 ?side2 A19.out).mono ?_); (case side1 => exact (zC ((Kd.R_reads' HO642.out).2.2))); (case side2 => exact (Kd.R_reads' HO642.out).2.1); rintro e w29 ⟨rfl, hb⟩; have n0_ := zM (Kd.R_below (zR HO635.out) hb); have n1_ := zM (Kd.R_below (zR HO642.out) hb); have n2_ := zM (blk_below (g := gb639) (o := .cells #[.int .i64 t637, .string t638] 44 (0, 0)) (zP BK639.out) hb); have n3_ := zM (below_step (zB1 GE639.out HB.out) hb); clear HO635; clear HO642; clear BK639; clear HB; have HO635 := n0_; have HO642 := n1_; have BK639 := n2_; have HB := n3_; clear n0_ n1_ n2_ n3_; (try clear hb); (try clear hb2); (try clear hk); (try clear hi)))
       go_meet
       case rel => exact ⟨_, (true), zS, H', ⟨by first | omega | exact Nat.le_refl _⟩, ⟨(zRm HO635.out (fun _ hk => ⟨hk.2, hk.1.2⟩))⟩, ⟨(zRm HO642.out (fun _ hk => ⟨hk.1.2, hk.2⟩))⟩, ⟨(zP BK639.out)⟩, ⟨(zB1 GE639.out HB.out)⟩⟩
     ·rw [if_neg c18] at H
      have c18b0 : (t644.toList == t638.toList) = false := beq_eq_false_iff_ne.mpr c18
      have c18b1 : (t644.toList != t638.toList) = true := bne_iff_ne.mpr c18
      (first | rw [c18b0] | (simp only [i64_w, i32_w]; rw [c18b0]) | skip)
      have H' := zM H
      clear H
      have hcz30_0 : w16.cell? ⟨gb639, 0, none⟩ = some (.int .i64 t637) := (blk_cell BK639.out 0).trans rfl
      have hcz30_1 : w16.cell? ⟨gb639, 1, none⟩ = some (.string t638) := (blk_cell BK639.out 1).trans rfl
      have hfz30_0 := blk_frozen BK639.out 0
      have hfz30_1 := blk_frozen BK639.out 1
      go_wp2
      go_meet
      case rel => exact ⟨_, (true), zS, H', ⟨by first | omega | exact Nat.le_refl _⟩, ⟨(zRm HO635.out (fun _ hk => ⟨hk.2, hk.1.2⟩))⟩, ⟨(zRm HO642.out (fun _ hk => ⟨hk.1.2, hk.2⟩))⟩, ⟨(zP BK639.out)⟩, ⟨(zB1 GE639.out HB.out)⟩⟩
    ·replace c17 := Bool.eq_false_iff.mpr c17
     subst c17
     rw [if_neg (show ¬ (false = true) by decide)] at H
     have H' := zM H
     clear H
     go_wp2
     go_meet
     case rel => exact ⟨_, (true), zS, H', ⟨by first | omega | exact Nat.le_refl _⟩, ⟨(zRm HO635.out (fun _ hk => ⟨hk.2, hk.1.2⟩))⟩, ⟨(zRm HO642.out (fun _ hk => ⟨hk.1.2, hk.2⟩))⟩, ⟨(zP BK639.out)⟩, ⟨(zB1 GE639.out HB.out)⟩⟩
   case rest =>
    clear HC8
    try clear c1
    try clear c2
    try clear p2
    try clear c3
    try clear c5
    try clear c6
    try clear p6
    try clear c17
    try clear c18
    try clear c18b0
    try clear c18b1
    try clear c20
    try clear c23
    try clear c27
    try clear c28
    try clear hcz11_0
    try clear hcz11_1
    try clear hcz14_0
    try clear hcz14_1
    try clear hcz23_0
    try clear hcz23_1
    try clear hcz28_0
    try clear hcz28_1
    try clear hcz30_0
    try clear hcz30_1
    try clear hfz11_0
    try clear hfz11_1
    try clear hfz14_0
    try clear hfz14_1
    try clear hfz23_0
    try clear hfz23_1
    try clear hfz28_0
    try clear hfz28_1
    try clear hfz30_0
    try clear hfz30_1
    obtain ⟨kq, x72_7, rfl, HA, HJ7, HO_3, HO_6, BK639, HB⟩ := hcut
    cases kq with
    | zero => exact absurd HA.out (by simp [laws_FnPieces.j0])
    | succ kj7 =>
     have H := HA.out
     clear HA
     simp only [laws_FnPieces.j0] at H
     by_cases c31 : x72_7 = true
     ·subst c31
      rw [if_pos rfl] at H
      obtain rfl := Option.some.inj H
      go_wp2
      go_ret
      exact ⟨zE, (zB1 GE639.out HB.out)⟩
     ·replace c31 := Bool.eq_false_iff.mpr c31
      subst c31
      rw [if_neg (show ¬ (false = true) by decide)] at H
      have H' := zM H
      clear H
      go_wp2
      go_loopg [10] kj7 (fun kq v10 w' => ∃ (x10_2 : Int), v10 = .int .i64 x10_2 ∧ Aside0 (laws_FnPieces.l0 kq t633 t636 t640 x10_2 t637 t638 = some r) ∧ Aside0 (kq ≤ kj7) ∧ Aside0 (Kd.R k44 44 w' w.heap.size (fun k_ => some k_ ≠ ((.slice Ao15 t640.length co15) : Value).ownBlock ∧ k_ ≠ gb639) (.slice Ao12 t633.length co12) t633) ∧ Aside0 (Kd.R k44 44 w' w.heap.size (fun k_ => some k_ ≠ ((.slice Ao12 t633.length co12) : Value).ownBlock ∧ k_ ≠ gb639) (.slice Ao15 t640.length co15) t640) ∧ Aside0 (w'.heap[gb639]? = some (.cells #[.int .i64 t637, .string t638] 44 (0, 0))) ∧ Aside0 (Below w.heap.size w w'))
      case atStart => exact ⟨(0), zS, H', ⟨Nat.le_refl _⟩, ⟨(zR HO_3.out)⟩, ⟨(zR HO_6.out)⟩, ⟨(zP BK639.out)⟩, ⟨(zB1 GE639.out HB.out)⟩⟩
      case round =>
       clear H'
       try clear c1
       try clear c2
       try clear p2
       try clear c3
       try clear c5
       try clear c6
       try clear p6
       try clear c17
       try clear c18
       try clear c18b0
       try clear c18b1
       try clear c20
       try clear c23
       try clear c27
       try clear c28
       try clear c31
       try clear hcz11_0
       try clear hcz11_1
       try clear hcz14_0
       try clear hcz14_1
       try clear hcz23_0
       try clear hcz23_1
       try clear hcz28_0
       try clear hcz28_1
       try clear hcz30_0
       try clear hcz30_1
       try clear hfz11_0
       try clear hfz11_1
       try clear hfz14_0
       try clear hfz14_1
       try clear hfz23_0
       try clear hfz23_1
       try clear hfz28_0
       try clear hfz28_1
       try clear hfz30_0
       try clear hfz30_1
       try clear p2
       try clear p6
       obtain ⟨x10_2, rfl, HA, HK2, HO_3, HO_6, BK639, HB⟩ := hrel
       cases gk with
       | zero => exact absurd HA.out (by simp [laws_FnPieces.l0])
       | succ k2 =>
        have H := HA.out
        clear HA
        simp only [laws_FnPieces.l0] at H
        by_cases c32 : x10_2 < (t633.length : Int)
        ·rw [if_pos c32] at H
         have c32b0 : decide (x10_2 < (t633.length : Int)) = true := decide_eq_true c32
         clear c32
         by_cases c33 : 0 ≤ x10_2
         ·rw [if_pos c33] at H
          have c33b0 : decide (0 ≤ x10_2) = true := decide_eq_true c33
          clear c33
          replace H := Option.bind_eq_some_iff.mp H
          obtain ⟨⟨t654, t655⟩, A340, H⟩ := H
          try dsimp only at H
          have A34 := zM A340
          clear A340
          by_cases c35 : t655 = true
          ·subst c35
           rw [if_pos rfl] at H
           by_cases c36 : t654.toList = ((rd_T44 t633 x10_2).f1).toList
           ·rw [if_pos c36] at H
            have c36b0 : (t654.toList == ((rd_T44 t633 x10_2).f1).toList) = true := beq_iff_eq.mpr c36
            have c36b1 : (t654.toList != ((rd_T44 t633 x10_2).f1).toList) = false := bne_eq_false_iff_eq.mpr c36
            clear c36
            have H' := zM H
            clear H
            try go_wp2
            have n0_ := zM (Kd.R_drew HO_3.out)
            have n1_ := zM (Kd.R_drew HO_6.out)
            have n2_ := zM (blk_drew BK639.out)
            have n3_ := zM (below_drew1 HB.out)
            clear HO_3
            clear HO_6
            clear BK639
            clear HB
            have HO_3 := n0_
            have HO_6 := n1_
            have BK639 := n2_
            have HB := n3_
            clear n0_ n1_ n2_ n3_
            have p651 : 0 ≤ (x10_2 : Int) := zD
            have q651 : x10_2 < (t633.length : Int) := zD
            obtain ⟨ad651, e651, hx651_0, hx651_1⟩ := at_T44 (Kd.R_reads' HO_3.out).2.2 x10_2 p651 q651
            cases e651
            replace p651 := eq_true p651
            replace q651 := eq_true q651
            have p652 : 0 ≤ (x10_2 : Int) := zD
            have q652 : x10_2 < (t633.length : Int) := zD
            obtain ⟨ad652, e652, hx652_0, hx652_1⟩ := at_T44 (Kd.R_reads' HO_3.out).2.2 x10_2 p652 q652
            obtain rfl : ad651 = ad652 := (by injection e652)
            replace p652 := eq_true p652
            replace q652 := eq_true q652
            have p653 : 0 ≤ (x10_2 : Int) := zD
            have q653 : x10_2 < (t633.length : Int) := zD
            obtain ⟨ad653, e653, hx653_0, hx653_1⟩ := at_T44 (Kd.R_reads' HO_3.out).2.2 x10_2 p653 q653
            obtain rfl : ad651 = ad653 := (by injection e653)
            replace p653 := eq_true p653
            replace q653 := eq_true q653
            refine start_ (n := 25) (S := fun w' => w'.cell? (ad651.add ((x10_2).toNat * 2)) = some (.int .i64 ((rd_T44 t633 x10_2).f0)) ∧ w'.cell? ⟨(ad651.add ((x10_2).toNat * 2)).block, (ad651.add ((x10_2).toNat * 2)).off + 1, none⟩ = some (.string ((rd_T44 t633 x10_2).f1)) ∧ w'.cell? (ad651.add ((x10_2).toNat * 2)) = some (.int .i64 ((rd_T44 t633 x10_2).f0)) ∧ w'.cell? ⟨(ad651.add ((x10_2).toNat * 2)).block, (ad651.add ((x10_2).toNat * 2)).off + 1, none⟩ = some (.string ((rd_T44 t633 x10_2).f1)) ∧ w'.cell? (ad651.add ((x10_2).toNat * 2)) = some (.int .i64 ((rd_T44 t633 x10_2).f0)) ∧ w'.cell? ⟨(ad651.add ((x10_2).toNat * 2)).block, (ad651.add ((x10_2).toNat * 2)).off + 1, none⟩ = some (.string ((rd_T44 t633 x10_2).f1))) (ds := []) (ba 25 0).toArray (by kernel_rfl) rfl rfl ⟨hx651_0, hx651_1, hx652_0, hx652_1, hx653_0, hx653_1⟩ (fun hHeld => ?_); refine with_tabW laws_FnPieces.tab13 laws_FnPieces.bits13 (fun HT_ HW_ => ?_)
            generalize wr.drew = w37 at HO_3 HO_6 BK639 HB hx651_0 hx651_1 hx652_0 hx652_1 hx653_0 hx653_1 hHeld ⊢
            refine zq 0 (some 80) (ba 25 1).toArray HT_ ?_
            refine zq 1 (some 81) (ba 25 3).toArray HT_ ?_
            refine zq 2 (some 82) (ba 25 7).toArray HT_ ?_
            refine zq 3 (some 83) (ba 25 15).toArray HT_ ?_
            refine zq 4 (some 84) (ba 25 31).toArray HT_ ?_
            refine zq 6 (some 86) (ba 25 95).toArray HT_ ?_
            refine zq 7 (some 87) (ba 25 223).toArray HT_ ?_
            refine zq 8 (some 88) (ba 25 479).toArray HT_ ?_
            refine zq 9 (some 89) (ba 25 991).toArray HT_ ?_
            refine zq 11 (some 91) (ba 25 3039).toArray HT_ ?_
            refine zq 12 (some 92) (ba 25 7135).toArray HT_ ?_
            refine zq 13 (some 93) (ba 25 15327).toArray HT_ ?_
            refine zq 14 (some 94) (ba 25 31711).toArray HT_ ?_
            refine zt6 5 (some 85) (ba 25 31743).toArray HT_ HW_ hHeld ?_
            refine zt6 10 (some 90) (ba 25 32767).toArray HT_ HW_ hHeld ?_
            refine zt6 15 (some 95) (ba 25 65535).toArray HT_ HW_ hHeld ?_
            refine zq 16 (some 96) (ba 25 131071).toArray HT_ ?_
            refine zq 17 (some 97) (ba 25 262143).toArray HT_ ?_
            refine zq 18 (some 98) (ba 25 524287).toArray HT_ ?_
            refine one_ (i := 19) (N := some 99) (ba 25 1048575).toArray rfl rfl (one_of HT_.out (by kernel_rfl)) (by decide) (fun K hK => ?_)
            refine goes_ Try.func28 (by kernel_rfl) rfl #[.slice Ao15 t640.length co15, .agg #[.int .i64 ((rd_T44 t633 x10_2).f0), .int .i64 (wrap64 (((rd_T44 t633 x10_2).f0) + (((rd_T44 t633 x10_2).f1).size : Int)))]] (by rfl) rfl rfl (by (try simp only [List.map_toArray, List.map_cons, List.map_nil]); first | done | rfl | (simp only [List.length_drop, List.length_take]; rfl)) ?_
            with_reducible refine (impl_ReadPieces.calls k2 _ _ t640 ((rd_T44 t633 x10_2).f0) (wrap64 (((rd_T44 t633 x10_2).f0) + (((rd_T44 t633 x10_2).f1).size : Int))) t654 true _ ?side1 ?side2 A34.out).mono ?_
            (case side1 => exact (zC ((Kd.R_reads' HO_6.out).2.2)))
            (case side2 => exact (Kd.R_reads' HO_6.out).2.1)
            rintro e w38 ⟨rfl, hb⟩
            have HS0_ := (hb.cell (World.block_lt_of_cell? _ _ (hHeld.1))).trans (hHeld.1)
            have HS1_ := (hb.cell (World.block_lt_of_cell? _ _ (hHeld.2.1))).trans (hHeld.2.1)
            have HS2_ := (hb.cell (World.block_lt_of_cell? _ _ (hHeld.2.2.1))).trans (hHeld.2.2.1)
            have HS3_ := (hb.cell (World.block_lt_of_cell? _ _ (hHeld.2.2.2.1))).trans (hHeld.2.2.2.1)
            have HS4_ := (hb.cell (World.block_lt_of_cell? _ _ (hHeld.2.2.2.2.1))).trans (hHeld.2.2.2.2.1)
            have HS5_ := (hb.cell (World.block_lt_of_cell? _ _ (hHeld.2.2.2.2.2))).trans (hHeld.2.2.2.2.2)
            refine ⟨_, rfl, ?_⟩
            have n0_ := zM (Kd.R_below (zR HO_3.out) hb)
            have n1_ := zM (Kd.R_below (zR HO_6.out) hb)
            have n2_ := zM (blk_below (g := gb639) (o := .cells #[.int .i64 t637, .string t638] 44 (0, 0)) (zP BK639.out) hb)
            have n3_ := zM (below_step (zB1 GE639.out HB.out) hb)
            clear HO_3
            clear HO_6
            clear BK639
            clear HB
            have HO_3 := n0_
            have HO_6 := n1_
            have BK639 := n2_
            have HB := n3_
            clear n0_ n1_ n2_ n3_
            (try clear hb)
            (try clear hb2)
            (try clear hk)
            (try clear hi)
            refine hK.out _ _ ⟨HS0_, HS1_, HS2_, HS3_, HS4_, HS5_⟩ (fun hHeld => ?_)
            clear hK K
            refine norm_ (a' := ?_) ?_ ?_
            rotate_left
            ·show Act.put _ (some 99) _ = _
             simp only [Act.put, List.setIfInBounds_toArray, List.set_cons_zero, List.set_cons_succ, i64_w, i32_w]
             rfl
            refine zq 20 (some 79) (ba 25 2097151).toArray HT_ ?_
            refine zq 21 (some 100) (ba 25 4194303).toArray HT_ ?_
            refine zq 22 (some 101) (ba 25 8388607).toArray HT_ ?_
            refine zq 23 (some 11) (ba 25 16777215).toArray HT_ ?_
            refine zq 24 (some 12) (ba 25 33554431).toArray HT_ ?_
            refine done_ (done_of HT_.out (by kernel_rfl)) ?_
            have p656 : 0 ≤ (x10_2 : Int) := zD
            have q656 : x10_2 < (t633.length : Int) := zD
            obtain ⟨ad656, e656, hx656_0, hx656_1⟩ := at_T44 (Kd.R_reads' HO_3.out).2.2 x10_2 p656 q656
            obtain rfl : ad651 = ad656 := (by injection e656)
            replace p656 := eq_true p656
            replace q656 := eq_true q656
            try go_wp2
            go_roundg k2
            case measure => have := HJ7.out; have := HK2.out; omega
            case rel => exact ⟨(wrap64 (x10_2 + 1)), zS, H', ⟨by have := HJ7.out; have := HK2.out; omega⟩, ⟨(zR HO_3.out)⟩, ⟨(zR HO_6.out)⟩, ⟨(zP BK639.out)⟩, ⟨(zB1 GE639.out HB.out)⟩⟩
           ·rw [if_neg c36] at H
            have c36b0 : (t654.toList == ((rd_T44 t633 x10_2).f1).toList) = false := beq_eq_false_iff_ne.mpr c36
            have c36b1 : (t654.toList != ((rd_T44 t633 x10_2).f1).toList) = true := bne_iff_ne.mpr c36
            obtain rfl := Option.some.inj H
            try go_wp2
            have n0_ := zM (Kd.R_drew HO_3.out)
            have n1_ := zM (Kd.R_drew HO_6.out)
            have n2_ := zM (blk_drew BK639.out)
            have n3_ := zM (below_drew1 HB.out)
            clear HO_3
            clear HO_6
            clear BK639
            clear HB
            have HO_3 := n0_
            have HO_6 := n1_
            have BK639 := n2_
            have HB := n3_
            clear n0_ n1_ n2_ n3_
            have p651 : 0 ≤ (x10_2 : Int) := zD
            have q651 : x10_2 < (t633.length : Int) := zD
            obtain ⟨ad651, e651, hx651_0, hx651_1⟩ := at_T44 (Kd.R_reads' HO_3.out).2.2 x10_2 p651 q651
            cases e651
            replace p651 := eq_true p651
            replace q651 := eq_true q651
            have p652 : 0 ≤ (x10_2 : Int) := zD
            have q652 : x10_2 < (t633.length : Int) := zD
            obtain ⟨ad652, e652, hx652_0, hx652_1⟩ := at_T44 (Kd.R_reads' HO_3.out).2.2 x10_2 p652 q652
            obtain rfl : ad651 = ad652 := (by injection e652)
            replace p652 := eq_true p652
            replace q652 := eq_true q652
            have p653 : 0 ≤ (x10_2 : Int) := zD
            have q653 : x10_2 < (t633.length : Int) := zD
            obtain ⟨ad653, e653, hx653_0, hx653_1⟩ := at_T44 (Kd.R_reads' HO_3.out).2.2 x10_2 p653 q653
            obtain rfl : ad651 = ad653 := (by injection e653)
            replace p653 := eq_true p653
            replace q653 := eq_true q653
            refine start_ (n := 25) (S := fun w' => w'.cell? (ad651.add ((x10_2).toNat * 2)) = some (.int .i64 ((rd_T44 t633 x10_2).f0)) ∧ w'.cell? ⟨(ad651.add ((x10_2).toNat * 2)).block, (ad651.add ((x10_2).toNat * 2)).off + 1, none⟩ = some (.string ((rd_T44 t633 x10_2).f1)) ∧ w'.cell? (ad651.add ((x10_2).toNat * 2)) = some (.int .i64 ((rd_T44 t633 x10_2).f0)) ∧ w'.cell? ⟨(ad651.add ((x10_2).toNat * 2)).block, (ad651.add ((x10_2).toNat * 2)).off + 1, none⟩ = some (.string ((rd_T44 t633 x10_2).f1)) ∧ w'.cell? (ad651.add ((x10_2).toNat * 2)) = some (.int .i64 ((rd_T44 t633 x10_2).f0)) ∧ w'.cell? ⟨(ad651.add ((x10_2).toNat * 2)).block, (ad651.add ((x10_2).toNat * 2)).off + 1, none⟩ = some (.string ((rd_T44 t633 x10_2).f1))) (ds := []) (ba 25 0).toArray (by kernel_rfl) rfl rfl ⟨hx651_0, hx651_1, hx652_0, hx652_1, hx653_0, hx653_1⟩ (fun hHeld => ?_); refine with_tabW laws_FnPieces.tab13 laws_FnPieces.bits13 (fun HT_ HW_ => ?_)
            generalize wr.drew = w39 at HO_3 HO_6 BK639 HB hx651_0 hx651_1 hx652_0 hx652_1 hx653_0 hx653_1 hHeld ⊢
            refine zq 0 (some 80) (ba 25 1).toArray HT_ ?_
            refine zq 1 (some 81) (ba 25 3).toArray HT_ ?_
            refine zq 2 (some 82) (ba 25 7).toArray HT_ ?_
            refine zq 3 (some 83) (ba 25 15).toArray HT_ ?_
            refine zq 4 (some 84) (ba 25 31).toArray HT_ ?_
            refine zq 6 (some 86) (ba 25 95).toArray HT_ ?_
            refine zq 7 (some 87) (ba 25 223).toArray HT_ ?_
            refine zq 8 (some 88) (ba 25 479).toArray HT_ ?_
            refine zq 9 (some 89) (ba 25 991).toArray HT_ ?_
            refine zq 11 (some 91) (ba 25 3039).toArray HT_ ?_
            refine zq 12 (some 92) (ba 25 7135).toArray HT_ ?_
            refine zq 13 (some 93) (ba 25 15327).toArray HT_ ?_
            refine zq 14 (some 94) (ba 25 31711).toArray HT_ ?_
            refine zt6 5 (some 85) (ba 25 31743).toArray HT_ HW_ hHeld ?_
            refine zt6 10 (some 90) (ba 25 32767).toArray HT_ HW_ hHeld ?_
            refine zt6 15 (some 95) (ba 25 65535).toArray HT_ HW_ hHeld ?_
            refine zq 16 (some 96) (ba 25 131071).toArray HT_ ?_
            refine zq 17 (some 97) (ba 25 262143).toArray HT_ ?_
            refine zq 18 (some 98) (ba 25 524287).toArray HT_ ?_
            refine one_ (i := 19) (N := some 99) (ba 25 1048575).toArray rfl rfl (one_of HT_.out (by kernel_rfl)) (by decide) (fun K hK => ?_)
            refine goes_ Try.func28 (by kernel_rfl) rfl #[.slice Ao15 t640.length co15, .agg #[.int .i64 ((rd_T44 t633 x10_2).f0), .int .i64 (wrap64 (((rd_T44 t633 x10_2).f0) + (((rd_T44 t633 x10_2).f1).size : Int)))]] (by rfl) rfl rfl (by (try simp only [List.map_toArray, List.map_cons, List.map_nil]); first | done | rfl | (simp only [List.length_drop, List.length_take]; rfl)) ?_
            with_reducible refine (impl_ReadPieces.calls k2 _ _ t640 ((rd_T44 t633 x10_2).f0) (wrap64 (((rd_T44 t633 x10_2).f0) + (((rd_T44 t633 x10_2).f1).size : Int))) t654 true _ ?side1 ?side2 A34.out).mono ?_
            (case side1 => exact (zC ((Kd.R_reads' HO_6.out).2.2)))
            (case side2 => exact (Kd.R_reads' HO_6.out).2.1)
            rintro e w40 ⟨rfl, hb⟩
            have HS0_ := (hb.cell (World.block_lt_of_cell? _ _ (hHeld.1))).trans (hHeld.1)
            have HS1_ := (hb.cell (World.block_lt_of_cell? _ _ (hHeld.2.1))).trans (hHeld.2.1)
            have HS2_ := (hb.cell (World.block_lt_of_cell? _ _ (hHeld.2.2.1))).trans (hHeld.2.2.1)
            have HS3_ := (hb.cell (World.block_lt_of_cell? _ _ (hHeld.2.2.2.1))).trans (hHeld.2.2.2.1)
            have HS4_ := (hb.cell (World.block_lt_of_cell? _ _ (hHeld.2.2.2.2.1))).trans (hHeld.2.2.2.2.1)
            have HS5_ := (hb.cell (World.block_lt_of_cell? _ _ (hHeld.2.2.2.2.2))).trans (hHeld.2.2.2.2.2)
            refine ⟨_, rfl, ?_⟩
            have n0_ := zM (Kd.R_below (zR HO_3.out) hb)
            have n1_ := zM (Kd.R_below (zR HO_6.out) hb)
            have n2_ := zM (blk_below (g := gb639) (o := .cells #[.int .i64 t637, .string t638] 44 (0, 0)) (zP BK639.out) hb)
            have n3_ := zM (below_step (zB1 GE639.out HB.out) hb)
            clear HO_3
            clear HO_6
            clear BK639
            clear HB
            have HO_3 := n0_
            have HO_6 := n1_
            have BK639 := n2_
            have HB := n3_
            clear n0_ n1_ n2_ n3_
            (try clear hb)
            (try clear hb2)
            (try clear hk)
            (try clear hi)
            refine hK.out _ _ ⟨HS0_, HS1_, HS2_, HS3_, HS4_, HS5_⟩ (fun hHeld => ?_)
            clear hK K
            refine norm_ (a' := ?_) ?_ ?_
            rotate_left
            ·show Act.put _ (some 99) _ = _
             simp only [Act.put, List.setIfInBounds_toArray, List.set_cons_zero, List.set_cons_succ, i64_w, i32_w]
             rfl
            refine zq 20 (some 79) (ba 25 2097151).toArray HT_ ?_
            refine zq 21 (some 100) (ba 25 4194303).toArray HT_ ?_
            refine zq 22 (some 101) (ba 25 8388607).toArray HT_ ?_
            refine zq 23 (some 11) (ba 25 16777215).toArray HT_ ?_
            refine zq 24 (some 12) (ba 25 33554431).toArray HT_ ?_
            refine done_ (done_of HT_.out (by kernel_rfl)) ?_
            have p656 : 0 ≤ (x10_2 : Int) := zD
            have q656 : x10_2 < (t633.length : Int) := zD
            obtain ⟨ad656, e656, hx656_0, hx656_1⟩ := at_T44 (Kd.R_reads' HO_3.out).2.2 x10_2 p656 q656
            obtain rfl : ad651 = ad656 := (by injection e656)
            replace p656 := eq_true p656
            replace q656 := eq_true q656
            try go_wp2
            go_ret
            exact ⟨zE, (zB1 GE639.out HB.out)⟩
          ·replace c35 := Bool.eq_false_iff.mpr c35
           subst c35
           rw [if_neg (show ¬ (false = true) by decide)] at H
           obtain rfl := Option.some.inj H
           try go_wp2
           have n0_ := zM (Kd.R_drew HO_3.out)
           have n1_ := zM (Kd.R_drew HO_6.out)
           have n2_ := zM (blk_drew BK639.out)
           have n3_ := zM (below_drew1 HB.out)
           clear HO_3
           clear HO_6
           clear BK639
           clear HB
           have HO_3 := n0_
           have HO_6 := n1_
           have BK639 := n2_
           have HB := n3_
           clear n0_ n1_ n2_ n3_
           have p651 : 0 ≤ (x10_2 : Int) := zD
           have q651 : x10_2 < (t633.length : Int) := zD
           obtain ⟨ad651, e651, hx651_0, hx651_1⟩ := at_T44 (Kd.R_reads' HO_3.out).2.2 x10_2 p651 q651
           cases e651
           replace p651 := eq_true p651
           replace q651 := eq_true q651
           have p652 : 0 ≤ (x10_2 : Int) := zD
           have q652 : x10_2 < (t633.length : Int) := zD
           obtain ⟨ad652, e652, hx652_0, hx652_1⟩ := at_T44 (Kd.R_reads' HO_3.out).2.2 x10_2 p652 q652
           obtain rfl : ad651 = ad652 := (by injection e652)
           replace p652 := eq_true p652
           replace q652 := eq_true q652
           have p653 : 0 ≤ (x10_2 : Int) := zD
           have q653 : x10_2 < (t633.length : Int) := zD
           obtain ⟨ad653, e653, hx653_0, hx653_1⟩ := at_T44 (Kd.R_reads' HO_3.out).2.2 x10_2 p653 q653
           obtain rfl : ad651 = ad653 := (by injection e653)
           replace p653 := eq_true p653
           replace q653 := eq_true q653
           refine start_ (n := 25) (S := fun w' => w'.cell? (ad651.add ((x10_2).toNat * 2)) = some (.int .i64 ((rd_T44 t633 x10_2).f0)) ∧ w'.cell? ⟨(ad651.add ((x10_2).toNat * 2)).block, (ad651.add ((x10_2).toNat * 2)).off + 1, none⟩ = some (.string ((rd_T44 t633 x10_2).f1)) ∧ w'.cell? (ad651.add ((x10_2).toNat * 2)) = some (.int .i64 ((rd_T44 t633 x10_2).f0)) ∧ w'.cell? ⟨(ad651.add ((x10_2).toNat * 2)).block, (ad651.add ((x10_2).toNat * 2)).off + 1, none⟩ = some (.string ((rd_T44 t633 x10_2).f1)) ∧ w'.cell? (ad651.add ((x10_2).toNat * 2)) = some (.int .i64 ((rd_T44 t633 x10_2).f0)) ∧ w'.cell? ⟨(ad651.add ((x10_2).toNat * 2)).block, (ad651.add ((x10_2).toNat * 2)).off + 1, none⟩ = some (.string ((rd_T44 t633 x10_2).f1))) (ds := []) (ba 25 0).toArray (by kernel_rfl) rfl rfl ⟨hx651_0, hx651_1, hx652_0, hx652_1, hx653_0, hx653_1⟩ (fun hHeld => ?_); refine with_tabW laws_FnPieces.tab13 laws_FnPieces.bits13 (fun HT_ HW_ => ?_)
           generalize wr.drew = w41 at HO_3 HO_6 BK639 HB hx651_0 hx651_1 hx652_0 hx652_1 hx653_0 hx653_1 hHeld ⊢
           refine zq 0 (some 80) (ba 25 1).toArray HT_ ?_
           refine zq 1 (some 81) (ba 25 3).toArray HT_ ?_
           refine zq 2 (some 82) (ba 25 7).toArray HT_ ?_
           refine zq 3 (some 83) (ba 25 15).toArray HT_ ?_
           refine zq 4 (some 84) (ba 25 31).toArray HT_ ?_
           refine zq 6 (some 86) (ba 25 95).toArray HT_ ?_
           refine zq 7 (some 87) (ba 25 223).toArray HT_ ?_
           refine zq 8 (some 88) (ba 25 479).toArray HT_ ?_
           refine zq 9 (some 89) (ba 25 991).toArray HT_ ?_
           refine zq 11 (some 91) (ba 25 3039).toArray HT_ ?_
           refine zq 12 (some 92) (ba 25 7135).toArray HT_ ?_
           refine zq 13 (some 93) (ba 25 15327).toArray HT_ ?_
           refine zq 14 (some 94) (ba 25 31711).toArray HT_ ?_
           refine zt6 5 (some 85) (ba 25 31743).toArray HT_ HW_ hHeld ?_
           refine zt6 10 (some 90) (ba 25 32767).toArray HT_ HW_ hHeld ?_
           refine zt6 15 (some 95) (ba 25 65535).toArray HT_ HW_ hHeld ?_
           refine zq 16 (some 96) (ba 25 131071).toArray HT_ ?_
           refine zq 17 (some 97) (ba 25 262143).toArray HT_ ?_
           refine zq 18 (some 98) (ba 25 524287).toArray HT_ ?_
           refine one_ (i := 19) (N := some 99) (ba 25 1048575).toArray rfl rfl (one_of HT_.out (by kernel_rfl)) (by decide) (fun K hK => ?_)
           refine goes_ Try.func28 (by kernel_rfl) rfl #[.slice Ao15 t640.length co15, .agg #[.int .i64 ((rd_T44 t633 x10_2).f0), .int .i64 (wrap64 (((rd_T44 t633 x10_2).f0) + (((rd_T44 t633 x10_2).f1).size : Int)))]] (by rfl) rfl rfl (by (try simp only [List.map_toArray, List.map_cons, List.map_nil]); first | done | rfl | (simp only [List.length_drop, List.length_take]; rfl)) ?_
           with_reducible refine (impl_ReadPieces.calls k2 _ _ t640 ((rd_T44 t633 x10_2).f0) (wrap64 (((rd_T44 t633 x10_2).f0) + (((rd_T44 t633 x10_2).f1).size : Int))) t654 false _ ?side1 ?side2 A34.out).mono ?_
           (case side1 => exact (zC ((Kd.R_reads' HO_6.out).2.2)))
           (case side2 => exact (Kd.R_reads' HO_6.out).2.1)
           rintro e w42 ⟨rfl, hb⟩
           have HS0_ := (hb.cell (World.block_lt_of_cell? _ _ (hHeld.1))).trans (hHeld.1)
           have HS1_ := (hb.cell (World.block_lt_of_cell? _ _ (hHeld.2.1))).trans (hHeld.2.1)
           have HS2_ := (hb.cell (World.block_lt_of_cell? _ _ (hHeld.2.2.1))).trans (hHeld.2.2.1)
           have HS3_ := (hb.cell (World.block_lt_of_cell? _ _ (hHeld.2.2.2.1))).trans (hHeld.2.2.2.1)
           have HS4_ := (hb.cell (World.block_lt_of_cell? _ _ (hHeld.2.2.2.2.1))).trans (hHeld.2.2.2.2.1)
           have HS5_ := (hb.cell (World.block_lt_of_cell? _ _ (hHeld.2.2.2.2.2))).trans (hHeld.2.2.2.2.2)
           refine ⟨_, rfl, ?_⟩
           have n0_ := zM (Kd.R_below (zR HO_3.out) hb)
           have n1_ := zM (Kd.R_below (zR HO_6.out) hb)
           have n2_ := zM (blk_below (g := gb639) (o := .cells #[.int .i64 t637, .string t638] 44 (0, 0)) (zP BK639.out) hb)
           have n3_ := zM (below_step (zB1 GE639.out HB.out) hb)
           clear HO_3
           clear HO_6
           clear BK639
           clear HB
           have HO_3 := n0_
           have HO_6 := n1_
           have BK639 := n2_
           have HB := n3_
           clear n0_ n1_ n2_ n3_
           (try clear hb)
           (try clear hb2)
           (try clear hk)
           (try clear hi)
           refine hK.out _ _ ⟨HS0_, HS1_, HS2_, HS3_, HS4_, HS5_⟩ (fun hHeld => ?_)
           clear hK K
           refine norm_ (a' := ?_) ?_ ?_
           rotate_left
           ·show Act.put _ (some 99) _ = _
            simp only [Act.put, List.setIfInBounds_toArray, List.set_cons_zero, List.set_cons_succ, i64_w, i32_w]
            rfl
           refine zq 20 (some 79) (ba 25 2097151).toArray HT_ ?_
           refine zq 21 (some 100) (ba 25 4194303).toArray HT_ ?_
           refine zq 22 (some 101) (ba 25 8388607).toArray HT_ ?_
           refine zq 23 (some 11) (ba 25 16777215).toArray HT_ ?_
           refine zq 24 (some 12) (ba 25 33554431).toArray HT_ ?_
           refine done_ (done_of HT_.out (by kernel_rfl)) ?_
           try go_wp2
           go_ret
           exact ⟨zE, (zB1 GE639.out HB.out)⟩
         ·rw [if_neg c33] at H
          exact absurd H (by simp)
        ·rw [if_neg c32] at H
         have c32b0 : decide (x10_2 < (t633.length : Int)) = false := decide_eq_false c32
         clear c32
         replace H := Option.bind_eq_some_iff.mp H
         obtain ⟨⟨t657, t660⟩, A430, H⟩ := H
         try dsimp only at H
         have A43 := zM A430
         clear A430
         have HC44 := zM H
         clear H
         have hcz45_0 : wr.cell? ⟨gb639, 0, none⟩ = some (.int .i64 t637) := (blk_cell BK639.out 0).trans rfl
         have hcz45_1 : wr.cell? ⟨gb639, 1, none⟩ = some (.string t638) := (blk_cell BK639.out 1).trans rfl
         have hfz45_0 := blk_frozen BK639.out 0
         have hfz45_1 := blk_frozen BK639.out 1
         go_upto_block 2 with (first | ((with_reducible refine gate_callee (f := 23) rfl ?_); refine zG (some 116) Try.func23 #[.slice none 0 0, .int .i64 t636, .agg #[.int .i64 t637, .string t638]] ?_; (refine (impl_AddPiece.calls k2 _ _ ([] : List (S44)) t636 t637 t638 t657 t660 _ ?side1 ?side2 A43.out).mono ?_); (case side1 => exact Kd.C_nil _ _); (case side2 => exact Nat.le_refl _); rintro e w46 ⟨v658, rfl, ho0, hb⟩; refine ⟨_, rfl, ?_⟩; have n0_ := zM (Kd.R_elder' (zR HO_3.out) (Kd.R_base ho0) hb); have n1_ := zM (Kd.R_elder' (zR HO_6.out) (Kd.R_base ho0) hb); have n2_ := zM (Kd.R_lower (Kd.R_newB (Kd.R_new' (Kd.R_new' ho0 (Kd.R_lt (zR HO_3.out))) (Kd.R_lt (zR HO_6.out))) (g := gb639) (o := .cells #[.int .i64 t637, .string t638] 44 (0, 0)) (zP BK639.out)) (below_size (zB1 GE639.out HB.out))); have n3_ := zM (blk_below (g := gb639) (o := .cells #[.int .i64 t637, .string t638] 44 (0, 0)) (zP BK639.out) hb); have n4_ := zM (below_step (zB1 GE639.out HB.out) hb); clear HO_3; clear HO_6; clear BK639; clear HB; have HO_3 := n0_; have HO_6 := n1_; have HO659 := n2_; have BK639 := n3_; have HB := n4_; clear n0_ n1_ n2_ n3_ n4_; (try clear hb); (try clear hb2); (try clear hk); (try clear hi); (try clear ho0)))
         (try simp only [Act.put, List.setIfInBounds_toArray, List.set_cons_zero, List.set_cons_succ])
         go_cut [13, 14] (fun v13 v14 wc => ∃ (kq : Nat) (x13_43 : List (S44)) (x14_43 : Bool), v14 = .bool x14_43 ∧ Aside0 (laws_FnPieces.j3 kq t636 t640 x13_43 x14_43 = some r) ∧ Aside0 (kq ≤ k2) ∧ Aside0 (Kd.R k44 44 wc w.heap.size (fun k_ => some k_ ≠ (v13 : Value).ownBlock ∧ k_ ≠ gb639) (.slice Ao15 t640.length co15) t640) ∧ Aside0 (Kd.R k44 44 wc w.heap.size (fun k_ => some k_ ≠ ((.slice Ao15 t640.length co15) : Value).ownBlock ∧ k_ ≠ gb639) v13 x13_43) ∧ Aside0 (wc.heap[gb639]? = some (.cells #[.int .i64 t637, .string t638] 44 (0, 0))) ∧ Aside0 (Below w.heap.size w wc))
         case first =>
          have H := HC44.out
          clear HC44
          have H' := zM H
          clear H
          go_wp2
          go_loopg [13, 14, 15] k2 (fun kq v13 v14 v15 w' => ∃ (x13_3 : List (S44)) (x14_3 : Bool) (x15_3 : Int), v14 = .bool x14_3 ∧ v15 = .int .i64 x15_3 ∧ Aside0 (laws_FnPieces.l1 kq t633 t636 t640 x13_3 x14_3 x15_3 = some r) ∧ Aside0 (kq ≤ k2) ∧ Aside0 (Kd.R k44 44 w' w.heap.size (fun k_ => some k_ ≠ ((.slice Ao15 t640.length co15) : Value).ownBlock ∧ some k_ ≠ (v13 : Value).ownBlock ∧ k_ ≠ gb639) (.slice Ao12 t633.length co12) t633) ∧ Aside0 (Kd.R k44 44 w' w.heap.size (fun k_ => some k_ ≠ ((.slice Ao12 t633.length co12) : Value).ownBlock ∧ some k_ ≠ (v13 : Value).ownBlock ∧ k_ ≠ gb639) (.slice Ao15 t640.length co15) t640) ∧ Aside0 (Kd.R k44 44 w' w.heap.size (fun k_ => some k_ ≠ ((.slice Ao12 t633.length co12) : Value).ownBlock ∧ some k_ ≠ ((.slice Ao15 t640.length co15) : Value).ownBlock ∧ k_ ≠ gb639) v13 x13_3) ∧ Aside0 (w'.heap[gb639]? = some (.cells #[.int .i64 t637, .string t638] 44 (0, 0))) ∧ Aside0 (Below w.heap.size w w'))
          case atStart => exact ⟨(t657), (t660), (0), zS, zS, H', ⟨Nat.le_refl _⟩, ⟨(zRm HO_3.out (fun _ hk => ⟨hk.1.1, ⟨hk.2, hk.1.2⟩⟩))⟩, ⟨(zRm HO_6.out (fun _ hk => ⟨hk.1.1, ⟨hk.2, hk.1.2⟩⟩))⟩, ⟨(zRm HO659.out (fun _ hk => ⟨hk.1.1.2, ⟨hk.1.2, hk.2⟩⟩))⟩, ⟨(zP BK639.out)⟩, ⟨(zB1 GE639.out HB.out)⟩⟩
          case round =>
           clear H'
           try clear c2
           try clear p2
           try clear c3
           try clear p6
           try clear q6
           try clear hx6
           try clear c23
           try clear c28
           try clear c32
           try clear c32b0
           try clear c33
           try clear c35
           try clear c36
           try clear c36b0
           try clear c36b1
           try clear hcz45_0
           try clear hcz45_1
           try clear hfz45_0
           try clear hfz45_1
           try clear hx651_0
           try clear hx651_1
           try clear hx652_0
           try clear hx652_1
           try clear hx653_0
           try clear hx653_1
           try clear hx656_0
           try clear hx656_1
           try clear p651
           try clear p652
           try clear p653
           try clear p656
           try clear q651
           try clear q652
           try clear q653
           try clear q656
           obtain ⟨x13_3, x14_3, x15_3, rfl, rfl, HA, HK3, HO_3, HO_6, HO_13, BK639, HB⟩ := hrel
           cases gk with
           | zero => exact absurd HA.out (by simp [laws_FnPieces.l1])
           | succ k3 =>
            have H := HA.out
            clear HA
            simp only [laws_FnPieces.l1] at H
            by_cases c47 : x15_3 < (t633.length : Int)
            ·rw [if_pos c47] at H
             have c47b0 : decide (x15_3 < (t633.length : Int)) = true := decide_eq_true c47
             clear c47
             (first | rw [c47b0] | (simp only [i64_w, i32_w]; rw [c47b0]) | skip)
             by_cases c48 : x14_3 = true
             ·subst c48
              rw [if_pos rfl] at H
              by_cases c49 : 0 ≤ x15_3
              ·rw [if_pos c49] at H
               have c49b0 : decide (0 ≤ x15_3) = true := decide_eq_true c49
               clear c49
               replace H := Option.bind_eq_some_iff.mp H
               obtain ⟨⟨t662, t665⟩, A500, H⟩ := H
               try dsimp only at H
               have A50 := zM A500
               clear A500
               have H' := zM H
               clear H
               have p661 : 0 ≤ (x15_3 : Int) := zD
               have q661 : x15_3 < (t633.length : Int) := zD
               obtain ⟨ad661, e661, hx661_0, hx661_1⟩ := at_T44 (Kd.R_reads' HO_3.out).2.2 x15_3 p661 q661
               cases e661
               replace p661 := eq_true p661
               replace q661 := eq_true q661
               obtain ⟨Ao51, co51, eo51⟩ := Kd.R_slice HO_13.out
               subst eo51
               go_wp2_with (first | ((with_reducible refine gate_callee (f := 23) rfl ?_); refine zG (some 135) Try.func23 #[.slice Ao51 x13_3.length co51, .int .i64 t636, .agg #[.int .i64 ((rd_T44 t633 x15_3).f0), .string ((rd_T44 t633 x15_3).f1)]] ?_; (with_reducible refine (impl_AddPiece.calls k3 _ _ x13_3 t636 ((rd_T44 t633 x15_3).f0) ((rd_T44 t633 x15_3).f1) t662 t665 _ ?side1 ?side2 A50.out).mono ?_); (case side1 => exact (zC ((Kd.R_reads' HO_13.out).2.2))); (case side2 => exact (Kd.R_reads' HO_13.out).2.1); rintro e w52 ⟨v663, rfl, ho0, hb⟩; refine ⟨_, rfl, ?_⟩; have n0_ := zM (Kd.R_elder' (zR HO_3.out) (Kd.R_base ho0) hb); have n1_ := zM (Kd.R_elder' (zR HO_6.out) (Kd.R_base ho0) hb); have n2_ := zM (Kd.R_elder' (zR HO_13.out) (Kd.R_base ho0) hb); have n3_ := zM (Kd.R_lower (Kd.R_newB (Kd.R_new' (Kd.R_new' (Kd.R_new' ho0 (Kd.R_lt (zR HO_3.out))) (Kd.R_lt (zR HO_6.out))) (Kd.R_lt (zR HO_13.out))) (g := gb639) (o := .cells #[.int .i64 t637, .string t638] 44 (0, 0)) (zP BK639.out)) (below_size (zB1 GE639.out HB.out))); have n4_ := zM (blk_below (g := gb639) (o := .cells #[.int .i64 t637, .string t638] 44 (0, 0)) (zP BK639.out) hb); have n5_ := zM (below_step (zB1 GE639.out HB.out) hb); clear HO_3; clear HO_6; clear HO_13; clear BK639; clear HB; have HO_3 := n0_; have HO_6 := n1_; have HO_13 := n2_; have HO664 := n3_; have BK639 := n4_; have HB := n5_; clear n0_ n1_ n2_ n3_ n4_ n5_; (try clear hb); (try clear hb2); (try clear hk); (try clear hi); (try clear ho0)))
               go_roundg k3
               case measure => have := HJ7.out; have := HK2.out; have := HK3.out; omega
               case rel => exact ⟨(t662), (t665), (wrap64 (x15_3 + 1)), zS, zS, H', ⟨by have := HJ7.out; have := HK2.out; have := HK3.out; omega⟩, ⟨(zRm HO_3.out (fun _ hk => ⟨hk.1.1, ⟨hk.2, hk.1.2.2⟩⟩))⟩, ⟨(zRm HO_6.out (fun _ hk => ⟨hk.1.1, ⟨hk.2, hk.1.2.2⟩⟩))⟩, ⟨(zRm HO664.out (fun _ hk => ⟨hk.1.1.1.2, ⟨hk.1.1.2, hk.2⟩⟩))⟩, ⟨(zP BK639.out)⟩, ⟨(zB1 GE639.out HB.out)⟩⟩
              ·rw [if_neg c49] at H
               exact absurd H (by simp)
             ·replace c48 := Bool.eq_false_iff.mpr c48
              subst c48
              rw [if_neg (show ¬ (false = true) by decide)] at H
              have H' := zM H
              clear H
              go_wp2
              go_meet
              case rel => exact ⟨_, (x13_3), (false), zS, H', ⟨by have := HJ7.out; have := HK2.out; have := HK3.out; first | omega | exact Nat.le_refl _⟩, ⟨(zRm HO_6.out (fun _ hk => ⟨hk.2.1, hk.2.2⟩))⟩, ⟨(zRm HO_13.out (fun _ hk => ⟨hk.2.1, hk.2.2⟩))⟩, ⟨(zP BK639.out)⟩, ⟨(zB1 GE639.out HB.out)⟩⟩
            ·rw [if_neg c47] at H
             have c47b0 : decide (x15_3 < (t633.length : Int)) = false := decide_eq_false c47
             clear c47
             (first | rw [c47b0] | (simp only [i64_w, i32_w]; rw [c47b0]) | skip)
             have H' := zM H
             clear H
             go_wp2
             go_meet
             case rel => exact ⟨_, (x13_3), (x14_3), zS, H', ⟨by have := HJ7.out; have := HK2.out; have := HK3.out; first | omega | exact Nat.le_refl _⟩, ⟨(zRm HO_6.out (fun _ hk => ⟨hk.2.1, hk.2.2⟩))⟩, ⟨(zRm HO_13.out (fun _ hk => ⟨hk.2.1, hk.2.2⟩))⟩, ⟨(zP BK639.out)⟩, ⟨(zB1 GE639.out HB.out)⟩⟩
         case rest =>
          clear HC44
          try clear c2
          try clear p2
          try clear c3
          try clear c4
          try clear p6
          try clear q6
          try clear hx6
          try clear c23
          try clear c28
          try clear c32
          try clear c32b0
          try clear c33
          try clear c35
          try clear c36
          try clear c36b0
          try clear c36b1
          try clear c47
          try clear c47b0
          try clear c48
          try clear c49
          try clear c49b0
          try clear hcz45_0
          try clear hcz45_1
          try clear hfz45_0
          try clear hfz45_1
          try clear hx651_0
          try clear hx651_1
          try clear hx652_0
          try clear hx652_1
          try clear hx653_0
          try clear hx653_1
          try clear hx656_0
          try clear hx656_1
          try clear hx661_0
          try clear hx661_1
          try clear p2
          try clear p6
          try clear p651
          try clear p652
          try clear p653
          try clear p656
          try clear p661
          try clear q6
          try clear q651
          try clear q652
          try clear q653
          try clear q656
          try clear q661
          obtain ⟨kq, x13_43, x14_43, rfl, HA, HJ43, HO_6, HO_13, BK639, HB⟩ := hcut
          cases kq with
          | zero => exact absurd HA.out (by simp [laws_FnPieces.j3])
          | succ kj43 =>
           have H := HA.out
           clear HA
           simp only [laws_FnPieces.j3] at H
           have HC53 := zM H
           clear H
           go_upto_region 21 with (fail)
           go_cut [144] (fun v144 wc => ∃ (kq : Nat) (x144_52 : Bool), v144 = .bool x144_52 ∧ Aside0 (laws_FnPieces.j4 kq t636 t640 x144_52 = some r) ∧ Aside0 (kq ≤ kj43) ∧ Aside0 (Kd.R k44 44 wc w.heap.size (fun k_ => k_ ≠ gb639) (.slice Ao15 t640.length co15) t640) ∧ Aside0 (wc.heap[gb639]? = some (.cells #[.int .i64 t637, .string t638] 44 (0, 0))) ∧ Aside0 (Below w.heap.size w wc))
           case first =>
            have H := HC53.out
            clear HC53
            by_cases c54 : x14_43 = true
            ·subst c54
             rw [if_pos rfl] at H
             replace H := Option.bind_eq_some_iff.mp H
             obtain ⟨t666, A550, H⟩ := H
             try dsimp only at H
             have A55 := zM A550
             clear A550
             have H' := zM H
             clear H
             obtain ⟨Ao56, co56, eo56⟩ := Kd.R_slice HO_13.out
             subst eo56
             go_wp2_with (first | (go_at_call 31; (with_reducible refine (laws_samePieces.calls kj43 _ _ x13_43 _ _ t640 t666 _ ?side1 ?side2 ?side3 ?side4 A55.out).mono ?_); (case side1 => exact (zC ((Kd.R_reads' HO_13.out).2.2))); (case side2 => exact (Kd.R_reads' HO_13.out).2.1); (case side3 => exact (zC ((Kd.R_reads' HO_6.out).2.2))); (case side4 => exact (Kd.R_reads' HO_6.out).2.1); rintro e w' ⟨rfl, ⟨nd, rfl⟩⟩))
             go_meet
             case rel => exact ⟨_, (!t666), zS, H', ⟨by have := HJ7.out; have := HK2.out; have := HJ43.out; first | omega | exact Nat.le_refl _⟩, ⟨(zRm HO_6.out (fun _ hk => hk.2))⟩, ⟨(zP BK639.out)⟩, ⟨(zB1 GE639.out HB.out)⟩⟩
            ·replace c54 := Bool.eq_false_iff.mpr c54
             subst c54
             rw [if_neg (show ¬ (false = true) by decide)] at H
             have H' := zM H
             clear H
             go_wp2
             go_meet
             case rel => exact ⟨_, (false), zS, H', ⟨by have := HJ7.out; have := HK2.out; have := HJ43.out; first | omega | exact Nat.le_refl _⟩, ⟨(zRm HO_6.out (fun _ hk => hk.2))⟩, ⟨(zP BK639.out)⟩, ⟨(zB1 GE639.out HB.out)⟩⟩
           case rest =>
            clear HC53
            try clear c2
            try clear p2
            try clear c3
            try clear c4
            try clear c5
            try clear p6
            try clear q6
            try clear hx6
            try clear c23
            try clear c28
            try clear c32
            try clear c32b0
            try clear c33
            try clear c35
            try clear c36
            try clear c36b0
            try clear c36b1
            try clear c47
            try clear c47b0
            try clear c48
            try clear c49
            try clear c49b0
            try clear c54
            try clear hcz45_0
            try clear hcz45_1
            try clear hfz45_0
            try clear hfz45_1
            try clear hx651_0
            try clear hx651_1
            try clear hx652_0
            try clear hx652_1
            try clear hx653_0
            try clear hx653_1
            try clear hx656_0
            try clear hx656_1
            try clear hx661_0
            try clear hx661_1
            try clear p2
            try clear p6
            try clear p651
            try clear p652
            try clear p653
            try clear p656
            try clear p661
            try clear q6
            try clear q651
            try clear q652
            try clear q653
            try clear q656
            try clear q661
            obtain ⟨kq, x144_52, rfl, HA, HJ52, HO_6, BK639, HB⟩ := hcut
            cases kq with
            | zero => exact absurd HA.out (by simp [laws_FnPieces.j4])
            | succ kj52 =>
             have H := HA.out
             clear HA
             simp only [laws_FnPieces.j4] at H
             by_cases c57 : x144_52 = true
             ·subst c57
              rw [if_pos rfl] at H
              obtain rfl := Option.some.inj H
              go_wp2
              go_ret
              exact ⟨zE, (zB1 GE639.out HB.out)⟩
             ·replace c57 := Bool.eq_false_iff.mpr c57
              subst c57
              rw [if_neg (show ¬ (false = true) by decide)] at H
              replace H := Option.bind_eq_some_iff.mp H
              obtain ⟨t667, A580, H⟩ := H
              try dsimp only at H
              have A58 := zM A580
              clear A580
              replace H := Option.bind_eq_some_iff.mp H
              obtain ⟨t668, A590, H⟩ := H
              try dsimp only at H
              have A59 := zM A590
              clear A590
              replace H := Option.bind_eq_some_iff.mp H
              obtain ⟨t671, A600, H⟩ := H
              try dsimp only at H
              have A60 := zM A600
              clear A600
              obtain rfl := Option.some.inj H
              go_wp2_with (first | ((with_reducible refine gate_callee (f := 32) rfl ?_); refine zG (some 147) Try.func32 #[.slice Ao15 t640.length co15, .int .i64 t636] ?_; (with_reducible refine (impl_IsWhole.calls kj52 _ _ t640 t636 t667 _ ?side1 ?side2 A58.out).mono ?_); (case side1 => exact (zC ((Kd.R_reads' HO_6.out).2.2))); (case side2 => exact (Kd.R_reads' HO_6.out).2.1); rintro e w61 ⟨rfl, hb⟩; refine ⟨_, rfl, ?_⟩; have n0_ := zM (Kd.R_below (zR HO_6.out) hb); have n1_ := zM (blk_below (g := gb639) (o := .cells #[.int .i64 t637, .string t638] 44 (0, 0)) (zP BK639.out) hb); have n2_ := zM (below_step (zB1 GE639.out HB.out) hb); clear HO_6; clear BK639; clear HB; have HO_6 := n0_; have BK639 := n1_; have HB := n2_; clear n0_ n1_ n2_; (try clear hb); (try clear hb2); (try clear hk); (try clear hi)) | ((with_reducible refine gate_callee (f := 30) rfl ?_); refine zG (some 149) Try.func30 #[.slice Ao15 t640.length co15] ?_; (with_reducible refine (impl_SpansOf.calls kj52 _ _ t640 t668 _ ?side1 ?side2 A59.out).mono ?_); (case side1 => exact (zC ((Kd.R_reads' HO_6.out).2.2))); (case side2 => exact (Kd.R_reads' HO_6.out).2.1); rintro e w62 ⟨v669, rfl, ho0, hb⟩; refine ⟨_, rfl, ?_⟩; have n0_ := zM (Kd.R_below (zR HO_6.out) hb); have n1_ := zM (Kd.R_lower ho0 (below_size (zB1 GE639.out HB.out))); have n2_ := zM (blk_below (g := gb639) (o := .cells #[.int .i64 t637, .string t638] 44 (0, 0)) (zP BK639.out) hb); have n3_ := zM (below_step (zB1 GE639.out HB.out) hb); clear HO_6; clear BK639; clear HB; have HO_6 := n0_; have HO670 := n1_; have BK639 := n2_; have HB := n3_; clear n0_ n1_ n2_ n3_; (try clear hb); (try clear hb2); (try clear hk); (try clear hi); (try clear ho0); obtain ⟨Ao63, co63, eo63⟩ := Kd.R_slice HO670.out; subst eo63) | ((with_reducible refine gate_callee (f := 17) rfl ?_); refine zG (some 150) Try.func17 #[.slice Ao63 t668.length co63] ?_; (with_reducible refine (impl_SpanSize.calls kj52 _ _ t668 t671 _ ?side1 ?side2 A60.out).mono ?_); (case side1 => exact (zC ((Kd.R_reads' HO670.out).2.2))); (case side2 => exact (Kd.R_reads' HO670.out).2.1); rintro e w64 ⟨rfl, hb⟩; refine ⟨_, rfl, ?_⟩; have n0_ := zM (Kd.R_below (zR HO_6.out) hb); have n1_ := zM (Kd.R_below (zR HO670.out) hb); have n2_ := zM (blk_below (g := gb639) (o := .cells #[.int .i64 t637, .string t638] 44 (0, 0)) (zP BK639.out) hb); have n3_ := zM (below_step (zB1 GE639.out HB.out) hb); clear HO_6; clear HO670; clear BK639; clear HB; have HO_6 := n0_; have HO670 := n1_; have BK639 := n2_; have HB := n3_; clear n0_ n1_ n2_ n3_; (try clear hb); (try clear hb2); (try clear hk); (try clear hi)))
              go_ret
              exact ⟨zE, (zB1 GE639.out HB.out)⟩
  ·replace c6 := Bool.eq_false_iff.mpr c6
   subst c6
   rw [if_neg (show ¬ (false = true) by decide)] at H
   obtain rfl := Option.some.inj H
   go_enter Try.func5, Try.ntmps5
   go_wp2_with (first | ((with_reducible refine gate_callee (f := 6) rfl ?_); refine zG (some 17) Try.func6 #[.slice A0 l0.length c0] ?_; (with_reducible refine (laws_big.calls _ _ l0 false _ ?side1 ?side2 A2.out).mono ?_); (case side1 => exact (zC HR0.out)); (case side2 => exact HC0.out); rintro e w' ⟨rfl, ⟨nd, rfl⟩⟩; refine ⟨_, rfl, ?_⟩) | ((with_reducible refine gate_callee (f := 27) rfl ?_); refine zG (some 20) Try.func27 #[.slice A0 l0.length c0] ?_; (with_reducible refine (spec_DrawAddPiece.calls k _ _ l0 t633 t636 t637 t638 _ ?side1 ?side2 A4.out).mono ?_); (case side1 => exact (zC HR0.out)); (case side2 => exact HC0.out); rintro e w65 ⟨v634, rfl, ho0, hb⟩; refine ⟨_, rfl, ?_⟩; have n0_ := zM (Kd.R_lower ho0 (below_size (zB HB.out))); have n1_ := zM (below_step (zB HB.out) hb); clear HB; have HO635 := n0_; have HB := n1_; clear n0_ n1_; (try clear hb); (try clear hb2); (try clear hk); (try clear hi); (try clear ho0)) | ((with_reducible refine gate_dst (N := 5) rfl ?_); refine box_event ?hg (N := 5) ?hd (cs := #[.int .i64 0, .string (⟨#[]⟩ : ByteArray)]) (t := 44) ?hr ?_; (case hd => rfl); (case hg => rfl); (case hr => first | (go_simp; done) | (go_simp; rfl)); intro gb639 hg w66 hbox hb; have n0_ := zM (Kd.R_below (Kd.R_elderB (zR HO635.out) gb639 (Nat.le_of_eq hg.symm)) hb); have n1_ := zM (below_step (zB HB.out) hb); have n2_ := zM (hbox); have n3_ := zM ((by rw [hg]; exact (below_size (zB HB.out)) : w.heap.size ≤ gb639)); have n4_ := zM ((by rw [hg]; exact (below_size (zB HB.out)) : w.heap.size ≤ gb639)); clear HO635; clear HB; have HO635 := n0_; have HB := n1_; have BK639 := n2_; have GW639 := n3_; have GE639 := n4_; clear n0_ n1_ n2_ n3_ n4_; clear hb hbox hg; have hcz67_0 : w66.cell? ⟨gb639, 0, none⟩ = some (.int .i64 0) := (blk_cell BK639.out 0).trans rfl; have hcz67_1 : w66.cell? ⟨gb639, 1, none⟩ = some (.string (⟨#[]⟩ : ByteArray)) := (blk_cell BK639.out 1).trans rfl; have hfz67_0 := blk_frozen BK639.out 0; have hfz67_1 := blk_frozen BK639.out 1; obtain ⟨Ao68, co68, eo68⟩ := Kd.R_slice HO635.out; subst eo68) | ((with_reducible refine gate_callee (f := 23) rfl ?_); refine zG (some 28) Try.func23 #[.slice Ao68 t633.length co68, .int .i64 t636, .agg #[.int .i64 t637, .string t638]] ?_; (with_reducible refine (impl_AddPiece.calls k _ _ t633 t636 t637 t638 t640 false _ ?side1 ?side2 A5.out).mono ?_); (case side1 => refine (Kd.R_reads' (e := 44) (base := w.heap.size) (ok := fun k_ => (True ∧ k_ ≠ gb639)) (n := t633.length) (c := co68) ?_).2.2; exact (by (with_reducible repeat (first | apply Kd.R_alloc | apply Kd.R_drewN | apply Kd.R_drew)); exact (Kd.R_mono (Kd.R_far (p := ⟨gb639, 1, none⟩) (Kd.R_far (p := ⟨gb639, 0, none⟩) (Kd.R_mono HO635.out (fun k_ hk => (⟨hk, hk.2⟩ : _ ∧ k_ ≠ gb639))) (fun _ hk => hk.2) (.int .i64 t637)) (fun _ hk => hk.2) (.string t638)) (fun _ h_ => h_.1)))); (case side2 => exact (Kd.R_reads' HO635.out).2.1); rintro e w69 ⟨v641, rfl, ho0, hb⟩; refine ⟨_, rfl, ?_⟩; have n0_ := zM (Kd.R_elder' (by (with_reducible repeat (first | apply Kd.R_alloc | apply Kd.R_drewN | apply Kd.R_drew)); exact (Kd.R_mono (Kd.R_far (p := ⟨gb639, 1, none⟩) (Kd.R_far (p := ⟨gb639, 0, none⟩) (Kd.R_mono HO635.out (fun k_ hk => (⟨hk, hk.2⟩ : _ ∧ k_ ≠ gb639))) (fun _ hk => hk.2) (.int .i64 t637)) (fun _ hk => hk.2) (.string t638)) (fun _ h_ => h_.1))) (Kd.R_base ho0) hb); have n1_ := zM (Kd.R_lower (Kd.R_newB (Kd.R_new' ho0 (Kd.R_lt (by (with_reducible repeat (first | apply Kd.R_alloc | apply Kd.R_drewN | apply Kd.R_drew)); exact (Kd.R_mono (Kd.R_far (p := ⟨gb639, 1, none⟩) (Kd.R_far (p := ⟨gb639, 0, none⟩) (Kd.R_mono HO635.out (fun k_ hk => (⟨hk, hk.2⟩ : _ ∧ k_ ≠ gb639))) (fun _ hk => hk.2) (.int .i64 t637)) (fun _ hk => hk.2) (.string t638)) (fun _ h_ => h_.1))))) (g := gb639) (o := .cells #[.int .i64 t637, .string t638] 44 (0, 0)) (by (with_reducible repeat (first | refine blk_drewN ?_ _ | refine blk_drew ?_ | refine blk_alloc ?_ _)); refine blk_put (cs := #[.int .i64 t637, .string (⟨#[]⟩ : ByteArray)]) ?_ 1 _ rfl; (with_reducible repeat (first | refine blk_drewN ?_ _ | refine blk_drew ?_ | refine blk_alloc ?_ _)); refine blk_put (cs := #[.int .i64 0, .string (⟨#[]⟩ : ByteArray)]) ?_ 0 _ rfl; (with_reducible repeat (first | refine blk_drewN ?_ _ | refine blk_drew ?_ | refine blk_alloc ?_ _)); exact BK639.out)) (below_size (zB1 GE639.out HB.out))); have n2_ := zM (blk_below (g := gb639) (o := .cells #[.int .i64 t637, .string t638] 44 (0, 0)) (by (with_reducible repeat (first | refine blk_drewN ?_ _ | refine blk_drew ?_ | refine blk_alloc ?_ _)); refine blk_put (cs := #[.int .i64 t637, .string (⟨#[]⟩ : ByteArray)]) ?_ 1 _ rfl; (with_reducible repeat (first | refine blk_drewN ?_ _ | refine blk_drew ?_ | refine blk_alloc ?_ _)); refine blk_put (cs := #[.int .i64 0, .string (⟨#[]⟩ : ByteArray)]) ?_ 0 _ rfl; (with_reducible repeat (first | refine blk_drewN ?_ _ | refine blk_drew ?_ | refine blk_alloc ?_ _)); exact BK639.out) hb); have n3_ := zM (below_step (zB1 GE639.out HB.out) hb); clear HO635; clear BK639; clear HB; have HO635 := n0_; have HO642 := n1_; have BK639 := n2_; have HB := n3_; clear n0_ n1_ n2_ n3_; (try clear hb); (try clear hb2); (try clear hk); (try clear hi); (try clear ho0); obtain ⟨Ao70, co70, eo70⟩ := Kd.R_slice HO642.out; subst eo70))
   go_ret
   exact ⟨zE, (zB1 GE639.out HB.out)⟩

/-- THE ONE PURE STATEMENT of laws_FnPieces: yours. -/
def laws_FnPieces.Pure : Prop := ∀ (l0 : List Int), l0.length ≤ maxLen → l0.length * 1 ≤ 140737488351232 → (∀ x ∈ l0, (Lit.int .u8 x).wf = true) → ∃ k, laws_FnPieces.f k l0 = some true
theorem laws_FnPieces.walk (P : laws_FnPieces.Pure) (a0 : Option Addr) (len0 cap0 : Nat) (z0 : List Int) (w : World) (w0 : (a0 = none ∧ len0 = 0 ∧ cap0 = 0 ∧ z0 = []) ∨ ∃ x, a0 = some x ∧ len0 ≤ cap0 ∧ cap0 ≤ maxLen ∧ z0.length = cap0 ∧ (∀ i, i < z0.length → w.cell? (x.add i) = some (.int .u8 (z0.getD i 0))) ∧ ∀ n ∈ z0, (Lit.int .u8 n).wf = true) (y0 : len0 * 1 ≤ 140737488351232) :
  Calls Try.prog 5 #[.slice a0 len0 cap0] w fun e w' => e = .returned (.bool true) ∧ Below w.heap.size w w' := by
 obtain ⟨l0, rfl, hr0, hm0, hw0, hc0⟩ := ReadsInt.ofRowC w0
 obtain ⟨k, h⟩ := P l0 hm0 y0 hw0
 refine (laws_FnPieces.calls k _ _ l0 true w (Kd.C_of_reads (d := (0 : Int)) (h1 := fun _ => rfl) hr0) hc0 h).mono ?_
 rintro e w' ⟨rfl, hd⟩
 exact ⟨rfl, hd⟩

end Go.Proofs.Yteahdfibipalkaa.G

namespace Go.Proofs.Yteahdfibipalkaa.Pure
open Go.RowKit Go.Proofs.Yteahdfibipalkaa.G Go.Proofs.YteahdfibipalkaaW.PrintWords Go.Proofs.YteahdfibipalkaaW.PrintLast

theorem Ev.pos {α : Type} {c : Prop} [Decidable c] {a b : Nat → Option α} {r : α} (h : c) (e : Ev a r) : Ev (fun k => if c then a k else b k) r := Ev.congr (fun _ => if_pos h) e
theorem Ev.neg {α : Type} {c : Prop} [Decidable c] {a b : Nat → Option α} {r : α} (h : ¬ c) (e : Ev b r) : Ev (fun k => if c then a k else b k) r := Ev.congr (fun _ => if_neg h) e
theorem Ev.eq {α : Type} {a : Nat → Option α} {r s : α} (h : r = s) (e : Ev a r) : Ev a s := h ▸ e
theorem Ev.ret {α : Type} {r s : α} (h : r = s) : Ev (fun _ => some r) s := ⟨0, fun _ _ => by rw [h]⟩
theorem Ev.retBind {α β : Type} {x : α} {f : Nat → α → Option β} {r : β} (e : Ev (fun k => f k x) r) : Ev (fun k => (some x).bind (f k)) r := e
theorem wrap64_id {x : Int} (h0 : -9223372036854775808 ≤ x) (h1 : x ≤ 9223372036854775807) : wrap64 x = x := by unfold wrap64; omega

def ok1 (x : S26) : Bool := decide (0 ≤ x.f0) && decide (x.f0 < x.f1) && decide (x.f1 ≤ 1000000000000)
def isSetP : S26 → List S26 → Bool
  | _, [] => true
  | p, x :: t => ok1 x && decide (p.f1 < x.f0) && isSetP x t
def isSet : List S26 → Bool
  | [] => true
  | x :: t => ok1 x && isSetP x t
theorem rd_mid (pre : List S26) (x : S26) (t : List S26) : rd_T26 (pre ++ x :: t) (pre.length : Int) = x := by simp [rd_T26]
theorem rd_prev (pre : List S26) (p : S26) (t : List S26) : rd_T26 ((pre ++ [p]) ++ t) (pre.length : Int) = p := by simp [rd_T26]

theorem spec_set_loop (rest : List S26) : ∀ (pre : List S26) (p : S26), (pre ++ [p] ++ rest).length ≤ 9223372036854775806 →
    Ev (fun k => spec_IsSpanSet.l0 k (pre ++ [p] ++ rest) ((pre.length + 1 : Nat) : Int)) (isSetP p rest) := by
  induction rest with
  | nil =>
    intro pre p hl
    apply Ev.step
    · intro k; rw [spec_IsSpanSet.l0]
    refine Ev.neg (by simp) (Ev.ret rfl)
  | cons x t ih =>
    intro pre p hl
    simp only [List.length_append, List.length_cons, List.length_nil] at hl
    have hw : wrap64 (((pre.length + 1 : Nat) : Int) - 1) = (pre.length : Int) := by rw [wrap64_id] <;> omega
    have hw2 : wrap64 (((pre.length + 1 : Nat) : Int) + 1) = (((pre ++ [p]).length + 1 : Nat) : Int) := by rw [wrap64_id] <;> simp <;> omega
    have e1 : rd_T26 (pre ++ [p] ++ x :: t) ((pre.length + 1 : Nat) : Int) = x := by
      have := rd_mid (pre ++ [p]) x t
      simpa using this
    have e2 : rd_T26 (pre ++ [p] ++ x :: t) (pre.length : Int) = p := rd_prev pre p (x :: t)
    have hi := ih (pre ++ [p]) x (by simp only [List.length_append, List.length_cons, List.length_nil]; omega)
    have hr : pre ++ [p] ++ [x] ++ t = pre ++ [p] ++ x :: t := by simp
    rw [hr] at hi
    apply Ev.step
    · intro k; rw [spec_IsSpanSet.l0]
    simp only [e1, hw, e2, hw2]
    refine Ev.pos (by simp only [List.length_append, List.length_cons, List.length_nil]; omega) (Ev.pos (by omega) ?_)
    by_cases h1 : x.f0 < 0
    · exact Ev.pos h1 (Ev.ret (by simp [isSetP, ok1]; omega))
    refine Ev.neg h1 ?_
    by_cases h2 : x.f0 ≥ x.f1
    · exact Ev.pos h2 (Ev.ret (by simp [isSetP, ok1]; omega))
    refine Ev.neg h2 ?_
    by_cases h3 : x.f1 > 1000000000000
    · exact Ev.pos h3 (Ev.ret (by simp [isSetP, ok1]; omega))
    refine Ev.neg h3 ?_
    refine Ev.pos (by omega) (Ev.pos (by omega) (Ev.pos (by simp only [List.length_append, List.length_cons, List.length_nil]; omega) ?_))
    by_cases h4 : p.f1 ≥ x.f0
    · exact Ev.pos h4 (Ev.ret (by simp [isSetP, ok1]; omega))
    refine Ev.neg h4 ?_
    refine Ev.eq ?_ hi
    simp [isSetP, ok1]
    omega

end Go.Proofs.Yteahdfibipalkaa.Pure

namespace Go.Proofs.Yteahdfibipalkaa.Pure
open Go.RowKit Go.Proofs.Yteahdfibipalkaa.G Go.Proofs.YteahdfibipalkaaW.PrintWords Go.Proofs.YteahdfibipalkaaW.PrintLast

def valid (x : S26) : Prop := 0 ≤ x.f0 ∧ x.f0 < x.f1 ∧ x.f1 ≤ 1000000000000
theorem ok1_iff (x : S26) : ok1 x = true ↔ valid x := by simp [ok1, valid, and_assoc]

def SetOk : List S26 → Prop
  | [] => True
  | x :: t => valid x ∧ (∀ s, s ∈ t → x.f1 < s.f0) ∧ SetOk t
theorem isSetP_iff (t : List S26) : ∀ p : S26, isSetP p t = true ↔ (SetOk t ∧ ∀ s, s ∈ t → p.f1 < s.f0) := by
  induction t with
  | nil => intro p; simp [isSetP, SetOk]
  | cons x t ih =>
    intro p
    rw [isSetP, Bool.and_eq_true, Bool.and_eq_true, ok1_iff, ih x, decide_eq_true_eq]
    constructor
    · rintro ⟨⟨h1, h2⟩, h3, h4⟩
      refine ⟨⟨h1, h4, h3⟩, fun s hs => ?_⟩
      rcases List.mem_cons.1 hs with rfl | hs
      · exact h2
      · have := h4 s hs; have := h1.2.1; omega
    · rintro ⟨⟨h1, h4, h3⟩, h2⟩
      exact ⟨⟨h1, h2 x (by simp)⟩, h3, h4⟩
theorem isSet_iff (l : List S26) : isSet l = true ↔ SetOk l := by
  cases l with
  | nil => simp [isSet, SetOk]
  | cons x t =>
    rw [isSet, Bool.and_eq_true, ok1_iff, isSetP_iff, SetOk]
    constructor
    · rintro ⟨h1, h2, h3⟩; exact ⟨h1, h3, h2⟩
    · rintro ⟨h1, h3, h2⟩; exact ⟨h1, h2, h3⟩

def addR : List S26 → Int → Int → List S26
  | [], a, b => [⟨a, b⟩]
  | s :: t, a, b => if s.f1 < a then s :: addR t a b else if s.f0 ≤ b then addR t (min a s.f0) (max b s.f1) else ⟨a, b⟩ :: s :: t
theorem addR_mem_lo (l : List S26) : ∀ (a b c : Int), (∀ s, s ∈ l → c < s.f0) → c < a → ∀ s, s ∈ addR l a b → c < s.f0 := by
  induction l with
  | nil => intro a b c _ h s hs; simp [addR] at hs; subst hs; exact h
  | cons x t ih =>
    intro a b c h1 h2 s hs
    rw [addR] at hs
    split at hs
    · rcases List.mem_cons.1 hs with rfl | hs
      · exact h1 _ (by simp)
      · exact ih a b c (fun s h => h1 s (by simp [h])) h2 s hs
    · split at hs
      · exact ih _ _ c (fun s h => h1 s (by simp [h])) (by have := h1 x (by simp); omega) s hs
      · rcases List.mem_cons.1 hs with rfl | hs
        · exact h2
        · exact h1 s hs
theorem addR_ok (l : List S26) : ∀ (a b : Int), SetOk l → 0 ≤ a → a < b → b ≤ 1000000000000 → SetOk (addR l a b) := by
  induction l with
  | nil => intro a b _ h0 h1 h2; exact ⟨⟨h0, h1, h2⟩, by simp, trivial⟩
  | cons x t ih =>
    rintro a b ⟨hx, hlt, ht⟩ h0 h1 h2
    rw [addR]
    split
    · rename_i h
      exact ⟨hx, fun s hs => addR_mem_lo t a b x.f1 hlt h s hs, ih a b ht h0 h1 h2⟩
    · split
      · have := hx.1; have := hx.2.1; have := hx.2.2
        exact ih _ _ ht (by omega) (by omega) (by omega)
      · rename_i h3 h4
        refine ⟨⟨h0, h1, h2⟩, fun s hs => ?_, hx, hlt, ht⟩
        show b < s.f0
        rcases List.mem_cons.1 hs with rfl | hs
        · omega
        · have := hlt s hs; have := hx.2.1; omega
def covB (l : List S26) (p : Int) : Prop := ∃ s, s ∈ l ∧ s.f0 ≤ p ∧ p < s.f1
theorem addR_cov (l : List S26) : ∀ (a b p : Int), SetOk l → a < b → (covB (addR l a b) p ↔ (covB l p ∨ (a ≤ p ∧ p < b))) := by
  induction l with
  | nil => intro a b p _ _; simp [addR, covB]
  | cons x t ih =>
    rintro a b p ⟨hx, hlt, ht⟩ h1
    have hc : covB (x :: t) p ↔ ((x.f0 ≤ p ∧ p < x.f1) ∨ covB t p) := by simp [covB]
    rw [addR, hc]
    split
    · have : covB (x :: addR t a b) p ↔ ((x.f0 ≤ p ∧ p < x.f1) ∨ covB (addR t a b) p) := by simp [covB]
      rw [this, ih a b p ht h1, or_assoc]
    · split
      · have := hx.2.1
        rw [ih _ _ p ht (by omega)]
        constructor
        · rintro (h | h)
          · exact .inl (.inr h)
          · by_cases hp : x.f0 ≤ p ∧ p < x.f1
            · exact .inl (.inl hp)
            · exact .inr (by omega)
        · rintro ((h | h) | h)
          · exact .inr (by omega)
          · exact .inl h
          · exact .inr (by omega)
      · have : covB (⟨a, b⟩ :: x :: t) p ↔ ((a ≤ p ∧ p < b) ∨ covB (x :: t) p) := by simp [covB]
        rw [this, hc]
        exact or_comm
def inside (l : List S26) (u v : Int) : Prop := ∃ s, s ∈ l ∧ s.f0 ≤ u ∧ v ≤ s.f1
theorem addR_self (l : List S26) : ∀ (a b u v : Int), a ≤ u → v ≤ b → inside (addR l a b) u v := by
  induction l with
  | nil => intro a b u v h1 h2; exact ⟨⟨a, b⟩, by simp [addR], h1, h2⟩
  | cons x t ih =>
    intro a b u v h1 h2
    rw [addR]
    split
    · obtain ⟨s, hs, h⟩ := ih a b u v h1 h2
      exact ⟨s, by simp [hs], h⟩
    · split
      · exact ih _ _ u v (by omega) (by omega)
      · exact ⟨⟨a, b⟩, by simp, h1, h2⟩
theorem addR_old (l : List S26) : ∀ (a b u v : Int), inside l u v → inside (addR l a b) u v := by
  induction l with
  | nil => rintro a b u v ⟨s, hs, _⟩; simp at hs
  | cons x t ih =>
    rintro a b u v ⟨s, hs, h1, h2⟩
    rw [addR]
    split
    · rcases List.mem_cons.1 hs with rfl | hs
      · exact ⟨s, by simp, h1, h2⟩
      · obtain ⟨s', hs', h'⟩ := ih a b u v ⟨s, hs, h1, h2⟩
        exact ⟨s', by simp [hs'], h'⟩
    · split
      · rcases List.mem_cons.1 hs with rfl | hs
        · exact addR_self t _ _ u v (by omega) (by omega)
        · exact ih _ _ u v ⟨s, hs, h1, h2⟩
      · exact ⟨s, by simp at hs ⊢; exact .inr hs, h1, h2⟩
def size : List S26 → Int
  | [] => 0
  | s :: t => (s.f1 - s.f0) + size t
theorem addR_size (l : List S26) : ∀ (a b : Int), SetOk l → a < b → size (addR l a b) ≤ size l + (b - a) := by
  induction l with
  | nil => intro a b _ _; simp [addR, size]
  | cons x t ih =>
    rintro a b ⟨hx, hlt, ht⟩ h1
    rw [addR]
    split
    · have := ih a b ht h1
      simp only [size]; omega
    · split
      · have hh := hx.2.1
        have := ih (min a x.f0) (max b x.f1) ht (by omega)
        simp only [size]; omega
      · simp only [size]; omega
theorem addR_length (l : List S26) : ∀ (a b : Int), (addR l a b).length ≤ l.length + 1 := by
  induction l with
  | nil => intro a b; simp [addR]
  | cons x t ih =>
    intro a b
    rw [addR]
    split
    · have := ih a b; simp; omega
    · split
      · have := ih (min a x.f0) (max b x.f1); simp; omega
      · simp
end Go.Proofs.Yteahdfibipalkaa.Pure

namespace Go.Proofs.Yteahdfibipalkaa.Pure
open Go.RowKit Go.Proofs.Yteahdfibipalkaa.G Go.Proofs.YteahdfibipalkaaW.PrintWords Go.Proofs.YteahdfibipalkaaW.PrintLast

theorem Ev.cbind {α β : Type} {o : Option α} {a : α} {f : Nat → α → Option β} {r : β} (h : o = some a) (e : Ev (fun k => f k a) r) : Ev (fun k => o.bind (f k)) r := by subst h; exact e
theorem Ev.const {α : Type} {o : Option α} {r : α} (h : o = some r) : Ev (fun _ => o) r := ⟨0, fun _ _ => h⟩
theorem bits_255 (x : Int) : 0 ≤ Go.bits .and .i64 x 255 ∧ Go.bits .and .i64 x 255 ≤ 255 := by
  have h : (BitVec.ofInt 64 x &&& BitVec.ofInt 64 255).toNat ≤ 255 := by
    rw [BitVec.toNat_and]
    exact Nat.and_le_right
  have e : Go.bits .and .i64 x 255 = ((BitVec.ofInt 64 x &&& BitVec.ofInt 64 255).toNat : Int) := by
    show IntKind.i64.wrap _ = _
    rw [IntKind.wrap_i64]
    have h' : ((BitVec.ofInt IntKind.i64.bits x &&& BitVec.ofInt IntKind.i64.bits 255).toNat) = (BitVec.ofInt 64 x &&& BitVec.ofInt 64 255).toNat := rfl
    show (((BitVec.ofInt IntKind.i64.bits x &&& BitVec.ofInt IntKind.i64.bits 255).toNat : Int) + _) % _ - _ = _
    rw [h']
    omega
  rw [e]
  omega

/-- A draw's state: the index lies in the bytes. -/
def St (b : List Int) (i : Int) : Prop := 0 ≤ i ∧ i ≤ (b.length : Int) ∧ b.length ≤ 140737488355328
theorem byte_some {b : List Int} {i : Int} (h : Int) (s : St b i) : ∃ v i' h', spec_l1Byte.f b i h = some (v, i', h') ∧ 0 ≤ v ∧ v ≤ 255 ∧ St b i' := by
  obtain ⟨s0, s1, s2⟩ := s
  unfold spec_l1Byte.f
  by_cases c : i < (b.length : Int)
  · rw [if_pos c, if_pos s0]
    refine ⟨_, _, _, rfl, (bits_255 _).1, (bits_255 _).2, ?_⟩
    rw [wrap64_id (by omega) (by omega)]
    exact ⟨by omega, by omega, s2⟩
  · rw [if_neg c]
    exact ⟨_, _, _, rfl, (bits_255 _).1, (bits_255 _).2, s0, s1, s2⟩
theorem below_some {b : List Int} {i : Int} (h n : Int) (s : St b i) (hn : 0 < n) (hn' : n ≤ 256) : ∃ v i' h', spec_l1Below.f b i h n = some (v, i', h') ∧ 0 ≤ v ∧ v < n ∧ St b i' := by
  obtain ⟨v, i', h', e, v0, v1, s'⟩ := byte_some h s
  unfold spec_l1Below.f
  rw [if_neg (by omega), if_pos hn', e, Option.bind_some, if_neg (by omega)]
  refine ⟨_, _, _, rfl, Int.tmod_nonneg _ v0, Int.tmod_lt_of_pos _ hn, s'⟩
theorem once_some {b : List Int} {i : Int} (h n : Int) (s : St b i) (hn : 0 < n) (hn' : n ≤ 256) : ∃ v i' h', spec_l1Once.f b i h n = some (v, i', h') ∧ St b i' := by
  obtain ⟨v, i', h', e, _, _, s'⟩ := below_some h n s hn hn'
  unfold spec_l1Once.f
  rw [e, Option.bind_some]
  exact ⟨_, _, _, rfl, s'⟩
theorem int_some {b : List Int} {i : Int} (h : Int) (l : List Int) (s : St b i) (hn : 0 < l.length) (hn' : l.length ≤ 256) : ∃ v i' h', spec_l1Int.f b i h l = some (v, i', h') ∧ v ∈ l ∧ St b i' := by
  obtain ⟨v, i', h', e, v0, v1, s'⟩ := below_some h (l.length : Int) s (by omega) (by omega)
  unfold spec_l1Int.f
  rw [e, Option.bind_some]
  simp only [v0, v1, if_true]
  refine ⟨_, _, _, rfl, ?_, s'⟩
  unfold rd
  have hv : v.toNat < l.length := by omega
  rw [List.getD_eq_getElem?_getD, List.getElem?_eq_getElem hv]
  exact List.getElem_mem hv
theorem new_loop (b : List Int) (_hb : b.length ≤ 140737488355328) (d : Nat) : ∀ (h i : Int), 0 ≤ i → i ≤ b.length → (b.length : Int) - i = d → ∃ h', Ev (fun k => spec_l1New.l0 k b h i) (b, 0, h') := by
  induction d with
  | zero =>
    intro h i h0 h1 hd
    refine ⟨h, ?_⟩
    apply Ev.step
    · intro k; rw [spec_l1New.l0]
    exact Ev.neg (by omega) (Ev.ret rfl)
  | succ d ih =>
    intro h i h0 h1 hd
    by_cases c : i < 4000
    · obtain ⟨h', e⟩ := ih (Go.bits .and .i64 (wrap64 ((wrap64 ((wrap64 (h * 139)) + (wrap64 (rd b i)))) + 11)) 1073741823) (i + 1) (by omega) (by omega) (by omega)
      refine ⟨h', ?_⟩
      apply Ev.step
      · intro k; rw [spec_l1New.l0]
      refine Ev.pos (by omega) (Ev.pos c (Ev.pos h0 ?_))
      rw [wrap64_id (x := i + 1) (by omega) (by omega)]
      exact e
    · refine ⟨h, ?_⟩
      apply Ev.step
      · intro k; rw [spec_l1New.l0]
      exact Ev.pos (by omega) (Ev.neg c (Ev.ret rfl))
theorem new_some (b : List Int) (hb : b.length ≤ 140737488355328) : ∃ h, Ev (fun k => spec_l1New.f k b) (b, 0, h) ∧ St b 0 := by
  obtain ⟨h', e⟩ := new_loop b hb b.length (wrap64 (271091 + (b.length : Int))) 0 (by omega) (by omega) (by omega)
  exact ⟨h', e, by omega, by omega, hb⟩
end Go.Proofs.Yteahdfibipalkaa.Pure

namespace Go.Proofs.Yteahdfibipalkaa.Pure
open Go.RowKit Go.Proofs.Yteahdfibipalkaa.G Go.Proofs.YteahdfibipalkaaW.PrintWords Go.Proofs.YteahdfibipalkaaW.PrintLast

theorem impl_set_loop (rest : List S26) : ∀ (pre : List S26) (p : S26), (pre ++ [p] ++ rest).length ≤ 9223372036854775806 →
    Ev (fun k => impl_IsSpanSet.l0 k (pre ++ [p] ++ rest) (pre ++ [p] ++ rest) ((pre ++ [p] ++ rest).length : Int) ((pre.length + 1 : Nat) : Int)) (isSetP p rest) := by
  induction rest with
  | nil =>
    intro pre p hl
    apply Ev.step
    · intro k; rw [impl_IsSpanSet.l0]
    refine Ev.neg (by simp) (Ev.ret rfl)
  | cons x t ih =>
    intro pre p hl
    have hi := ih (pre ++ [p]) x (by simp only [List.length_append, List.length_cons, List.length_nil] at hl ⊢; omega)
    have hr : pre ++ [p] ++ [x] ++ t = pre ++ [p] ++ x :: t := by simp
    rw [hr] at hi
    have hlen : ((pre ++ [p] ++ x :: t).length : Int) = pre.length + 1 + (t.length + 1) := by simp; omega
    have e1 : rd_T26 (pre ++ [p] ++ x :: t) ((pre.length + 1 : Nat) : Int) = x := by
      have := rd_mid (pre ++ [p]) x t
      simpa using this
    have e2 : rd_T26 (pre ++ [p] ++ x :: t) (pre.length : Int) = p := rd_prev pre p (x :: t)
    have hw : wrap64 (((pre.length + 1 : Nat) : Int) - 1) = (pre.length : Int) := by rw [wrap64_id] <;> omega
    have hw2 : wrap64 (((pre.length + 1 : Nat) : Int) + 1) = (((pre ++ [p]).length + 1 : Nat) : Int) := by rw [wrap64_id] <;> simp <;> omega
    generalize pre ++ [p] ++ x :: t = L at *
    apply Ev.step
    · intro k; rw [impl_IsSpanSet.l0]
    simp only [e1, hw, e2, hw2]
    refine Ev.pos (by omega) (Ev.pos (by omega) (Ev.pos (by omega) ?_))
    by_cases h1 : x.f0 < 0
    · exact Ev.pos h1 (Ev.ret (by simp [isSetP, ok1]; omega))
    refine Ev.neg h1 ?_
    by_cases h2 : x.f0 ≥ x.f1
    · exact Ev.pos h2 (Ev.ret (by simp [isSetP, ok1]; omega))
    refine Ev.neg h2 ?_
    by_cases h3 : x.f1 > 1000000000000
    · exact Ev.pos h3 (Ev.ret (by simp [isSetP, ok1]; omega))
    refine Ev.neg h3 ?_
    refine Ev.pos (by omega) (Ev.pos (by omega) (Ev.pos (by omega) ?_))
    by_cases h4 : p.f1 ≥ x.f0
    · exact Ev.pos h4 (Ev.ret (by simp [isSetP, ok1]; omega))
    refine Ev.neg h4 ?_
    refine Ev.eq ?_ hi
    simp [isSetP, ok1]
    omega
theorem spec_isSet (l : List S26) (hl : l.length ≤ 9223372036854775806) : Ev (fun k => spec_IsSpanSet.f k l) (isSet l) := by
  cases l with
  | nil =>
    apply Ev.step (f := fun _ => some true) (fun k => by simp [spec_IsSpanSet.f, spec_IsSpanSet.l0])
    exact Ev.ret rfl
  | cons x t =>
    have hi := spec_set_loop t [] x hl
    show Ev (fun k => spec_IsSpanSet.l0 k (x :: t) 0) _
    have e1 : rd_T26 (x :: t) 0 = x := rfl
    have hw : wrap64 ((0 : Int) + 1) = ((([] : List S26).length + 1 : Nat) : Int) := by rw [wrap64_id] <;> simp
    apply Ev.step
    · intro k; rw [spec_IsSpanSet.l0]
    simp only [e1, hw]
    refine Ev.pos (by simp only [List.length_cons]; omega) (Ev.pos (by omega) ?_)
    by_cases h1 : x.f0 < 0
    · exact Ev.pos h1 (Ev.ret (by simp [isSet, ok1]; omega))
    refine Ev.neg h1 ?_
    by_cases h2 : x.f0 ≥ x.f1
    · exact Ev.pos h2 (Ev.ret (by simp [isSet, ok1]; omega))
    refine Ev.neg h2 ?_
    by_cases h3 : x.f1 > 1000000000000
    · exact Ev.pos h3 (Ev.ret (by simp [isSet, ok1]; omega))
    refine Ev.neg h3 (Ev.neg (by omega) ?_)
    refine Ev.eq ?_ hi
    simp [isSet, ok1]
    omega
theorem impl_isSet (l : List S26) (hl : l.length ≤ 9223372036854775806) : Ev (fun k => impl_IsSpanSet.f k l) (isSet l) := by
  cases l with
  | nil =>
    apply Ev.step (f := fun _ => some true) (fun k => by simp [impl_IsSpanSet.f, impl_IsSpanSet.l0])
    exact Ev.ret rfl
  | cons x t =>
    have hi := impl_set_loop t [] x hl
    have hr : [] ++ [x] ++ t = x :: t := rfl
    rw [hr] at hi
    show Ev (fun k => impl_IsSpanSet.l0 k (x :: t) (x :: t) ((x :: t).length : Int) 0) _
    have e1 : rd_T26 (x :: t) 0 = x := rfl
    have hlen : ((x :: t).length : Int) = t.length + 1 := by simp
    have hw : wrap64 ((0 : Int) + 1) = ((([] : List S26).length + 1 : Nat) : Int) := by rw [wrap64_id] <;> simp
    apply Ev.step
    · intro k; rw [impl_IsSpanSet.l0]
    simp only [e1, hw]
    refine Ev.pos (by omega) (Ev.pos (by omega) (Ev.pos (by omega) ?_))
    by_cases h1 : x.f0 < 0
    · exact Ev.pos h1 (Ev.ret (by simp [isSet, ok1]; omega))
    refine Ev.neg h1 ?_
    by_cases h2 : x.f0 ≥ x.f1
    · exact Ev.pos h2 (Ev.ret (by simp [isSet, ok1]; omega))
    refine Ev.neg h2 ?_
    by_cases h3 : x.f1 > 1000000000000
    · exact Ev.pos h3 (Ev.ret (by simp [isSet, ok1]; omega))
    refine Ev.neg h3 (Ev.neg (by omega) ?_)
    refine Ev.eq ?_ hi
    simp [isSet, ok1]
    omega

def B0 : Nat := 1000000000000
/-- The second loop of AddSpan. -/
def mrg : List S26 → Int → Int → List S26
  | [], a, b => [⟨a, b⟩]
  | s :: t, a, b => if s.f0 ≤ b then mrg t (min a s.f0) (max b s.f1) else ⟨a, b⟩ :: s :: t
def addI : List S26 → Int → Int → List S26
  | [], a, b => [⟨a, b⟩]
  | s :: t, a, b => if s.f1 < a then s :: addI t a b else mrg (s :: t) a b
theorem mrg_length (l : List S26) : ∀ a b, (mrg l a b).length ≤ l.length + 1 := by
  induction l with
  | nil => intro a b; simp [mrg]
  | cons x t ih => intro a b; rw [mrg]; split; · have := ih (min a x.f0) (max b x.f1); simp; omega
                   · simp
theorem mrg_eq (l : List S26) : ∀ (a b : Int), SetOk l → (∀ s, s ∈ l → a ≤ s.f1) → mrg l a b = addR l a b := by
  induction l with
  | nil => intro a b _ _; rfl
  | cons x t ih =>
    rintro a b ⟨hx, hlt, ht⟩ h
    have h0 := h x (by simp)
    rw [mrg, addR, if_neg (show ¬ x.f1 < a by omega)]
    split
    · refine ih _ _ ht (fun s hs => ?_)
      have := h s (by simp [hs])
      omega
    · rfl
theorem SetOk.mem {l : List S26} (h : SetOk l) : ∀ s, s ∈ l → valid s := by
  induction l with
  | nil => intro s hs; simp at hs
  | cons x t ih =>
    intro s hs
    rcases List.mem_cons.1 hs with rfl | hs
    · exact h.1
    · exact ih h.2.2 s hs
theorem addI_eq (l : List S26) : ∀ (a b : Int), SetOk l → addI l a b = addR l a b := by
  induction l with
  | nil => intro a b _; rfl
  | cons x t ih =>
    rintro a b h
    have hx := h.1; have hlt := h.2.1; have ht := h.2.2
    rw [addI]
    split
    · rename_i c
      rw [addR, if_pos c, ih a b ht]
    · rename_i c
      refine mrg_eq _ _ _ h (fun s hs => ?_)
      rcases List.mem_cons.1 hs with rfl | hs
      · omega
      · have := hlt s hs; have := (ht.mem s hs).2.1; omega
theorem mn_eq (a b : Int) : mn a b = min a b := by unfold mn; split <;> omega
theorem mx_eq (a b : Int) : mx a b = max a b := by unfold mx; split <;> omega
theorem add_l1 (rest : List S26) : ∀ (pre acc : List S26) (a b : Int), (pre ++ rest).length ≤ B0 → acc.length ≤ pre.length →
    Ev (fun k => impl_AddSpan.l1 k (pre ++ rest) acc (pre.length : Int) a b) (acc ++ mrg rest a b) := by
  induction rest with
  | nil =>
    intro pre acc a b hl ha
    simp only [B0, List.length_append, List.length_nil] at hl
    apply Ev.step
    · intro k; rw [impl_AddSpan.l1]
    refine Ev.neg (by simp) (Ev.pos (by omega) (Ev.retBind (Ev.pos (by omega) (Ev.pos (by simp) (Ev.retBind (Ev.pos ?_ (Ev.ret ?_)))))))
    · simp; omega
    · simp [mrg]
  | cons x t ih =>
    intro pre acc a b hl ha
    have hi := ih (pre ++ [x]) acc (min a x.f0) (max b x.f1) (by simpa using hl) (by simp; omega)
    have hr : pre ++ [x] ++ t = pre ++ x :: t := by simp
    rw [hr] at hi
    have e1 : rd_T26 (pre ++ x :: t) (pre.length : Int) = x := rd_mid pre x t
    have e2 : (pre ++ x :: t).drop (pre.length : Int).toNat = x :: t := by simp
    simp only [B0, List.length_append, List.length_cons] at hl
    have hw : wrap64 ((pre.length : Int) + 1) = ((pre ++ [x]).length : Int) := by rw [wrap64_id (by omega) (by omega)]; simp
    apply Ev.step
    · intro k; rw [impl_AddSpan.l1]
    simp only [e1, e2, hw, mn_eq, mx_eq]
    refine Ev.pos (by simp; omega) (Ev.pos (by omega) ?_)
    by_cases c : x.f0 ≤ b
    · refine Ev.pos c ?_
      rw [mrg, if_pos c]
      exact hi
    · refine Ev.neg c (Ev.pos (by omega) (Ev.retBind (Ev.pos (by simp; omega) (Ev.retBind (Ev.pos ?_ (Ev.ret ?_))))))
      · simp; omega
      · rw [mrg, if_neg c]; simp
theorem add_l0 (rest : List S26) : ∀ (pre acc : List S26) (a b : Int), (pre ++ rest).length ≤ B0 → acc.length ≤ pre.length →
    Ev (fun k => impl_AddSpan.l0 k (pre ++ rest) acc (pre.length : Int) a b) (acc ++ addI rest a b) := by
  induction rest with
  | nil =>
    intro pre acc a b hl ha
    have h1 := add_l1 [] pre acc a b hl ha
    apply Ev.step
    · intro k; rw [impl_AddSpan.l0]
    refine Ev.neg (by simp) ?_
    apply Ev.step
    · intro k; rw [impl_AddSpan.j2]
    exact h1
  | cons x t ih =>
    intro pre acc a b hl ha
    have h1 := add_l1 (x :: t) pre acc a b hl ha
    have hi := ih (pre ++ [x]) (acc ++ [x]) a b (by simpa using hl) (by simp; omega)
    have hr : pre ++ [x] ++ t = pre ++ x :: t := by simp
    rw [hr] at hi
    have e1 : rd_T26 (pre ++ x :: t) (pre.length : Int) = x := rd_mid pre x t
    simp only [B0, List.length_append, List.length_cons] at hl
    have hw : wrap64 ((pre.length : Int) + 1) = ((pre ++ [x]).length : Int) := by rw [wrap64_id (by omega) (by omega)]; simp
    apply Ev.step
    · intro k; rw [impl_AddSpan.l0]
    simp only [e1, hw]
    refine Ev.pos (by simp; omega) (Ev.pos (by omega) ?_)
    by_cases c : x.f1 < a
    · refine Ev.pos c (Ev.pos (by omega) ?_)
      rw [addI, if_pos c]
      refine Ev.eq ?_ hi
      simp
    · refine Ev.neg c ?_
      rw [addI, if_neg c]
      apply Ev.step
      · intro k; rw [impl_AddSpan.j2]
      exact h1
def addX (l : List S26) (a b : Int) : List S26 := if isSet l = true ∧ 0 ≤ a ∧ a < b ∧ b ≤ 1000000000000 then addR l a b else l
theorem impl_add (l : List S26) (a b : Int) (hl : l.length ≤ B0) : Ev (fun k => impl_AddSpan.f k l a b) (addX l a b) := by
  have hB : B0 = 1000000000000 := rfl
  refine Ev.bind (impl_isSet l (by omega)) ?_
  have hno : (¬ (isSet l = true ∧ 0 ≤ a ∧ a < b ∧ b ≤ 1000000000000)) → Ev (fun k => impl_AddSpan.j0 k l true a b) (addX l a b) := by
    intro h
    apply Ev.step
    · intro k; rw [impl_AddSpan.j0]
    refine Ev.pos rfl ?_
    rw [addX, if_neg h]
    refine Ev.cbind (a := l) ?_ (Ev.ret rfl)
    simp only [impl_Span_38.f, Option.bind_some]
    rw [if_pos (by simp; omega)]
    simp
  by_cases c : isSet l = true
  · refine Ev.pos c ?_
    by_cases c1 : a ≥ b
    · exact Ev.pos c1 (hno (by omega))
    refine Ev.neg c1 ?_
    by_cases c2 : a < 0
    · exact Ev.pos c2 (hno (by omega))
    refine Ev.neg c2 ?_
    by_cases c3 : b > 1000000000000
    · rw [decide_eq_true c3]; exact hno (by omega)
    rw [decide_eq_false c3]
    apply Ev.step
    · intro k; rw [impl_AddSpan.j0]
    refine Ev.neg (by simp) ?_
    have := add_l0 l [] [] a b hl (by simp)
    rw [addX, if_pos ⟨c, by omega, by omega, by omega⟩, ← addI_eq l a b ((isSet_iff l).1 c)]
    exact this
  · refine Ev.neg c (hno (fun h => c h.1))
end Go.Proofs.Yteahdfibipalkaa.Pure

namespace Go.Proofs.Yteahdfibipalkaa.Pure
open Go.RowKit Go.Proofs.Yteahdfibipalkaa.G Go.Proofs.YteahdfibipalkaaW.PrintWords Go.Proofs.YteahdfibipalkaaW.PrintLast

theorem min_f (a b : Int) : spec_Min.f a b = some (min a b) := by unfold spec_Min.f; split <;> congr 1 <;> omega
theorem max_f (a b : Int) : spec_Max.f a b = some (max a b) := by unfold spec_Max.f; split <;> congr 1 <;> omega
def p2 : List S26 → Int → Int → Int × Int
  | [], a, b => (a, b)
  | s :: t, a, b => if s.f1 ≥ a ∧ s.f0 ≤ b then p2 t (min a s.f0) (max b s.f1) else p2 t a b
theorem p2_ge (l : List S26) : ∀ a b, b ≤ (p2 l a b).2 := by
  induction l with
  | nil => intro a b; simp [p2]
  | cons x t ih =>
    intro a b
    rw [p2]
    split
    · have := ih (min a x.f0) (max b x.f1); omega
    · exact ih a b
theorem p2_skip (l : List S26) : ∀ a b, (∀ s, s ∈ l → b < s.f0) → p2 l a b = (a, b) := by
  induction l with
  | nil => intro a b _; rfl
  | cons x t ih =>
    intro a b h
    have := h x (by simp)
    rw [p2, if_neg (by omega)]
    exact ih a b (fun s hs => h s (by simp [hs]))
def addS (l : List S26) (a b : Int) : List S26 := l.filter (fun s => decide (s.f1 < a)) ++ [⟨(p2 l a b).1, (p2 l a b).2⟩] ++ l.filter (fun s => decide (s.f0 > (p2 l a b).2))
theorem addS_eq (l : List S26) : ∀ a b : Int, SetOk l → a < b → addS l a b = addR l a b := by
  induction l with
  | nil => intro a b _ _; rfl
  | cons x t ih =>
    rintro a b ⟨hx, hlt, ht⟩ hab
    have hb := p2_ge t a b
    have hx1 := hx.2.1
    rw [addR]
    by_cases c : x.f1 < a
    · rw [if_pos c, ← ih a b ht hab]
      unfold addS
      rw [p2, if_neg (by omega), List.filter_cons_of_pos (by simpa using c), List.filter_cons_of_neg (by simp; omega)]
      simp
    rw [if_neg c]
    have hno : ∀ a', a' ≤ a → t.filter (fun s => decide (s.f1 < a')) = [] := by
      intro a' ha
      rw [List.filter_eq_nil_iff]
      intro s hs
      have := hlt s hs
      have := (ht.mem s hs).2.1
      simp; omega
    by_cases c2 : x.f0 ≤ b
    · rw [if_pos c2, ← ih (min a x.f0) (max b x.f1) ht (by omega)]
      have hb' := p2_ge t (min a x.f0) (max b x.f1)
      unfold addS
      rw [p2, if_pos ⟨by omega, c2⟩, List.filter_cons_of_neg (by simpa using c), List.filter_cons_of_neg (by simp; omega), hno a (by omega), hno (min a x.f0) (by omega)]
    · rw [if_neg c2]
      unfold addS
      have hall : ∀ s, s ∈ t → b < s.f0 := fun s hs => by have := hlt s hs; omega
      rw [p2, if_neg (by omega), p2_skip t a b hall, List.filter_cons_of_neg (by simpa using c), hno a (by omega)]
      simp only [List.nil_append, List.singleton_append]
      congr 1
      rw [List.filter_eq_self.2]
      intro s hs
      rcases List.mem_cons.1 hs with rfl | hs
      · simp; omega
      · have := hall s hs; simp; omega
theorem fl_le (l : List S26) (p : S26 → Bool) : (l.filter p).length ≤ l.length := List.length_filter_le p l
theorem s_l2 (rest : List S26) : ∀ (pre acc : List S26) (a b : Int), (pre ++ rest).length ≤ B0 → acc.length ≤ B0 + pre.length + 1 →
    Ev (fun k => spec_AddSpan.l2 k (pre ++ rest) acc (pre.length : Int) a b) (acc ++ rest.filter (fun s => decide (s.f0 > b))) := by
  induction rest with
  | nil =>
    intro pre acc a b hl ha
    apply Ev.step
    · intro k; rw [spec_AddSpan.l2]
    exact Ev.neg (by simp) (Ev.ret (by simp))
  | cons x t ih =>
    intro pre acc a b hl ha
    have e1 : rd_T26 (pre ++ x :: t) (pre.length : Int) = x := rd_mid pre x t
    have hr : pre ++ [x] ++ t = pre ++ x :: t := by simp
    have hi := fun acc h => ih (pre ++ [x]) acc a b (by simpa using hl) h
    rw [hr] at hi
    simp only [B0, List.length_append, List.length_cons, List.length_nil] at hl ha hi
    have hw : wrap64 ((pre.length : Int) + 1) = ((pre.length + (0 + 1) : Nat) : Int) := by rw [wrap64_id (by omega) (by omega)]; simp
    apply Ev.step
    · intro k; rw [spec_AddSpan.l2]
    simp only [e1, hw]
    refine Ev.pos (by simp; omega) (Ev.pos (by omega) ?_)
    by_cases c : x.f0 > b
    · refine Ev.pos c (Ev.pos (by omega) ?_)
      rw [List.filter_cons_of_pos (by simpa using c)]
      refine Ev.eq ?_ (hi (acc ++ [x]) (by simp; omega))
      simp
    · refine Ev.neg c ?_
      rw [List.filter_cons_of_neg (by simpa using c)]
      exact hi acc (by omega)
theorem s_l1 (L : List S26) (hL : L.length ≤ B0) (rest : List S26) : ∀ (pre acc : List S26) (a b : Int), pre ++ rest = L → acc.length ≤ B0 →
    Ev (fun k => spec_AddSpan.l1 k L acc (pre.length : Int) a b) (acc ++ [⟨(p2 rest a b).1, (p2 rest a b).2⟩] ++ L.filter (fun s => decide (s.f0 > (p2 rest a b).2))) := by
  induction rest with
  | nil =>
    intro pre acc a b hl ha
    simp only [List.append_nil] at hl
    subst hl
    have h2 := s_l2 pre [] (acc ++ [⟨a, b⟩]) a b (by simpa using hL) (by simp; omega)
    simp only [B0] at ha
    apply Ev.step
    · intro k; rw [spec_AddSpan.l1]
    refine Ev.neg (by omega) (Ev.pos (by omega) ?_)
    exact h2
  | cons x t ih =>
    intro pre acc a b hl ha
    have e1 : rd_T26 L (pre.length : Int) = x := by rw [← hl]; exact rd_mid pre x t
    have hi := fun a b => ih (pre ++ [x]) acc a b (by simpa using hl) ha
    have hll : L.length = pre.length + (t.length + 1) := by rw [← hl]; simp
    simp only [List.length_append, List.length_cons, List.length_nil] at hi
    simp only [B0] at hL ha
    have hw : wrap64 ((pre.length : Int) + 1) = ((pre.length + (0 + 1) : Nat) : Int) := by rw [wrap64_id (by omega) (by omega)]; simp
    have hj : ∀ bb : Bool, (bb = true ↔ x.f0 ≤ b) → ∀ bc : Bool, bc = (decide (x.f1 ≥ a) && bb) → Ev (fun k => spec_AddSpan.j3 k L acc (pre.length : Int) bc a b) (acc ++ [⟨(p2 (x :: t) a b).1, (p2 (x :: t) a b).2⟩] ++ L.filter (fun s => decide (s.f0 > (p2 (x :: t) a b).2))) := by
      intro bb hbb bc hbc
      apply Ev.step
      · intro k; rw [spec_AddSpan.j3]
      simp only [e1, hw]
      cases bc with
      | true =>
        have h := hbc.symm
        simp only [Bool.and_eq_true, decide_eq_true_eq] at h
        have h2 := hbb.1 h.2
        rw [p2, if_pos ⟨h.1, h2⟩]
        exact Ev.pos rfl (Ev.pos (by omega) (Ev.pos (by omega) (Ev.cbind (min_f _ _) (Ev.cbind (max_f _ _) (hi _ _)))))
      | false =>
        have h := hbc.symm
        have hn : ¬ (x.f1 ≥ a ∧ x.f0 ≤ b) := by
          rintro ⟨h1, h2⟩
          rw [hbb.2 h2] at h
          simp at h
          omega
        rw [p2, if_neg hn]
        exact Ev.neg (by simp) (hi a b)
    apply Ev.step
    · intro k; rw [spec_AddSpan.l1]
    simp only [e1]
    refine Ev.pos (by omega) (Ev.pos (by omega) ?_)
    by_cases c : x.f1 ≥ a
    · exact Ev.pos c (hj (decide (x.f0 ≤ b)) (by simp) _ (by rw [decide_eq_true c]; rfl))
    · exact Ev.neg c (hj (decide (x.f0 ≤ b)) (by simp) _ (by rw [decide_eq_false c]; rfl))
theorem s_l0 (L : List S26) (hL : L.length ≤ B0) (rest : List S26) : ∀ (pre acc : List S26) (a b : Int), pre ++ rest = L → acc.length ≤ pre.length →
    Ev (fun k => spec_AddSpan.l0 k L acc (pre.length : Int) a b) (acc ++ rest.filter (fun s => decide (s.f1 < a)) ++ [⟨(p2 L a b).1, (p2 L a b).2⟩] ++ L.filter (fun s => decide (s.f0 > (p2 L a b).2))) := by
  induction rest with
  | nil =>
    intro pre acc a b hl ha
    simp only [List.append_nil] at hl
    subst hl
    apply Ev.step
    · intro k; rw [spec_AddSpan.l0]
    refine Ev.neg (by omega) ?_
    have := s_l1 pre hL pre [] acc a b rfl (by omega)
    simpa using this
  | cons x t ih =>
    intro pre acc a b hl ha
    have e1 : rd_T26 L (pre.length : Int) = x := by rw [← hl]; exact rd_mid pre x t
    have hi := fun acc h => ih (pre ++ [x]) acc a b (by simpa using hl) h
    have hll : L.length = pre.length + (t.length + 1) := by rw [← hl]; simp
    simp only [List.length_append, List.length_cons, List.length_nil] at hi
    simp only [B0] at hL
    have hw : wrap64 ((pre.length : Int) + 1) = ((pre.length + (0 + 1) : Nat) : Int) := by rw [wrap64_id (by omega) (by omega)]; simp
    apply Ev.step
    · intro k; rw [spec_AddSpan.l0]
    simp only [e1, hw]
    refine Ev.pos (by omega) (Ev.pos (by omega) ?_)
    by_cases c : x.f1 < a
    · refine Ev.pos c (Ev.pos (by omega) ?_)
      rw [List.filter_cons_of_pos (by simpa using c)]
      refine Ev.eq ?_ (hi (acc ++ [x]) (by simp; omega))
      simp
    · refine Ev.neg c ?_
      rw [List.filter_cons_of_neg (by simpa using c)]
      exact hi acc (by omega)
theorem spec_add (l : List S26) (a b : Int) (hl : l.length ≤ B0) : Ev (fun k => spec_AddSpan.f k l a b) (addX l a b) := by
  have hB : B0 = 1000000000000 := rfl
  refine Ev.bind (spec_isSet l (by omega)) ?_
  have hno : (¬ (isSet l = true ∧ 0 ≤ a ∧ a < b ∧ b ≤ 1000000000000)) → Ev (fun k => spec_AddSpan.j0 k l true a b) (addX l a b) := by
    intro h
    apply Ev.step
    · intro k; rw [spec_AddSpan.j0]
    refine Ev.pos rfl ?_
    rw [addX, if_neg h]
    refine Ev.retBind (Ev.pos ?_ (Ev.ret (by simp)))
    simp; omega
  by_cases c : isSet l = true
  · refine Ev.pos c ?_
    by_cases c2 : a < 0
    · exact Ev.pos c2 (hno (by omega))
    refine Ev.neg c2 ?_
    by_cases c1 : a ≥ b
    · exact Ev.pos c1 (hno (by omega))
    refine Ev.neg c1 ?_
    by_cases c3 : b > 1000000000000
    · rw [decide_eq_true c3]; exact hno (by omega)
    rw [decide_eq_false c3]
    apply Ev.step
    · intro k; rw [spec_AddSpan.j0]
    refine Ev.neg (by simp) ?_
    have := s_l0 l hl l [] [] a b rfl (by simp)
    rw [addX, if_pos ⟨c, by omega, by omega, by omega⟩, ← addS_eq l a b ((isSet_iff l).1 c) (by omega)]
    exact this
  · refine Ev.neg c (hno (fun h => c h.1))

def cov (l : List S26) (p : Int) : Bool := l.any fun y => decide (y.f0 ≤ p) && decide (p + 1 ≤ y.f1)
theorem cov_iff (l : List S26) (p : Int) : cov l p = true ↔ covB l p := by
  simp [cov, covB, Int.add_one_le_iff]
theorem spec_cov_loop (rest : List S26) : ∀ (pre : List S26) (a b : Int), (pre ++ rest).length ≤ B0 →
    Ev (fun k => spec_CoversSpan.l0 k (pre ++ rest) (pre.length : Int) a b) ((rest.any fun y => decide (y.f0 ≤ a) && decide (b ≤ y.f1)) || decide (a ≥ b)) := by
  induction rest with
  | nil =>
    intro pre a b hl
    apply Ev.step
    · intro k; rw [spec_CoversSpan.l0]
    exact Ev.neg (by simp) (Ev.ret (by simp))
  | cons x t ih =>
    intro pre a b hl
    have e1 : rd_T26 (pre ++ x :: t) (pre.length : Int) = x := rd_mid pre x t
    have hr : pre ++ [x] ++ t = pre ++ x :: t := by simp
    have hi := ih (pre ++ [x]) a b (by simpa using hl)
    rw [hr] at hi
    simp only [B0, List.length_append, List.length_cons, List.length_nil] at hl hi
    have hw : wrap64 ((pre.length : Int) + 1) = ((pre.length + (0 + 1) : Nat) : Int) := by rw [wrap64_id (by omega) (by omega)]; simp
    apply Ev.step
    · intro k; rw [spec_CoversSpan.l0]
    simp only [e1, hw]
    refine Ev.pos (by simp; omega) (Ev.pos (by omega) ?_)
    by_cases c : x.f0 ≤ a
    · refine Ev.pos c ?_
      by_cases c2 : b ≤ x.f1
      · exact Ev.pos c2 (Ev.ret (by simp [c, c2]))
      · exact Ev.neg c2 (Ev.eq (by simp [c2]) hi)
    · exact Ev.neg c (Ev.eq (by simp [c]) hi)
theorem spec_cov (l : List S26) (p : Int) (hl : l.length ≤ B0) (h0 : 0 ≤ p) (h1 : p ≤ 1000000000000) : Ev (fun k => spec_CoversSpan.f k l p (wrap64 (p + 1))) (cov l p) := by
  rw [wrap64_id (by omega) (by omega)]
  refine Ev.eq ?_ (spec_cov_loop l [] p (p + 1) hl)
  rw [cov, decide_eq_false (show ¬ p ≥ p + 1 by omega), Bool.or_false]
theorem impl_cov (l : List S26) (p : Int) (h0 : 0 ≤ p) (h1 : p ≤ 1000000000000) : impl_CoversSpan.f l p (wrap64 (p + 1)) = some (cov l p) := by
  rw [wrap64_id (by omega) (by omega), impl_CoversSpan.f, if_neg (by omega)]; rfl

def missR : List S26 → Int → Int → List S26
  | [], f, t => if f < t then [⟨f, t⟩] else []
  | y :: r, f, t => if y.f1 ≤ f ∨ t ≤ y.f0 then missR r f t else (if f < y.f0 then [⟨f, y.f0⟩] else []) ++ missR r y.f1 t
theorem missR_cov (l : List S26) : ∀ (f t p : Int), SetOk l → (covB (missR l f t) p ↔ (f ≤ p ∧ p < t ∧ ¬ covB l p)) := by
  induction l with
  | nil =>
    intro f t p _
    rw [missR]
    split
    · simp [covB]
    · simp [covB]; omega
  | cons y r ih =>
    rintro f t p ⟨hy, hlt, hr⟩
    have hc : covB (y :: r) p ↔ ((y.f0 ≤ p ∧ p < y.f1) ∨ covB r p) := by simp [covB]
    have hy1 := hy.2.1
    rw [missR, hc]
    split
    · rw [ih f t p hr]
      constructor
      · rintro ⟨h1, h2, h3⟩
        exact ⟨h1, h2, fun h => h.elim (by omega) h3⟩
      · rintro ⟨h1, h2, h3⟩
        exact ⟨h1, h2, fun h => h3 (.inr h)⟩
    · rename_i c
      have happ : covB ((if f < y.f0 then [⟨f, y.f0⟩] else []) ++ missR r y.f1 t) p ↔ ((f ≤ p ∧ p < y.f0) ∨ covB (missR r y.f1 t) p) := by
        split
        · simp [covB, or_and_right, exists_or]
        · simp only [List.nil_append]
          constructor
          · exact .inr
          · rintro (h | h)
            · omega
            · exact h
      have hfar : p < y.f0 → ¬ covB r p := by
        rintro h ⟨s, hs, h1, h2⟩
        have := hlt s hs
        omega
      rw [happ, ih y.f1 t p hr]
      constructor
      · rintro (h | ⟨h1, h2, h3⟩)
        · exact ⟨h.1, by omega, fun h' => h'.elim (by omega) (hfar h.2)⟩
        · exact ⟨by omega, h2, fun h' => h'.elim (by omega) h3⟩
      · rintro ⟨h1, h2, h3⟩
        by_cases c2 : p < y.f0
        · exact .inl ⟨h1, c2⟩
        · refine .inr ⟨?_, h2, fun h => h3 (.inr h)⟩
          apply Classical.byContradiction
          intro h
          exact h3 (.inl (by omega))
theorem miss_l1 (L : List S26) (hL : L.length ≤ B0) (t : Int) (a0 : Int) (rest : List S26) : ∀ (pre acc : List S26) (f : Int), pre ++ rest = L → acc.length ≤ pre.length →
    Ev (fun k => impl_MissingSpans.l1 k acc f L (L.length : Int) (pre.length : Int) a0 t) (acc ++ missR rest f t) := by
  induction rest with
  | nil =>
    intro pre acc f hl ha
    simp only [List.append_nil] at hl
    subst hl
    simp only [B0] at hL
    apply Ev.step
    · intro k; rw [impl_MissingSpans.l1]
    refine Ev.neg (by omega) ?_
    by_cases c : f < t
    · exact Ev.pos c (Ev.pos (by omega) (Ev.ret (by rw [missR, if_pos c])))
    · exact Ev.neg c (Ev.ret (by rw [missR, if_neg c]; simp))
  | cons x r ih =>
    intro pre acc f hl ha
    have e1 : rd_T26 L (pre.length : Int) = x := by rw [← hl]; exact rd_mid pre x r
    have hi := fun acc f h => ih (pre ++ [x]) acc f (by simpa using hl) h
    have hll : L.length = pre.length + (r.length + 1) := by rw [← hl]; simp
    simp only [List.length_append, List.length_cons, List.length_nil] at hi
    simp only [B0] at hL
    have hw : wrap64 ((pre.length : Int) + 1) = ((pre.length + (0 + 1) : Nat) : Int) := by rw [wrap64_id (by omega) (by omega)]; simp
    have hj : ∀ bc : Bool, (bc = true ↔ (x.f1 ≤ f ∨ t ≤ x.f0)) → Ev (fun k => impl_MissingSpans.j1 k acc f L (L.length : Int) (pre.length : Int) bc a0 t x.f0 x.f1) (acc ++ missR (x :: r) f t) := by
      intro bc hbc
      apply Ev.step
      · intro k; rw [impl_MissingSpans.j1]
      simp only [hw]
      cases bc with
      | true =>
        rw [missR, if_pos (hbc.1 rfl)]
        exact Ev.pos rfl (hi acc f (by omega))
      | false =>
        rw [missR, if_neg (fun h => by have := hbc.2 h; simp at this)]
        refine Ev.neg (by simp) ?_
        by_cases c : x.f0 > f
        · rw [if_pos (show f < x.f0 by omega)]
          refine Ev.pos c (Ev.pos (by omega) ?_)
          exact Ev.eq (by simp) (hi (acc ++ [⟨f, x.f0⟩]) x.f1 (by simp; omega))
        · rw [if_neg (show ¬ f < x.f0 by omega)]
          exact Ev.neg c (Ev.eq (by simp) (hi acc x.f1 (by omega)))
    apply Ev.step
    · intro k; rw [impl_MissingSpans.l1]
    simp only [e1]
    refine Ev.pos (by omega) (Ev.pos (by omega) (Ev.pos (by omega) ?_))
    by_cases c : x.f1 ≤ f
    · exact Ev.pos c (hj _ (by simp [c]))
    · exact Ev.neg c (hj _ (by simp [c]))
def missX (l : List S26) (f t : Int) : List S26 := if isSet l = true then missR l f t else missR [] f t
theorem impl_miss (l : List S26) (a b : Int) (hl : l.length ≤ B0) : Ev (fun k => impl_MissingSpans.f k l a b) (missX l a b) := by
  have hB : B0 = 1000000000000 := rfl
  refine Ev.retBind (Ev.bind (impl_isSet l (by omega)) ?_)
  by_cases c : isSet l = true
  · refine Ev.pos c ?_
    rw [missX, if_pos c]
    exact miss_l1 l hl b a l [] [] a rfl (by simp)
  · refine Ev.neg c ?_
    rw [missX, if_neg c]
    apply Ev.step
    · intro k; rw [impl_MissingSpans.l0]
    refine Ev.neg (by simp) ?_
    by_cases c : a < b
    · exact Ev.pos c (Ev.pos (by simp) (Ev.ret (by rw [missR, if_pos c]; simp)))
    · exact Ev.neg c (Ev.ret (by rw [missR, if_neg c]))
theorem missR_length (l : List S26) : ∀ f t, (missR l f t).length ≤ l.length + 1 := by
  induction l with
  | nil => intro f t; rw [missR]; split <;> simp
  | cons x r ih =>
    intro f t
    rw [missR]
    split
    · have := ih f t; simp; omega
    · have := ih x.f1 t
      split <;> simp <;> omega
end Go.Proofs.Yteahdfibipalkaa.Pure

namespace Go.Proofs.Yteahdfibipalkaa.Pure
open Go.RowKit Go.Proofs.Yteahdfibipalkaa.G Go.Proofs.YteahdfibipalkaaW.PrintWords Go.Proofs.YteahdfibipalkaaW.PrintLast

theorem addX_length (l : List S26) (a b : Int) : (addX l a b).length ≤ l.length + 1 := by
  unfold addX; split
  · exact addR_length l a b
  · omega
theorem addX_ok {l : List S26} (h : SetOk l) (a b : Int) : SetOk (addX l a b) := by
  unfold addX; split
  · rename_i c; exact addR_ok l a b h c.2.1 c.2.2.1 c.2.2.2
  · exact h
theorem span_some {b : List Int} {i : Int} (h : Int) (s : St b i) : ∃ u v i' h', spec_l9Span.f b i h = some (u, v, i', h') ∧ 0 ≤ u ∧ u ≤ v ∧ v ≤ 20 ∧ St b i' := by
  obtain ⟨u, i1, h1, e1, u0, u1, s1⟩ := below_some h 16 s (by omega) (by omega)
  obtain ⟨v, i2, h2, e2, v0, v1, s2⟩ := below_some h1 6 s1 (by omega) (by omega)
  refine ⟨u, u + v, i2, h2, ?_, u0, by omega, by omega, s2⟩
  unfold spec_l9Span.f
  rw [e1, Option.bind_some, e2, Option.bind_some, wrap64_id (by omega) (by omega)]
theorem set_loop (b : List Int) (n : Nat) : ∀ (acc : List S26) (i h : Int), St b i → acc.length + n ≤ 100 → ∃ l i' h', Ev (fun k => spec_l9Set.l0 k acc (n : Int) b i h) (l, i', h') ∧ St b i' ∧ l.length ≤ 101 := by
  induction n with
  | zero =>
    intro acc i h s hl
    obtain ⟨v, i1, h1, e1, s1⟩ := once_some h 9 s (by omega) (by omega)
    obtain ⟨u, w, i2, h2, e2, _, _, _, s2⟩ := span_some h1 s1
    by_cases c : v = true
    · refine ⟨acc ++ [⟨u, w⟩], i2, h2, ?_, s2, by simp; omega⟩
      apply Ev.step
      · intro k; rw [spec_l9Set.l0]
      exact Ev.neg (by omega) (Ev.cbind e1 (Ev.pos c (Ev.cbind e2 (Ev.pos (by omega) (Ev.ret rfl)))))
    · refine ⟨acc, i1, h1, ?_, s1, by omega⟩
      apply Ev.step
      · intro k; rw [spec_l9Set.l0]
      exact Ev.neg (by omega) (Ev.cbind e1 (Ev.neg c (Ev.ret rfl)))
  | succ n ih =>
    intro acc i h s hl
    obtain ⟨u, w, i2, h2, e2, _, _, _, s2⟩ := span_some h s
    have hlen := addX_length acc u w
    obtain ⟨l, i', h', e, s', hl'⟩ := ih (addX acc u w) i2 h2 s2 (by omega)
    refine ⟨l, i', h', ?_, s', hl'⟩
    apply Ev.step
    · intro k; rw [spec_l9Set.l0]
    refine Ev.pos (by omega) (Ev.cbind e2 (Ev.bind (spec_add acc u w (by simp only [B0]; omega)) ?_))
    rw [wrap64_id (x := ((n + 1 : Nat) : Int) - 1) (by omega) (by omega), show ((n + 1 : Nat) : Int) - 1 = (n : Int) by omega]
    exact e
theorem l9_some {b : List Int} {i : Int} (h : Int) (s : St b i) : ∃ l i' h', Ev (fun k => spec_l9Set.f k b i h) (l, i', h') ∧ St b i' ∧ l.length ≤ 101 := by
  obtain ⟨v, i1, h1, e1, v0, v1, s1⟩ := below_some h 5 s (by omega) (by omega)
  obtain ⟨n, rfl⟩ := Int.eq_ofNat_of_zero_le v0
  obtain ⟨l, i', h', e, s', hl'⟩ := set_loop b n [] i1 h1 s1 (by simp; omega)
  exact ⟨l, i', h', Ev.cbind e1 e, s', hl'⟩
theorem odd_some {b : List Int} {i : Int} (h : Int) (s : St b i) : ∃ v i' h', spec_l1Odd.f b i h = some (v, i', h') ∧ St b i' := by
  obtain ⟨v, i1, h1, e1, _, s1⟩ := int_some h [(-1), 0, 1, 2, 255, 256, 65535, 2147483647, 2147483648, 4294967295, 4294967296, (-2147483648), 9223372036854775807, (-9223372036854775808)] s (by simp) (by simp)
  refine ⟨v, i1, h1, ?_, s1⟩
  unfold spec_l1Odd.f
  rw [e1, Option.bind_some]
theorem draw_add (b : List Int) (hb : b.length ≤ 140737488355328) : ∃ l u v, Ev (fun k => spec_DrawAddSpan.f k b) (l, u, v) ∧ l.length ≤ 101 := by
  obtain ⟨h0, e0, s0⟩ := new_some b hb
  obtain ⟨l, i1, h1, e1, s1, hl⟩ := l9_some h0 s0
  obtain ⟨u, v, i2, h2, e2, _, _, _, s2⟩ := span_some h1 s1
  obtain ⟨c, i3, h3, e3, s3⟩ := once_some h2 9 s2 (by omega) (by omega)
  obtain ⟨x, i4, h4, e4, s4⟩ := odd_some h3 s3
  by_cases hc : c = true
  · exact ⟨l, x, v, Ev.bind e0 (Ev.bind e1 (Ev.cbind e2 (Ev.cbind e3 (Ev.pos hc (Ev.cbind e4 (Ev.ret rfl)))))), hl⟩
  · exact ⟨l, u, v, Ev.bind e0 (Ev.bind e1 (Ev.cbind e2 (Ev.cbind e3 (Ev.neg hc (Ev.ret rfl))))), hl⟩
theorem draw_miss (b : List Int) (hb : b.length ≤ 140737488355328) : ∃ l u v, Ev (fun k => spec_DrawMissingSpans.f k b) (l, u, v) ∧ l.length ≤ 101 := by
  obtain ⟨h0, e0, s0⟩ := new_some b hb
  obtain ⟨l, i1, h1, e1, s1, hl⟩ := l9_some h0 s0
  obtain ⟨u, v, i2, h2, e2, _, _, _, s2⟩ := span_some h1 s1
  exact ⟨l, u, v, Ev.bind e0 (Ev.bind e1 (Ev.cbind e2 (Ev.ret rfl))), hl⟩
def small (x : S26) : Prop := 0 ≤ x.f0 ∧ x.f0 ≤ x.f1 ∧ x.f1 ≤ 20
theorem unite_loop (b : List Int) (n : Nat) : ∀ (acc : List S26) (i h : Int), St b i → acc.length + n ≤ 100 → (∀ s, s ∈ acc → small s) → ∃ l, Ev (fun k => spec_DrawUniteSpans.l0 k acc (n : Int) b i h) l ∧ l.length ≤ 100 ∧ ∀ s, s ∈ l → small s := by
  induction n with
  | zero =>
    intro acc i h s hl ha
    refine ⟨acc, ?_, by omega, ha⟩
    apply Ev.step
    · intro k; rw [spec_DrawUniteSpans.l0]
    exact Ev.neg (by omega) (Ev.ret rfl)
  | succ n ih =>
    intro acc i h s hl ha
    obtain ⟨u, w, i2, h2, e2, u0, u1, u2, s2⟩ := span_some h s
    obtain ⟨l, e, hl', hs⟩ := ih (acc ++ [⟨u, w⟩]) i2 h2 s2 (by simp; omega) (fun s hs => by
      rcases List.mem_append.1 hs with hs | hs
      · exact ha s hs
      · simp at hs; subst hs; exact ⟨u0, u1, u2⟩)
    refine ⟨l, ?_, hl', hs⟩
    apply Ev.step
    · intro k; rw [spec_DrawUniteSpans.l0]
    refine Ev.pos (by omega) (Ev.cbind e2 (Ev.pos (by omega) ?_))
    rw [wrap64_id (x := ((n + 1 : Nat) : Int) - 1) (by omega) (by omega), show ((n + 1 : Nat) : Int) - 1 = (n : Int) by omega]
    exact e
theorem draw_unite (b : List Int) (hb : b.length ≤ 140737488355328) : ∃ l, Ev (fun k => spec_DrawUniteSpans.f k b) l ∧ l.length ≤ 100 ∧ ∀ s, s ∈ l → small s := by
  obtain ⟨h0, e0, s0⟩ := new_some b hb
  obtain ⟨v, i1, h1, e1, v0, v1, s1⟩ := below_some h0 6 s0 (by omega) (by omega)
  obtain ⟨n, rfl⟩ := Int.eq_ofNat_of_zero_le v0
  obtain ⟨l, e, hl, hs⟩ := unite_loop b n [] i1 h1 s1 (by simp; omega) (by simp)
  exact ⟨l, Ev.bind e0 (Ev.cbind e1 e), hl, hs⟩

def uni : List S26 → List S26 → List S26
  | acc, [] => acc
  | acc, x :: t => uni (addX acc x.f0 x.f1) t
theorem uni_ok (w : List S26) : ∀ acc, SetOk acc → SetOk (uni acc w) := by
  induction w with
  | nil => intro acc h; exact h
  | cons x t ih => intro acc h; exact ih _ (addX_ok h _ _)
theorem uni_length (w : List S26) : ∀ acc, (uni acc w).length ≤ acc.length + w.length := by
  induction w with
  | nil => intro acc; simp [uni]
  | cons x t ih => intro acc; have := ih (addX acc x.f0 x.f1); have := addX_length acc x.f0 x.f1; simp only [uni, List.length_cons]; omega
theorem addX_old {l : List S26} {a b u v : Int} (h : inside l u v) : inside (addX l a b) u v := by
  unfold addX; split
  · exact addR_old l a b u v h
  · exact h
theorem uni_old (w : List S26) : ∀ acc u v, inside acc u v → inside (uni acc w) u v := by
  induction w with
  | nil => intro acc u v h; exact h
  | cons x t ih => intro acc u v h; exact ih _ u v (addX_old h)
theorem uni_new (w : List S26) : ∀ acc, SetOk acc → ∀ s, s ∈ w → small s → s.f0 < s.f1 → inside (uni acc w) s.f0 s.f1 := by
  induction w with
  | nil => intro acc _ s hs; simp at hs
  | cons x t ih =>
    intro acc hok s hs h1 h2
    rcases List.mem_cons.1 hs with rfl | hs
    · refine uni_old t _ _ _ ?_
      have := h1.1; have := h1.2.2
      rw [addX, if_pos ⟨(isSet_iff acc).2 hok, by omega, h2, by omega⟩]
      exact addR_self acc _ _ _ _ (Int.le_refl _) (Int.le_refl _)
    · exact ih _ (addX_ok hok _ _) s hs h1 h2
theorem uni_size (w : List S26) : ∀ acc, SetOk acc → (∀ s, s ∈ w → small s) → size (uni acc w) ≤ size acc + size w := by
  induction w with
  | nil => intro acc _ _; simp [uni, size]
  | cons x t ih =>
    intro acc hok hs
    have hx := hs x (by simp)
    have h1 := ih (addX acc x.f0 x.f1) (addX_ok hok _ _) (fun s h => hs s (by simp [h]))
    have h2 : size (addX acc x.f0 x.f1) ≤ size acc + (x.f1 - x.f0) := by
      unfold addX
      split
      · rename_i c; exact addR_size acc _ _ hok c.2.2.1
      · have := hx.2.1; omega
    simp only [uni, size]; omega
theorem unite_l0 (L : List S26) (hL : L.length ≤ 1000) (rest : List S26) : ∀ (pre acc : List S26), pre ++ rest = L → acc.length ≤ pre.length →
    Ev (fun k => impl_UniteSpans.l0 k acc L (L.length : Int) (pre.length : Int)) (uni acc rest) := by
  induction rest with
  | nil =>
    intro pre acc hl ha
    simp only [List.append_nil] at hl
    subst hl
    apply Ev.step
    · intro k; rw [impl_UniteSpans.l0]
    exact Ev.neg (by omega) (Ev.ret rfl)
  | cons x r ih =>
    intro pre acc hl ha
    have e1 : rd_T26 L (pre.length : Int) = x := by rw [← hl]; exact rd_mid pre x r
    have hlen := addX_length acc x.f0 x.f1
    have hi := ih (pre ++ [x]) (addX acc x.f0 x.f1) (by simpa using hl) (by simp; omega)
    have hll : L.length = pre.length + (r.length + 1) := by rw [← hl]; simp
    simp only [List.length_append, List.length_cons, List.length_nil] at hi
    have hw : wrap64 ((pre.length : Int) + 1) = ((pre.length + (0 + 1) : Nat) : Int) := by rw [wrap64_id (by omega) (by omega)]; simp
    apply Ev.step
    · intro k; rw [impl_UniteSpans.l0]
    simp only [e1, hw]
    exact Ev.pos (by omega) (Ev.pos (by omega) (Ev.pos (by omega) (Ev.bind (impl_add acc _ _ (by simp only [B0]; omega)) hi)))
theorem impl_unite (w : List S26) (hw : w.length ≤ 1000) : Ev (fun k => impl_UniteSpans.f k w) (uni [] w) := unite_l0 w hw w [] [] rfl (by simp)
def sized (x : S26) : Prop := 0 ≤ x.f0 ∧ x.f0 ≤ x.f1 ∧ x.f1 ≤ 1000000000000
theorem size_l0 (L : List S26) (hL : L.length ≤ 1000) (hs : ∀ s, s ∈ L → sized s) (rest : List S26) : ∀ (pre : List S26) (n : Int), pre ++ rest = L → 0 ≤ n → n ≤ 1000000000000 * pre.length →
    Ev (fun k => impl_SpanSize.l0 k n L (L.length : Int) (pre.length : Int)) (n + size rest) := by
  induction rest with
  | nil =>
    intro pre n hl h0 h1
    simp only [List.append_nil] at hl
    subst hl
    apply Ev.step
    · intro k; rw [impl_SpanSize.l0]
    exact Ev.neg (by omega) (Ev.ret (by simp [size]))
  | cons x r ih =>
    intro pre n hl h0 h1
    have e1 : rd_T26 L (pre.length : Int) = x := by rw [← hl]; exact rd_mid pre x r
    have hx := hs x (by rw [← hl]; simp)
    have hx0 := hx.1; have hx1 := hx.2.1; have hx2 := hx.2.2
    have hll : L.length = pre.length + (r.length + 1) := by rw [← hl]; simp
    have hi := ih (pre ++ [x]) (n + (x.f1 - x.f0)) (by simpa using hl) (by omega) (by simp; omega)
    simp only [List.length_append, List.length_cons, List.length_nil] at hi
    have hw : wrap64 ((pre.length : Int) + 1) = ((pre.length + (0 + 1) : Nat) : Int) := by rw [wrap64_id (by omega) (by omega)]; simp
    have hw2 : wrap64 (x.f1 - x.f0) = x.f1 - x.f0 := wrap64_id (by omega) (by omega)
    have hw3 : wrap64 (n + (x.f1 - x.f0)) = n + (x.f1 - x.f0) := wrap64_id (by omega) (by omega)
    apply Ev.step
    · intro k; rw [impl_SpanSize.l0]
    simp only [e1, hw, hw2, hw3]
    refine Ev.pos (by omega) (Ev.pos (by omega) (Ev.pos (by omega) ?_))
    exact Ev.eq (by simp only [size]; omega) hi
theorem impl_size (l : List S26) (hl : l.length ≤ 1000) (hs : ∀ s, s ∈ l → sized s) : Ev (fun k => impl_SpanSize.f k l) (size l) :=
  Ev.eq (by omega) (size_l0 l hl hs l [] 0 rfl (by omega) (by omega))

/-- The last loop: each drawn span is covered; what is united is a set, and no greater. -/
theorem law_l1 (y : List S26) (g : Bool) (hy : y.length ≤ 1000) (hg : g = true → isSet y = true) (L : List S26) (hL : L.length ≤ 100) (hs : ∀ s, s ∈ L → small s) (rest : List S26) : ∀ (pre : List S26), pre ++ rest = L →
    Ev (fun k => laws_FnIntervals.l1 k y g L (uni [] L) (pre.length : Int)) true := by
  have hlen := uni_length L []
  simp only [List.length_nil, Nat.zero_add] at hlen
  have hok : SetOk (uni [] L) := uni_ok L [] trivial
  induction rest with
  | nil =>
    intro pre hl
    simp only [List.append_nil] at hl
    subst hl
    have hz : isSet (uni [] pre) = true := (isSet_iff _).2 hok
    have z1 := Ev.eq hz (impl_isSet (uni [] pre) (by omega))
    have z2 := Ev.eq hz (spec_isSet (uni [] pre) (by omega))
    have z3 := impl_size (uni [] pre) (by omega) (fun s h => by have := hok.mem s h; exact ⟨this.1, by have := this.2.1; omega, this.2.2⟩)
    have z4 := impl_size pre (by omega) (fun s h => by have := hs s h; exact ⟨this.1, this.2.1, by have := this.2.2; omega⟩)
    have z5 : decide (size (uni [] pre) ≤ size pre) = true := by
      have := uni_size pre [] trivial hs
      simp only [size] at this
      simp; omega
    apply Ev.step
    · intro k; rw [laws_FnIntervals.l1]
    refine Ev.neg (by omega) ?_
    have hfin : ∀ {f : Nat → Option Bool}, Ev f true → Ev f true := fun h => h
    by_cases c : g = true
    · exact Ev.pos c (Ev.bind (Ev.eq (hg c) (impl_isSet y (by omega))) (Ev.pos rfl (Ev.bind z1 (Ev.pos rfl (Ev.bind z2 (Ev.pos rfl (Ev.bind z3 (Ev.bind z4 (Ev.ret z5)))))))))
    · exact Ev.neg c (Ev.bind z1 (Ev.pos rfl (Ev.bind z2 (Ev.pos rfl (Ev.bind z3 (Ev.bind z4 (Ev.ret z5)))))))
  | cons x r ih =>
    intro pre hl
    have e1 : rd_T26 L (pre.length : Int) = x := by rw [← hl]; exact rd_mid pre x r
    have hxm : x ∈ L := by rw [← hl]; simp
    have hx := hs x hxm
    have hll : L.length = pre.length + (r.length + 1) := by rw [← hl]; simp
    have hi := ih (pre ++ [x]) (by simpa using hl)
    simp only [List.length_append, List.length_cons, List.length_nil] at hi
    have hw : wrap64 ((pre.length : Int) + 1) = ((pre.length + (0 + 1) : Nat) : Int) := by rw [wrap64_id (by omega) (by omega)]; simp
    have hc : impl_CoversSpan.f (uni [] L) x.f0 x.f1 = some true := by
      unfold impl_CoversSpan.f
      by_cases c : x.f0 ≥ x.f1
      · rw [if_pos c]
      · rw [if_neg c]
        obtain ⟨s, h1, h2, h3⟩ := uni_new L [] trivial x hxm hx (by omega)
        congr 1
        rw [List.any_eq_true]
        exact ⟨s, h1, by simp [h2, h3]⟩
    apply Ev.step
    · intro k; rw [laws_FnIntervals.l1]
    simp only [e1, hw]
    exact Ev.pos (by omega) (Ev.pos (by omega) (Ev.pos hx.1 (Ev.cbind hc (Ev.pos rfl hi))))
theorem law_end (b : List Int) (hb : b.length ≤ 140737488355328) (l y u gaps : List S26) (g : Bool) (p A B V W : Int) (hy : y.length ≤ 1000) (hg : g = true → isSet y = true) :
    Ev (fun k => laws_FnIntervals.j1 k b l y u gaps g p false A B V W) true := by
  obtain ⟨w, e, hl, hs⟩ := draw_unite b hb
  apply Ev.step
  · intro k; rw [laws_FnIntervals.j1]
  exact Ev.neg (by simp) (Ev.bind e (Ev.bind (impl_unite w (by omega)) (law_l1 y g hy hg w hl hs w [] rfl)))
theorem law_l0 (b : List Int) (hb : b.length ≤ 140737488355328) (l u : List S26) (A B V W : Int) (hl : l.length ≤ 101) (hu : u.length ≤ 101) (d : Nat) : ∀ p : Int, 0 ≤ p → p ≤ 40 → 40 - p = d →
    Ev (fun k => laws_FnIntervals.l0 k b l (addX l A B) u (missX u V W) (isSet l) p A B V W) true := by
  have hyl := addX_length l A B
  have hgood : isSet l = true → isSet (addX l A B) = true := fun h => (isSet_iff _).2 (addX_ok ((isSet_iff _).1 h) A B)
  have hml : (missX u V W).length ≤ 1000 := by
    unfold missX
    split
    · have := missR_length u V W; omega
    · have := missR_length [] V W; simp at this; omega
  induction d with
  | zero =>
    intro p h0 h1 hd
    apply Ev.step
    · intro k; rw [laws_FnIntervals.l0]
    exact Ev.neg (by omega) (law_end b hb _ _ _ _ _ _ _ _ _ _ (by omega) hgood)
  | succ d ih =>
    intro p h0 h1 hd
    have hi := ih (p + 1) (by omega) (by omega) (by omega)
    have hw : wrap64 (p + 1) = p + 1 := wrap64_id (by omega) (by omega)
    have hj2 : isSet l = true → A ≥ 0 → Ev (fun k => laws_FnIntervals.j2 k b l (addX l A B) u (missX u V W) (isSet l) p false A B V W p (wrap64 (p + 1))) true := by
      intro hset hA
      apply Ev.step
      · intro k; rw [laws_FnIntervals.j2]
      refine Ev.neg (by simp) (Ev.bind (spec_isSet u (by omega)) ?_)
      by_cases cu : isSet u = true
      · refine Ev.pos cu (Ev.bind (spec_cov _ p (by simp only [B0]; omega) h0 (by omega)) ?_)
        have hm : missX u V W = missR u V W := by rw [missX, if_pos cu]
        have hcv := missR_cov u V W p ((isSet_iff u).1 cu)
        rw [← cov_iff, ← cov_iff, ← hm] at hcv
        have hnf : ¬ (V ≤ p ∧ p < W) → ((cov (missX u V W) p) != false) = false := by
          intro h
          cases hq : cov (missX u V W) p with
          | false => rfl
          | true => exact absurd (hcv.1 hq) (fun h' => h ⟨h'.1, h'.2.1⟩)
        rw [hw]
        by_cases c1 : V ≤ p
        · refine Ev.pos c1 ?_
          by_cases c2 : p < W
          · have h2 := spec_cov u p (by simp only [B0]; omega) h0 (by omega)
            rw [hw] at h2
            refine Ev.pos c2 (Ev.bind h2 (Ev.neg ?_ hi))
            cases hq : cov (missX u V W) p with
            | true =>
              have := (hcv.1 hq).2.2
              simp at this
              simp [this]
            | false =>
              cases hq2 : cov u p with
              | true => simp
              | false => exact absurd (hcv.2 ⟨c1, c2, by simp [hq2]⟩) (by simp [hq])
          · exact Ev.neg c2 (Ev.neg (by rw [hnf (fun h => c2 h.2)]; simp) hi)
        · exact Ev.neg c1 (Ev.neg (by rw [hnf (fun h => c1 h.1)]; simp) hi)
      · refine Ev.neg cu ?_
        rw [hw]
        exact hi
    have hj1 : Ev (fun k => laws_FnIntervals.j1 k b l (addX l A B) u (missX u V W) (isSet l) p true A B V W) true ∨ ¬ (isSet l = true ∧ A ≥ 0) := by
      by_cases hc : isSet l = true ∧ A ≥ 0
      · left
        obtain ⟨hset, hA⟩ := hc
        have hok := (isSet_iff l).1 hset
        apply Ev.step
        · intro k; rw [laws_FnIntervals.j1]
        refine Ev.pos rfl (Ev.cbind (impl_cov _ p h0 (by omega)) (Ev.bind (spec_cov l p (by simp only [B0]; omega) h0 (by omega)) ?_))
        have hcv : cov (addX l A B) p = (cov l p || decide (A ≤ p ∧ p < B ∧ B ≤ 1000000000000)) := by
          rw [Bool.eq_iff_iff, Bool.or_eq_true, decide_eq_true_eq]
          unfold addX
          split
          · rename_i c
            rw [cov_iff, cov_iff, addR_cov l A B p hok c.2.2.1]
            constructor
            · rintro (h | h)
              · exact .inl h
              · exact .inr ⟨h.1, h.2, c.2.2.2⟩
            · rintro (h | h)
              · exact .inl h
              · exact .inr ⟨h.1, h.2.1⟩
          · rename_i c
            constructor
            · exact .inl
            · rintro (h | h)
              · exact h
              · exact absurd ⟨hset, hA, by omega, h.2.2⟩ c
        rw [hcv]
        have h2 := hj2 hset hA
        by_cases c0 : cov l p = true
        · refine Ev.pos c0 ?_
          rw [c0, Bool.true_or]
          exact h2
        refine Ev.neg c0 ?_
        have c0' : cov l p = false := by simpa using c0
        rw [c0', Bool.false_or]
        by_cases c1 : A ≤ p
        · refine Ev.pos c1 ?_
          by_cases c2 : p < B
          · refine Ev.pos c2 ?_
            rw [show decide (A ≤ p ∧ p < B ∧ B ≤ 1000000000000) = decide (B ≤ 1000000000000) by simp [c1, c2], bne_self_eq_false]
            exact h2
          · refine Ev.neg c2 ?_
            rw [show decide (A ≤ p ∧ p < B ∧ B ≤ 1000000000000) = false by simp [c2], bne_self_eq_false]
            exact h2
        · refine Ev.neg c1 ?_
          rw [show decide (A ≤ p ∧ p < B ∧ B ≤ 1000000000000) = false by simp [c1], bne_self_eq_false]
          exact h2
      · exact .inr hc
    apply Ev.step
    · intro k; rw [laws_FnIntervals.l0]
    refine Ev.pos (by omega) ?_
    have hend := law_end b hb l (addX l A B) u (missX u V W) (isSet l) p A B V W (by omega) hgood
    by_cases c1 : isSet l = true
    · refine Ev.pos c1 ?_
      by_cases c2 : A ≥ 0
      · rw [decide_eq_true c2]
        exact hj1.resolve_right (fun h => h ⟨c1, c2⟩)
      · rw [decide_eq_false c2]
        exact hend
    · exact Ev.neg c1 hend
theorem intervals (b : List Int) (hb : b.length ≤ 140737488355328) : Ev (fun k => laws_FnIntervals.f k b) true := by
  refine Ev.cbind (a := decide ((b.length : Int) > 1048576)) rfl ?_
  by_cases c : decide ((b.length : Int) > 1048576) = true
  · exact Ev.pos c (Ev.ret rfl)
  refine Ev.neg c ?_
  obtain ⟨l, A, B, e1, hl⟩ := draw_add b hb
  obtain ⟨u, V, W, e2, hu⟩ := draw_miss b hb
  refine Ev.bind e1 (Ev.bind (impl_add l A B (by simp only [B0]; omega)) (Ev.bind e2 (Ev.bind (impl_miss u V W (by simp only [B0]; omega)) (Ev.bind (spec_isSet l (by omega)) ?_))))
  exact law_l0 b hb l u A B V W hl hu 40 0 (by omega) (by omega) (by omega)
end Go.Proofs.Yteahdfibipalkaa.Pure
