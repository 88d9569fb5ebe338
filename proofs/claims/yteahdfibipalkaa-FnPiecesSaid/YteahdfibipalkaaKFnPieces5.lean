/- Texts for: FnPieces holds for every input, without a condition: adding pieces keeps and reads back every byte, in any order. -/
import Derived.Test.YteahdfibipalkaaKFnPieces0
import Derived.Test.YteahdfibipalkaaKFnPieces2
import Derived.Test.YteahdfibipalkaaKFnPieces3
import Derived.Test.YteahdfibipalkaaKFnPieces4
import Derived.Test.YteahdfibipalkaaKFnPieces1

namespace Go.Proofs.Yteahdfibipalkaa.G
open Go.RowKit Go.Proofs.YteahdfibipalkaaW.PrintWords Go.Proofs.YteahdfibipalkaaW.PrintLast Go.Proofs.YteahdfibipalkaaW.PrintMore
attribute [local go_sem] max2_int min2_int max_two min_two max_three min_three max_four min_four   -- for this text's walks alone
set_option linter.unusedVariables false
set_option linter.unusedSimpArgs false

/-! ### spec_DrawAddPiece: function 27 -/
def spec_DrawAddPiece.T9 : Bool × List (List Nat × List Nat) := (true, [([], []), ([], []), ([], []), ([1, 2], [1, 2]), ([], []), ([0, 3, 0], [0]), ([3, 5, 0, 1, 2, 3, 5], [3]), ([4, 6, 0, 1, 2, 3, 4, 5, 6], [4])])
def spec_DrawAddPiece.B9 : List Nat := [0, 0, 0, 6, 0, 15, 47, 127]
theorem spec_DrawAddPiece.tab9 : rtab .any (opsOf Try.f27 9) = spec_DrawAddPiece.T9 := by kernel_rfl
theorem spec_DrawAddPiece.bits9 : waitsOk spec_DrawAddPiece.T9.2 spec_DrawAddPiece.B9 = true := by kernel_rfl
set_option maxHeartbeats 8000000 in
set_option maxRecDepth 100000 in
theorem spec_DrawAddPiece.calls (k : Nat) (A0 : Option Addr) (c0 : Nat) (l0 : List Int) (r1 : List (S44)) (r2 : Int) (r3 : Int) (r4 : ByteArray) (w : World) (hr0 : Kd.C (Kd.int .u8) w A0 l0.length l0) (hc0 : l0.length ≤ c0) (h : spec_DrawAddPiece.f k l0 = some (r1, r2, r3, r4)) :
  Calls Try.prog 27 #[.slice A0 l0.length c0] w fun e w' => ∃ v0_ : Value, e = .returned (.tuple #[v0_, .int .i64 r2, .agg #[.int .i64 r3, .string r4]]) ∧ Kd.R k44 44 w' w.heap.size (fun _ => True) v0_ r1 ∧ Below w.heap.size w w' := by
 have hu44 := Try.underlying44
 have HR0 := zM hr0
 have HC0 := zM hc0
 clear hr0 hc0
 have HB := zM (Below.refl w.heap.size w)
 have H : ((spec_l1New.f k l0).bind fun bt585 => ((spec_l10Draw.f k bt585.1 bt585.2.1 bt585.2.2).bind fun bt589 => ((spec_l10Piece.f bt585.1 bt589.2.1 bt589.2.2).bind fun bt594 => ((spec_l1Below.f bt585.1 bt594.2.2.1 bt594.2.2.2 6).bind fun bt599 => (if bt599.1 = 0 then ((spec_l1Int.f bt585.1 bt599.2.1 bt599.2.2 (([20, 20, 20, 15] : List Int))).bind fun bt605 => (some (bt589.1, bt605.1, bt594.1, (⟨#[122, 122]⟩ : ByteArray)))) else (if bt599.1 = 1 then ((spec_l1Odd.f bt585.1 bt599.2.1 bt599.2.2).bind fun bt608 => ((spec_l1Int.f bt585.1 bt608.2.1 bt608.2.2 (([20, 20, 20, 15] : List Int))).bind fun bt614 => (some (bt589.1, bt614.1, bt608.1, bt594.2.1)))) else ((spec_l1Int.f bt585.1 bt599.2.1 bt599.2.2 (([20, 20, 20, 15] : List Int))).bind fun bt620 => (some (bt589.1, bt620.1, bt594.1, bt594.2.1))))))))) = some (r1, r2, r3, r4) := h
 clear h
 replace H := Option.bind_eq_some_iff.mp H
 obtain ⟨⟨t585, t586, t587⟩, A20, H⟩ := H
 try dsimp only at H
 have A2 := zM A20
 clear A20
 replace H := Option.bind_eq_some_iff.mp H
 obtain ⟨⟨t589, t592, t593⟩, A30, H⟩ := H
 try dsimp only at H
 have A3 := zM A30
 clear A30
 replace H := Option.bind_eq_some_iff.mp H
 obtain ⟨⟨t594, t595, t596, t597⟩, A40, H⟩ := H
 try dsimp only at H
 have A4 := zM A40
 clear A40
 replace H := Option.bind_eq_some_iff.mp H
 obtain ⟨⟨t599, t600, t601⟩, A50, H⟩ := H
 try dsimp only at H
 have A5 := zM A50
 clear A50
 by_cases c6 : t599 = 0
 ·rw [if_pos c6] at H
  have c6b0 : (t599 == 0) = true := beq_iff_eq.mpr c6
  have c6b1 : (t599 != 0) = false := bne_eq_false_iff_eq.mpr c6
  clear c6
  obtain ⟨y602, hy602⟩ : ∃ y_ : List Int, y_ = (([20, 20, 20, 15] : List Int)) := ⟨_, rfl⟩
  replace H : ((spec_l1Int.f t585 t600 t601 y602).bind fun bt605 => (some (t589, bt605.1, t594, (⟨#[122, 122]⟩ : ByteArray)))) = some (r1, r2, r3, r4) := zH hy602 H
  have Ny602 := zM hy602
  clear hy602
  replace H := Option.bind_eq_some_iff.mp H
  obtain ⟨⟨t605, t606, t607⟩, A70, H⟩ := H
  try dsimp only at H
  have A7 := zM A70
  clear A70
  simp only [Option.some.injEq, Prod.mk.injEq] at H
  obtain ⟨rfl, rfl, rfl, rfl⟩ := H
  go_enter Try.func27, Try.ntmps27
  try go_wp2_with (first | ((with_reducible refine gate_dst (N := 4) rfl ?_); refine box_event ?hg (N := 4) ?hd (cs := #[.int .i64 0, .string (⟨#[]⟩ : ByteArray)]) (t := 44) ?hr ?_; (case hd => rfl); (case hg => rfl); (case hr => first | (go_simp; done) | (go_simp; rfl)); intro gb584 hg w8 hbox hb; have n0_ := zM (below_step (zB HB.out) hb); have n1_ := zM (hbox); have n2_ := zM ((by rw [hg]; exact (below_size (zB HB.out)) : w.heap.size ≤ gb584)); have n3_ := zM ((by rw [hg]; exact (below_size (zB HB.out)) : w.heap.size ≤ gb584)); clear HB; have HB := n0_; have BK584 := n1_; have GW584 := n2_; have GE584 := n3_; clear n0_ n1_ n2_ n3_; clear hb hbox hg) | ((with_reducible refine gate_callee (f := 33) rfl ?_); refine zG (some 9) Try.func33 #[.slice A0 l0.length c0] ?_; (with_reducible refine (spec_l1New.calls k _ _ l0 t585 t586 t587 w _ ?side1 ?side2 ?side3 A2.out).mono ?_); (case side1 => exact (zB1 GE584.out HB.out)); (case side2 => exact HR0.out); (case side3 => exact HC0.out); rintro e w9 ⟨g588, rfl, hi, hb, hb2⟩; refine ⟨_, rfl, ?_⟩; have n0_ := zM (blk_below (g := gb584) (o := .cells #[.int .i64 0, .string (⟨#[]⟩ : ByteArray)] 44 (0, 0)) (zP BK584.out) hb2); have n1_ := zM (hb); have n2_ := zM (hi); have n3_ := zM (IsS73.ne_blk hi (blk_below (g := gb584) (o := .cells #[.int .i64 0, .string (⟨#[]⟩ : ByteArray)] 44 (0, 0)) (zP BK584.out) hb2) (by decide)); have n4_ := zM (Ne.symm (IsS73.ne_blk hi (blk_below (g := gb584) (o := .cells #[.int .i64 0, .string (⟨#[]⟩ : ByteArray)] 44 (0, 0)) (zP BK584.out) hb2) (by decide))); clear BK584; clear HB; have BK584 := n0_; have HB := n1_; have HI588 := n2_; have NB588_584 := n3_; have NB584_588 := n4_; clear n0_ n1_ n2_ n3_ n4_; (try clear hb); (try clear hb2); (try clear hk); (try clear hi)) | ((with_reducible refine gate_callee (f := 49) rfl ?_); refine zG (some 11) Try.func49 #[.pointer (some ⟨g588, 0, none⟩)] ?_; (with_reducible refine (spec_l10Draw.calls k g588 t585 t586 t587 t589 t592 t593 w _ ?side1 ?side2 A3.out).mono ?_); (case side1 => exact (zI73_1 NB588_584.out HI588.out)); (case side2 => exact (zB2 (IsS73.ge HI588.out) GE584.out HB.out)); rintro e w10 ⟨v590, rfl, ho0, hi, hb, hk⟩; refine ⟨_, rfl, ?_⟩; have n0_ := zM (KeepBut.blk hk (g' := gb584) (o := .cells #[.int .i64 0, .string (⟨#[]⟩ : ByteArray)] 44 (0, 0)) (zP BK584.out) NB584_588.out (by simp)); have n1_ := zM (Kd.R_lower (Kd.R_newB ho0 (g := gb584) (o := .cells #[.int .i64 0, .string (⟨#[]⟩ : ByteArray)] 44 (0, 0)) (zP BK584.out)) (below_size (zB2 (IsS73.ge HI588.out) GE584.out HB.out))); have n2_ := zM (hb); have n3_ := zM (hi); clear BK584; clear HB; clear HI588; have BK584 := n0_; have HO591 := n1_; have HB := n2_; have HI588 := n3_; clear n0_ n1_ n2_ n3_; (try clear hb); (try clear hb2); (try clear hk); (try clear hi); (try clear ho0)) | ((with_reducible refine gate_callee (f := 50) rfl ?_); refine zG (some 13) Try.func50 #[.pointer (some ⟨g588, 0, none⟩)] ?_; (with_reducible refine (spec_l10Piece.calls g588 t585 t592 t593 t594 t595 t596 t597 w _ ?side1 ?side2 A4.out).mono ?_); (case side1 => exact (zI73_1 NB588_584.out HI588.out)); (case side2 => exact (zB2 (IsS73.ge HI588.out) GE584.out HB.out)); rintro e w11 ⟨rfl, hi, hb, hk⟩; refine ⟨_, rfl, ?_⟩; have n0_ := zM (KeepBut.blk hk (g' := gb584) (o := .cells #[.int .i64 0, .string (⟨#[]⟩ : ByteArray)] 44 (0, 0)) (zP BK584.out) NB584_588.out (by simp)); have n1_ := zM (Kd.R_mono (Kd.R_keep (IsS73.apart (show IsS73 w _ g588 t585 t592 t593 from (zI73_1 NB588_584.out HI588.out)) (zR HO591.out) (by decide)) hk (fun _ h => h.2)) (fun _ h => h.1)); have n2_ := zM (hb); have n3_ := zM (hi); clear BK584; clear HO591; clear HB; clear HI588; have BK584 := n0_; have HO591 := n1_; have HB := n2_; have HI588 := n3_; clear n0_ n1_ n2_ n3_; (try clear hb); (try clear hb2); (try clear hk); (try clear hi)) | ((with_reducible refine gate_dst (N := 7) rfl ?_); refine box_event ?hg (N := 7) ?hd (cs := #[.int .i64 0, .string (⟨#[]⟩ : ByteArray)]) (t := 44) ?hr ?_; (case hd => rfl); (case hg => rfl); (case hr => first | (go_simp; done) | (go_simp; rfl)); intro gb598 hg w12 hbox hb; have n0_ := zM (Kd.R_below (Kd.R_elderB (zR HO591.out) gb598 (Nat.le_of_eq hg.symm)) hb); have n1_ := zM (blk_below (g := gb584) (o := .cells #[.int .i64 0, .string (⟨#[]⟩ : ByteArray)] 44 (0, 0)) (zP BK584.out) hb); have n2_ := zM (IsS73.below (zI73_1 NB588_584.out HI588.out) hb); have n3_ := zM (below_step (zB2 (IsS73.ge HI588.out) GE584.out HB.out) hb); have n4_ := zM (hbox); have n5_ := zM ((by rw [hg]; exact (below_size (zB2 (IsS73.ge HI588.out) GE584.out HB.out)) : w.heap.size ≤ gb598)); have n6_ := zM ((by rw [hg]; exact (below_size (zB2 (IsS73.ge HI588.out) GE584.out HB.out)) : w.heap.size ≤ gb598)); have n7_ := zM ((by rw [hg]; exact Nat.ne_of_lt (blk_lt (g := gb584) (o := .cells #[.int .i64 0, .string (⟨#[]⟩ : ByteArray)] 44 (0, 0)) (zP BK584.out)) : gb584 ≠ gb598)); have n8_ := zM ((by rw [hg]; exact Nat.ne_of_gt (blk_lt (g := gb584) (o := .cells #[.int .i64 0, .string (⟨#[]⟩ : ByteArray)] 44 (0, 0)) (zP BK584.out)) : gb598 ≠ gb584)); have n9_ := zM ((by rw [hg]; exact Nat.ne_of_lt (IsS73.lt (show IsS73 w _ g588 t585 t596 t597 from (zI73_1 NB588_584.out HI588.out))) : g588 ≠ gb598)); have n10_ := zM ((by rw [hg]; exact Nat.ne_of_gt (IsS73.lt (show IsS73 w _ g588 t585 t596 t597 from (zI73_1 NB588_584.out HI588.out))) : gb598 ≠ g588)); clear HO591; clear BK584; clear HI588; clear HB; have HO591 := n0_; have BK584 := n1_; have HI588 := n2_; have HB := n3_; have BK598 := n4_; have GW598 := n5_; have GE598 := n6_; have NB584_598 := n7_; have NB598_584 := n8_; have NB588_598 := n9_; have NB598_588 := n10_; clear n0_ n1_ n2_ n3_ n4_ n5_ n6_ n7_ n8_ n9_ n10_; clear hb hbox hg; have hnb13 := NB598_584.out; have hnc13 := NB584_598.out; have hnb14 := NB598_588.out; have hnc14 := NB588_598.out; have hcz15_0 : w12.cell? ⟨gb598, 0, none⟩ = some (.int .i64 0) := (blk_cell BK598.out 0).trans rfl; have hcz15_1 : w12.cell? ⟨gb598, 1, none⟩ = some (.string (⟨#[]⟩ : ByteArray)) := (blk_cell BK598.out 1).trans rfl; have hfz15_0 := blk_frozen BK598.out 0; have hfz15_1 := blk_frozen BK598.out 1) | ((with_reducible refine gate_callee (f := 41) rfl ?_); refine zG (some 15) Try.func41 #[.pointer (some ⟨g588, 0, none⟩), .int .i64 6] ?_; (with_reducible refine (spec_l1Below.calls g588 t585 t596 t597 6 t599 t600 t601 w _ ?side1 ?side2 A5.out).mono ?_); (case side1 => exact (zI73_2 NB588_584.out NB588_598.out HI588.out)); (case side2 => exact (zB3 (IsS73.ge HI588.out) GE584.out GE598.out HB.out)); rintro e w16 ⟨rfl, hi, hb, hk⟩; refine ⟨_, rfl, ?_⟩; have n0_ := zM (KeepBut.blk hk (g' := gb584) (o := .cells #[.int .i64 0, .string (⟨#[]⟩ : ByteArray)] 44 (0, 0)) (by (with_reducible repeat (first | refine blk_drewN ?_ _ | refine blk_drew ?_ | refine blk_alloc ?_ _)); refine blk_far ?_ NB584_598.out _; (with_reducible repeat (first | refine blk_drewN ?_ _ | refine blk_drew ?_ | refine blk_alloc ?_ _)); refine blk_far ?_ NB584_598.out _; (with_reducible repeat (first | refine blk_drewN ?_ _ | refine blk_drew ?_ | refine blk_alloc ?_ _)); exact BK584.out) NB584_588.out (by simp)); have n1_ := zM (Kd.R_mono (Kd.R_keep (IsS73.apart (show IsS73 w _ g588 t585 t596 t597 from (zI73_2 NB588_584.out NB588_598.out HI588.out)) (by (with_reducible repeat (first | apply Kd.R_alloc | apply Kd.R_drewN | apply Kd.R_drew)); exact (Kd.R_mono (Kd.R_far (p := ⟨gb598, 1, none⟩) (Kd.R_far (p := ⟨gb598, 0, none⟩) (Kd.R_mono HO591.out (fun k_ hk => (⟨hk, hk.2⟩ : _ ∧ k_ ≠ gb598))) (fun _ hk => hk.2) (.int .i64 t594)) (fun _ hk => hk.2) (.string t595)) (fun _ h_ => h_.1))) (by decide)) hk (fun _ h => h.2)) (fun _ h => h.1)); have n2_ := zM (KeepBut.blk hk (g' := gb598) (o := .cells #[.int .i64 t594, .string t595] 44 (0, 0)) (by (with_reducible repeat (first | refine blk_drewN ?_ _ | refine blk_drew ?_ | refine blk_alloc ?_ _)); refine blk_put (cs := #[.int .i64 t594, .string (⟨#[]⟩ : ByteArray)]) ?_ 1 _ rfl; (with_reducible repeat (first | refine blk_drewN ?_ _ | refine blk_drew ?_ | refine blk_alloc ?_ _)); refine blk_put (cs := #[.int .i64 0, .string (⟨#[]⟩ : ByteArray)]) ?_ 0 _ rfl; (with_reducible repeat (first | refine blk_drewN ?_ _ | refine blk_drew ?_ | refine blk_alloc ?_ _)); exact BK598.out) NB598_588.out (by simp)); have n3_ := zM (hb); have n4_ := zM (hi); clear BK584; clear HO591; clear BK598; clear HB; clear HI588; have BK584 := n0_; have HO591 := n1_; have BK598 := n2_; have HB := n3_; have HI588 := n4_; clear n0_ n1_ n2_ n3_ n4_; (try clear hb); (try clear hb2); (try clear hk); (try clear hi); have hcz17_0 : w16.cell? ⟨gb598, 0, none⟩ = some (.int .i64 t594) := (blk_cell BK598.out 0).trans rfl; have hcz17_1 : w16.cell? ⟨gb598, 1, none⟩ = some (.string t595) := (blk_cell BK598.out 1).trans rfl; have hfz17_0 := blk_frozen BK598.out 0; have hfz17_1 := blk_frozen BK598.out 1))
  have n0_ : Aside0 (Kd.R k44 44 (w16.setCell ⟨gb598, 1, none⟩ (.string (⟨#[122, 122]⟩ : ByteArray))) w.heap.size (fun k_ => k_ ≠ gb584 ∧ k_ ≠ gb598) v590 t589) := ⟨by (with_reducible repeat (first | apply Kd.R_alloc | apply Kd.R_drewN | apply Kd.R_drew)); exact Kd.R_mono (Kd.R_far (p := ⟨gb598, 1, none⟩) (Kd.R_mono HO591.out (fun k_ hk => (⟨hk, hk.2⟩ : _ ∧ k_ ≠ gb598))) (fun _ hk => hk.2) (.string (⟨#[122, 122]⟩ : ByteArray))) (fun _ hk => ⟨hk.1.1.2, hk.1.2⟩)⟩
  have n1_ : Aside0 ((w16.setCell ⟨gb598, 1, none⟩ (.string (⟨#[122, 122]⟩ : ByteArray))).heap[gb584]? = some (.cells #[.int .i64 0, .string (⟨#[]⟩ : ByteArray)] 44 (0, 0))) := ⟨by (with_reducible repeat (first | refine blk_drewN ?_ _ | refine blk_drew ?_ | refine blk_alloc ?_ _)); refine blk_far ?_ NB584_598.out _; (with_reducible repeat (first | refine blk_drewN ?_ _ | refine blk_drew ?_ | refine blk_alloc ?_ _)); exact BK584.out⟩
  have n2_ : Aside0 ((w16.setCell ⟨gb598, 1, none⟩ (.string (⟨#[122, 122]⟩ : ByteArray))).heap[gb598]? = some (.cells #[.int .i64 t594, .string (⟨#[122, 122]⟩ : ByteArray)] 44 (0, 0))) := ⟨by (with_reducible repeat (first | refine blk_drewN ?_ _ | refine blk_drew ?_ | refine blk_alloc ?_ _)); refine blk_put (cs := #[.int .i64 t594, .string t595]) ?_ 1 _ rfl; (with_reducible repeat (first | refine blk_drewN ?_ _ | refine blk_drew ?_ | refine blk_alloc ?_ _)); exact BK598.out⟩
  have n3_ : Aside0 (IsS73 w (w16.setCell ⟨gb598, 1, none⟩ (.string (⟨#[122, 122]⟩ : ByteArray))) g588 t585 t600 t601) := ⟨(zI73_2 NB588_584.out NB588_598.out HI588.out)⟩
  have n4_ : Aside0 (Below w.heap.size w (w16.setCell ⟨gb598, 1, none⟩ (.string (⟨#[122, 122]⟩ : ByteArray)))) := ⟨(zB3 (IsS73.ge HI588.out) GE584.out GE598.out HB.out)⟩
  (try clear HO591)
  (try clear BK584)
  (try clear BK598)
  (try clear HI588)
  (try clear HB)
  generalize (w16.setCell ⟨gb598, 1, none⟩ (.string (⟨#[122, 122]⟩ : ByteArray))) = w18 at n0_ n1_ n2_ n3_ n4_ ⊢
  have HO591 := n0_
  have BK584 := n1_
  have BK598 := n2_
  have HI588 := n3_
  have HB := n4_
  clear n0_ n1_ n2_ n3_ n4_
  have n0_ := zM (Kd.R_drew HO591.out)
  have n1_ := zM (blk_drew BK584.out)
  have n2_ := zM (blk_drew BK598.out)
  have n3_ := zM (IsS73.drew HI588.out)
  have n4_ := zM (below_drew1 HB.out)
  clear HO591
  clear BK584
  clear BK598
  clear HI588
  clear HB
  have HO591 := n0_
  have BK584 := n1_
  have BK598 := n2_
  have HI588 := n3_
  have HB := n4_
  clear n0_ n1_ n2_ n3_ n4_
  refine start_ (n := 8) (S := fun w' => w'.cell? ⟨gb598, 0, none⟩ = some (.int .i64 t594) ∧ w'.cell? ⟨gb598, 1, none⟩ = some (.string (⟨#[122, 122]⟩ : ByteArray))) (ds := []) (ba 8 0).toArray (by kernel_rfl) rfl rfl ⟨(blk_cell BK598.out 0).trans rfl, (blk_cell BK598.out 1).trans rfl⟩ (fun hHeld => ?_); refine with_tabW spec_DrawAddPiece.tab9 spec_DrawAddPiece.bits9 (fun HT_ HW_ => ?_)
  generalize w18.drew = w19 at HO591 BK584 BK598 HI588 HB hHeld ⊢
  refine zq 0 (some 24) (ba 8 1).toArray HT_ ?_
  refine zq 1 (some 25) (ba 8 3).toArray HT_ ?_
  refine zt2 4 (some 28) (ba 8 19).toArray HT_ HW_ hHeld ?_
  refine one_ (i := 2) (N := some 26) (ba 8 23).toArray rfl rfl (one_of HT_.out (by kernel_rfl)) (by decide) (fun K hK => ?_)
  refine Kd.R_lit_step (Kd.int .i64) _ 3 ?hg (N := 26) ?hd (xs := ([20, 20, 20, 15] : List Int)) (inner := [.int .i64 20, .int .i64 20, .int .i64 20, .int .i64 15]) (ok := fun _ => True) (okp := fun _ => True) ?hr ?hp (fun _ hk => hk) trivial (Below.refl _ _) (Nat.le_refl _) (by simp) ?_; (case hd => rfl); (case hg => rfl); (case hr => first | (go_simp; done) | (go_simp; rfl)); (case hp => exact (Reps.one (show Kd.M (Kd.int .i64) _ _ _ 20 [.int .i64 20] from rfl) (Reps.one (show Kd.M (Kd.int .i64) _ _ _ 20 [.int .i64 20] from rfl) (Reps.one (show Kd.M (Kd.int .i64) _ _ _ 20 [.int .i64 20] from rfl) (Reps.one (show Kd.M (Kd.int .i64) _ _ _ 15 [.int .i64 15] from rfl) (Reps.none _ _))))))
  intro v603 w20 ho21 hb hg_ hnew_
  clear hg_ hnew_
  (first | rw [← Ny602.out] at ho21 | (simp only [Int.reduceToNat] at ho21; rw [← Ny602.out] at ho21))
  have n0_ := zM (Kd.R_below (zR HO591.out) hb)
  have n1_ := zM (Kd.R_lower ho21 (below_size (zB3 (IsS73.ge HI588.out) GE584.out GE598.out HB.out)))
  have n2_ := zM (blk_below (g := gb584) (o := .cells #[.int .i64 0, .string (⟨#[]⟩ : ByteArray)] 44 (0, 0)) (zP BK584.out) hb)
  have n3_ := zM (IsS73.below (zI73_2 NB588_584.out NB588_598.out HI588.out) hb)
  have n4_ := zM (blk_below (g := gb598) (o := .cells #[.int .i64 t594, .string (⟨#[122, 122]⟩ : ByteArray)] 44 (0, 0)) (zP BK598.out) hb)
  have n5_ := zM (below_step (zB3 (IsS73.ge HI588.out) GE584.out GE598.out HB.out) hb)
  clear HO591
  clear BK584
  clear HI588
  clear BK598
  clear HB
  have HO591 := n0_
  have HO604 := n1_
  have BK584 := n2_
  have HI588 := n3_
  have BK598 := n4_
  have HB := n5_
  clear n0_ n1_ n2_ n3_ n4_ n5_
  clear hb ho21
  obtain ⟨Ao22, co22, eo22⟩ := Kd.R_slice HO604.out
  (first | subst eo22 | (injection eo22 with f1_ f2_ f3_; have f4_ := f1_.symm; have f5_ := f3_.symm; clear f1_ f2_ f3_; subst f4_; subst f5_))
  refine hK.out _ _ ⟨(blk_cell BK598.out 0).trans rfl, (blk_cell BK598.out 1).trans rfl⟩ (fun hHeld => ?_)
  clear hK K
  refine norm_ (a' := ?_) ?_ ?_
  rotate_left
  ·show Act.put _ (some 26) _ = _
   simp only [Act.put, List.setIfInBounds_toArray, List.set_cons_zero, List.set_cons_succ, i64_w, i32_w]
   rfl
  refine one_ (i := 3) (N := some 27) (ba 8 31).toArray rfl rfl (one_of HT_.out (by kernel_rfl)) (by decide) (fun K hK => ?_)
  refine goes_ Try.func51 (by kernel_rfl) rfl #[.pointer (some ⟨g588, 0, none⟩), .slice Ao22 y602.length co22] (by rfl) rfl rfl (by (try simp only [List.map_toArray, List.map_cons, List.map_nil]); first | done | rfl | (simp only [List.length_drop, List.length_take]; rfl)) ?_
  with_reducible refine (spec_l1Int.calls g588 t585 t600 t601 _ _ y602 t605 t606 t607 w _ ?side1 ?side2 ?side3 ?side4 ?side5 A7.out).mono ?_
  (case side1 => exact (zI73_2 NB588_584.out NB588_598.out HI588.out))
  (case side2 => exact (zB3 (IsS73.ge HI588.out) GE584.out GE598.out HB.out))
  (case side3 => exact (zC ((Kd.R_reads' HO604.out).2.2)))
  (case side4 => exact (Kd.R_reads' HO604.out).2.1)
  (case side5 => exact far_slice (IsS73.own_ne HI588.out HO604.out (by decide)))
  rintro e w23 ⟨rfl, hi, hb, hk⟩
  refine ⟨_, rfl, ?_⟩
  have n0_ := zM (KeepBut.blk hk (g' := gb584) (o := .cells #[.int .i64 0, .string (⟨#[]⟩ : ByteArray)] 44 (0, 0)) (zP BK584.out) NB584_588.out (by simp))
  have n1_ := zM (Kd.R_mono (Kd.R_keep (IsS73.apart (show IsS73 w _ g588 t585 t600 t601 from (zI73_2 NB588_584.out NB588_598.out HI588.out)) (zR HO591.out) (by decide)) hk (fun _ h => h.2)) (fun _ h => h.1))
  have n2_ := zM (KeepBut.blk hk (g' := gb598) (o := .cells #[.int .i64 t594, .string (⟨#[122, 122]⟩ : ByteArray)] 44 (0, 0)) (zP BK598.out) NB598_588.out (by simp))
  have n3_ := zM (Kd.R_mono (Kd.R_keep (IsS73.apart (show IsS73 w _ g588 t585 t600 t601 from (zI73_2 NB588_584.out NB588_598.out HI588.out)) (zR HO604.out) (by decide)) hk (fun _ h => h.2)) (fun _ h => h.1))
  have n4_ := zM (hb)
  have n5_ := zM (hi)
  clear BK584
  clear HO591
  clear BK598
  clear HO604
  clear HB
  clear HI588
  have BK584 := n0_
  have HO591 := n1_
  have BK598 := n2_
  have HO604 := n3_
  have HB := n4_
  have HI588 := n5_
  clear n0_ n1_ n2_ n3_ n4_ n5_
  (try clear hb)
  (try clear hb2)
  (try clear hk)
  (try clear hi)
  refine hK.out _ _ ⟨(blk_cell BK598.out 0).trans rfl, (blk_cell BK598.out 1).trans rfl⟩ (fun hHeld => ?_)
  clear hK K
  refine norm_ (a' := ?_) ?_ ?_
  rotate_left
  ·show Act.put _ (some 27) _ = _
   simp only [Act.put, List.setIfInBounds_toArray, List.set_cons_zero, List.set_cons_succ, i64_w, i32_w]
   rfl
  refine zq 5 (some 2) (ba 8 63).toArray HT_ ?_
  refine zq 6 (some 3) (ba 8 127).toArray HT_ ?_
  refine one_ (i := 7) (N := none) (ba 8 255).toArray rfl rfl (one_of HT_.out (by kernel_rfl)) (by decide) (fun K hK => ?_)
  have hs24 : w23.cell? ⟨gb584, 0, none⟩ = some (.int .i64 0) := (blk_cell BK584.out 0).trans rfl
  have hfs24 := blk_frozen BK584.out 0
  have hns24_1 := NB598_584.out
  have hms24_1 := NB584_598.out
  have hs25 : w23.cell? ⟨gb584, 1, none⟩ = some (.string (⟨#[]⟩ : ByteArray)) := (blk_cell BK584.out 1).trans rfl
  have hfs25 := blk_frozen BK584.out 1
  have hns25_1 := NB598_584.out
  have hms25_1 := NB584_598.out
  refine skip_ (w1 := ?_) (by rfl) rfl ?_ ?_
  rotate_left
  ·go_simp
   rfl
  refine hK.out _ _ ⟨((cell_far (p := ⟨gb584, _, none⟩) NB598_584.out _).trans (((cell_far (p := ⟨gb584, _, none⟩) NB598_584.out _).trans (hHeld.1)))), ((cell_far (p := ⟨gb584, _, none⟩) NB598_584.out _).trans (((cell_far (p := ⟨gb584, _, none⟩) NB598_584.out _).trans (hHeld.2))))⟩ (fun hHeld => ?_)
  clear hK K
  refine done_ (done_of HT_.out (by kernel_rfl)) ?_
  try go_wp2
  refine bodyPost_ret (results_list (rs := [.tmp 2, .tmp 3, .cell 4 44]) rfl (by simp) (.tmp (.tmp (.cell gb584 44 #[.int .i64 t594, .string (⟨#[122, 122]⟩ : ByteArray)] (0, 0) _ rfl (by (with_reducible repeat (first | refine blk_drewN ?_ _ | refine blk_drew ?_ | refine blk_alloc ?_ _)); refine blk_put (cs := #[.int .i64 t594, .string (⟨#[]⟩ : ByteArray)]) ?_ 1 _ rfl; (with_reducible repeat (first | refine blk_drewN ?_ _ | refine blk_drew ?_ | refine blk_alloc ?_ _)); refine blk_put (cs := #[.int .i64 0, .string (⟨#[]⟩ : ByteArray)]) ?_ 0 _ rfl; (with_reducible repeat (first | refine blk_drewN ?_ _ | refine blk_drew ?_ | refine blk_alloc ?_ _)); exact BK584.out) Try.underlying44 rfl (by kernel_rfl) .nil)))) rfl ?_
  exact ⟨_, zE, by (with_reducible repeat (first | apply Kd.R_alloc | apply Kd.R_drewN | apply Kd.R_drew)); exact Kd.R_mono (Kd.R_far (p := ⟨gb584, 1, none⟩) (Kd.R_far (p := ⟨gb584, 0, none⟩) (Kd.R_mono HO591.out (fun k_ hk => (⟨hk, hk.1⟩ : _ ∧ k_ ≠ gb584))) (fun _ hk => hk.2) (.int .i64 t594)) (fun _ hk => hk.2) (.string (⟨#[122, 122]⟩ : ByteArray))) (fun _ hk => trivial), (zB3 (IsS73.ge HI588.out) GE584.out GE598.out HB.out)⟩
 ·rw [if_neg c6] at H
  have c6b0 : (t599 == 0) = false := beq_eq_false_iff_ne.mpr c6
  have c6b1 : (t599 != 0) = true := bne_iff_ne.mpr c6
  by_cases c26 : t599 = 1
  ·rw [if_pos c26] at H
   have c26b0 : (t599 == 1) = true := beq_iff_eq.mpr c26
   have c26b1 : (t599 != 1) = false := bne_eq_false_iff_eq.mpr c26
   clear c26
   replace H := Option.bind_eq_some_iff.mp H
   obtain ⟨⟨t608, t609, t610⟩, A270, H⟩ := H
   try dsimp only at H
   have A27 := zM A270
   clear A270
   obtain ⟨y611, hy611⟩ : ∃ y_ : List Int, y_ = (([20, 20, 20, 15] : List Int)) := ⟨_, rfl⟩
   replace H : ((spec_l1Int.f t585 t609 t610 y611).bind fun bt614 => (some (t589, bt614.1, t608, t595))) = some (r1, r2, r3, r4) := zH hy611 H
   have Ny611 := zM hy611
   clear hy611
   replace H := Option.bind_eq_some_iff.mp H
   obtain ⟨⟨t614, t615, t616⟩, A280, H⟩ := H
   try dsimp only at H
   have A28 := zM A280
   clear A280
   simp only [Option.some.injEq, Prod.mk.injEq] at H
   obtain ⟨rfl, rfl, rfl, rfl⟩ := H
   go_enter Try.func27, Try.ntmps27
   try go_wp2_with (first | ((with_reducible refine gate_dst (N := 4) rfl ?_); refine box_event ?hg (N := 4) ?hd (cs := #[.int .i64 0, .string (⟨#[]⟩ : ByteArray)]) (t := 44) ?hr ?_; (case hd => rfl); (case hg => rfl); (case hr => first | (go_simp; done) | (go_simp; rfl)); intro gb584 hg w29 hbox hb; have n0_ := zM (below_step (zB HB.out) hb); have n1_ := zM (hbox); have n2_ := zM ((by rw [hg]; exact (below_size (zB HB.out)) : w.heap.size ≤ gb584)); have n3_ := zM ((by rw [hg]; exact (below_size (zB HB.out)) : w.heap.size ≤ gb584)); clear HB; have HB := n0_; have BK584 := n1_; have GW584 := n2_; have GE584 := n3_; clear n0_ n1_ n2_ n3_; clear hb hbox hg) | ((with_reducible refine gate_callee (f := 33) rfl ?_); refine zG (some 9) Try.func33 #[.slice A0 l0.length c0] ?_; (with_reducible refine (spec_l1New.calls k _ _ l0 t585 t586 t587 w _ ?side1 ?side2 ?side3 A2.out).mono ?_); (case side1 => exact (zB1 GE584.out HB.out)); (case side2 => exact HR0.out); (case side3 => exact HC0.out); rintro e w30 ⟨g588, rfl, hi, hb, hb2⟩; refine ⟨_, rfl, ?_⟩; have n0_ := zM (blk_below (g := gb584) (o := .cells #[.int .i64 0, .string (⟨#[]⟩ : ByteArray)] 44 (0, 0)) (zP BK584.out) hb2); have n1_ := zM (hb); have n2_ := zM (hi); have n3_ := zM (IsS73.ne_blk hi (blk_below (g := gb584) (o := .cells #[.int .i64 0, .string (⟨#[]⟩ : ByteArray)] 44 (0, 0)) (zP BK584.out) hb2) (by decide)); have n4_ := zM (Ne.symm (IsS73.ne_blk hi (blk_below (g := gb584) (o := .cells #[.int .i64 0, .string (⟨#[]⟩ : ByteArray)] 44 (0, 0)) (zP BK584.out) hb2) (by decide))); clear BK584; clear HB; have BK584 := n0_; have HB := n1_; have HI588 := n2_; have NB588_584 := n3_; have NB584_588 := n4_; clear n0_ n1_ n2_ n3_ n4_; (try clear hb); (try clear hb2); (try clear hk); (try clear hi)) | ((with_reducible refine gate_callee (f := 49) rfl ?_); refine zG (some 11) Try.func49 #[.pointer (some ⟨g588, 0, none⟩)] ?_; (with_reducible refine (spec_l10Draw.calls k g588 t585 t586 t587 t589 t592 t593 w _ ?side1 ?side2 A3.out).mono ?_); (case side1 => exact (zI73_1 NB588_584.out HI588.out)); (case side2 => exact (zB2 (IsS73.ge HI588.out) GE584.out HB.out)); rintro e w31 ⟨v590, rfl, ho0, hi, hb, hk⟩; refine ⟨_, rfl, ?_⟩; have n0_ := zM (KeepBut.blk hk (g' := gb584) (o := .cells #[.int .i64 0, .string (⟨#[]⟩ : ByteArray)] 44 (0, 0)) (zP BK584.out) NB584_588.out (by simp)); have n1_ := zM (Kd.R_lower (Kd.R_newB ho0 (g := gb584) (o := .cells #[.int .i64 0, .string (⟨#[]⟩ : ByteArray)] 44 (0, 0)) (zP BK584.out)) (below_size (zB2 (IsS73.ge HI588.out) GE584.out HB.out))); have n2_ := zM (hb); have n3_ := zM (hi); clear BK584; clear HB; clear HI588; have BK584 := n0_; have HO591 := n1_; have HB := n2_; have HI588 := n3_; clear n0_ n1_ n2_ n3_; (try clear hb); (try clear hb2); (try clear hk); (try clear hi); (try clear ho0)) | ((with_reducible refine gate_callee (f := 50) rfl ?_); refine zG (some 13) Try.func50 #[.pointer (some ⟨g588, 0, none⟩)] ?_; (with_reducible refine (spec_l10Piece.calls g588 t585 t592 t593 t594 t595 t596 t597 w _ ?side1 ?side2 A4.out).mono ?_); (case side1 => exact (zI73_1 NB588_584.out HI588.out)); (case side2 => exact (zB2 (IsS73.ge HI588.out) GE584.out HB.out)); rintro e w32 ⟨rfl, hi, hb, hk⟩; refine ⟨_, rfl, ?_⟩; have n0_ := zM (KeepBut.blk hk (g' := gb584) (o := .cells #[.int .i64 0, .string (⟨#[]⟩ : ByteArray)] 44 (0, 0)) (zP BK584.out) NB584_588.out (by simp)); have n1_ := zM (Kd.R_mono (Kd.R_keep (IsS73.apart (show IsS73 w _ g588 t585 t592 t593 from (zI73_1 NB588_584.out HI588.out)) (zR HO591.out) (by decide)) hk (fun _ h => h.2)) (fun _ h => h.1)); have n2_ := zM (hb); have n3_ := zM (hi); clear BK584; clear HO591; clear HB; clear HI588; have BK584 := n0_; have HO591 := n1_; have HB := n2_; have HI588 := n3_; clear n0_ n1_ n2_ n3_; (try clear hb); (try clear hb2); (try clear hk); (try clear hi)) | ((with_reducible refine gate_dst (N := 7) rfl ?_); refine box_event ?hg (N := 7) ?hd (cs := #[.int .i64 0, .string (⟨#[]⟩ : ByteArray)]) (t := 44) ?hr ?_; (case hd => rfl); (case hg => rfl); (case hr => first | (go_simp; done) | (go_simp; rfl)); intro gb598 hg w33 hbox hb; have n0_ := zM (Kd.R_below (Kd.R_elderB (zR HO591.out) gb598 (Nat.le_of_eq hg.symm)) hb); have n1_ := zM (blk_below (g := gb584) (o := .cells #[.int .i64 0, .string (⟨#[]⟩ : ByteArray)] 44 (0, 0)) (zP BK584.out) hb); have n2_ := zM (IsS73.below (zI73_1 NB588_584.out HI588.out) hb); have n3_ := zM (below_step (zB2 (IsS73.ge HI588.out) GE584.out HB.out) hb); have n4_ := zM (hbox); have n5_ := zM ((by rw [hg]; exact (below_size (zB2 (IsS73.ge HI588.out) GE584.out HB.out)) : w.heap.size ≤ gb598)); have n6_ := zM ((by rw [hg]; exact (below_size (zB2 (IsS73.ge HI588.out) GE584.out HB.out)) : w.heap.size ≤ gb598)); have n7_ := zM ((by rw [hg]; exact Nat.ne_of_lt (blk_lt (g := gb584) (o := .cells #[.int .i64 0, .string (⟨#[]⟩ : ByteArray)] 44 (0, 0)) (zP BK584.out)) : gb584 ≠ gb598)); have n8_ := zM ((by rw [hg]; exact Nat.ne_of_gt (blk_lt (g := gb584) (o := .cells #[.int .i64 0, .string (⟨#[]⟩ : ByteArray)] 44 (0, 0)) (zP BK584.out)) : gb598 ≠ gb584)); have n9_ := zM ((by rw [hg]; exact Nat.ne_of_lt (IsS73.lt (show IsS73 w _ g588 t585 t596 t597 from (zI73_1 NB588_584.out HI588.out))) : g588 ≠ gb598)); have n10_ := zM ((by rw [hg]; exact Nat.ne_of_gt (IsS73.lt (show IsS73 w _ g588 t585 t596 t597 from (zI73_1 NB588_584.out HI588.out))) : gb598 ≠ g588)); clear HO591; clear BK584; clear HI588; clear HB; have HO591 := n0_; have BK584 := n1_; have HI588 := n2_; have HB := n3_; have BK598 := n4_; have GW598 := n5_; have GE598 := n6_; have NB584_598 := n7_; have NB598_584 := n8_; have NB588_598 := n9_; have NB598_588 := n10_; clear n0_ n1_ n2_ n3_ n4_ n5_ n6_ n7_ n8_ n9_ n10_; clear hb hbox hg; have hnb34 := NB598_584.out; have hnc34 := NB584_598.out; have hnb35 := NB598_588.out; have hnc35 := NB588_598.out; have hcz36_0 : w33.cell? ⟨gb598, 0, none⟩ = some (.int .i64 0) := (blk_cell BK598.out 0).trans rfl; have hcz36_1 : w33.cell? ⟨gb598, 1, none⟩ = some (.string (⟨#[]⟩ : ByteArray)) := (blk_cell BK598.out 1).trans rfl; have hfz36_0 := blk_frozen BK598.out 0; have hfz36_1 := blk_frozen BK598.out 1) | ((with_reducible refine gate_callee (f := 41) rfl ?_); refine zG (some 15) Try.func41 #[.pointer (some ⟨g588, 0, none⟩), .int .i64 6] ?_; (with_reducible refine (spec_l1Below.calls g588 t585 t596 t597 6 t599 t600 t601 w _ ?side1 ?side2 A5.out).mono ?_); (case side1 => exact (zI73_2 NB588_584.out NB588_598.out HI588.out)); (case side2 => exact (zB3 (IsS73.ge HI588.out) GE584.out GE598.out HB.out)); rintro e w37 ⟨rfl, hi, hb, hk⟩; refine ⟨_, rfl, ?_⟩; have n0_ := zM (KeepBut.blk hk (g' := gb584) (o := .cells #[.int .i64 0, .string (⟨#[]⟩ : ByteArray)] 44 (0, 0)) (by (with_reducible repeat (first | refine blk_drewN ?_ _ | refine blk_drew ?_ | refine blk_alloc ?_ _)); refine blk_far ?_ NB584_598.out _; (with_reducible repeat (first | refine blk_drewN ?_ _ | refine blk_drew ?_ | refine blk_alloc ?_ _)); refine blk_far ?_ NB584_598.out _; (with_reducible repeat (first | refine blk_drewN ?_ _ | refine blk_drew ?_ | refine blk_alloc ?_ _)); exact BK584.out) NB584_588.out (by simp)); have n1_ := zM (Kd.R_mono (Kd.R_keep (IsS73.apart (show IsS73 w _ g588 t585 t596 t597 from (zI73_2 NB588_584.out NB588_598.out HI588.out)) (by (with_reducible repeat (first | apply Kd.R_alloc | apply Kd.R_drewN | apply Kd.R_drew)); exact (Kd.R_mono (Kd.R_far (p := ⟨gb598, 1, none⟩) (Kd.R_far (p := ⟨gb598, 0, none⟩) (Kd.R_mono HO591.out (fun k_ hk => (⟨hk, hk.2⟩ : _ ∧ k_ ≠ gb598))) (fun _ hk => hk.2) (.int .i64 t594)) (fun _ hk => hk.2) (.string t595)) (fun _ h_ => h_.1))) (by decide)) hk (fun _ h => h.2)) (fun _ h => h.1)); have n2_ := zM (KeepBut.blk hk (g' := gb598) (o := .cells #[.int .i64 t594, .string t595] 44 (0, 0)) (by (with_reducible repeat (first | refine blk_drewN ?_ _ | refine blk_drew ?_ | refine blk_alloc ?_ _)); refine blk_put (cs := #[.int .i64 t594, .string (⟨#[]⟩ : ByteArray)]) ?_ 1 _ rfl; (with_reducible repeat (first | refine blk_drewN ?_ _ | refine blk_drew ?_ | refine blk_alloc ?_ _)); refine blk_put (cs := #[.int .i64 0, .string (⟨#[]⟩ : ByteArray)]) ?_ 0 _ rfl; (with_reducible repeat (first | refine blk_drewN ?_ _ | refine blk_drew ?_ | refine blk_alloc ?_ _)); exact BK598.out) NB598_588.out (by simp)); have n3_ := zM (hb); have n4_ := zM (hi); clear BK584; clear HO591; clear BK598; clear HB; clear HI588; have BK584 := n0_; have HO591 := n1_; have BK598 := n2_; have HB := n3_; have HI588 := n4_; clear n0_ n1_ n2_ n3_ n4_; (try clear hb); (try clear hb2); (try clear hk); (try clear hi)) | ((with_reducible refine gate_callee (f := 37) rfl ?_); refine zG (some 22) Try.func37 #[.pointer (some ⟨g588, 0, none⟩)] ?_; (with_reducible refine (spec_l1Odd.calls g588 t585 t600 t601 t608 t609 t610 w _ ?side1 ?side2 A27.out).mono ?_); (case side1 => exact (zI73_2 NB588_584.out NB588_598.out HI588.out)); (case side2 => exact (zB3 (IsS73.ge HI588.out) GE584.out GE598.out HB.out)); rintro e w38 ⟨rfl, hi, hb, hk⟩; refine ⟨_, rfl, ?_⟩; have n0_ := zM (KeepBut.blk hk (g' := gb584) (o := .cells #[.int .i64 0, .string (⟨#[]⟩ : ByteArray)] 44 (0, 0)) (zP BK584.out) NB584_588.out (by simp)); have n1_ := zM (Kd.R_mono (Kd.R_keep (IsS73.apart (show IsS73 w _ g588 t585 t600 t601 from (zI73_2 NB588_584.out NB588_598.out HI588.out)) (zR HO591.out) (by decide)) hk (fun _ h => h.2)) (fun _ h => h.1)); have n2_ := zM (KeepBut.blk hk (g' := gb598) (o := .cells #[.int .i64 t594, .string t595] 44 (0, 0)) (zP BK598.out) NB598_588.out (by simp)); have n3_ := zM (hb); have n4_ := zM (hi); clear BK584; clear HO591; clear BK598; clear HB; clear HI588; have BK584 := n0_; have HO591 := n1_; have BK598 := n2_; have HB := n3_; have HI588 := n4_; clear n0_ n1_ n2_ n3_ n4_; (try clear hb); (try clear hb2); (try clear hk); (try clear hi); have hcz39_0 : w38.cell? ⟨gb598, 0, none⟩ = some (.int .i64 t594) := (blk_cell BK598.out 0).trans rfl; have hcz39_1 : w38.cell? ⟨gb598, 1, none⟩ = some (.string t595) := (blk_cell BK598.out 1).trans rfl; have hfz39_0 := blk_frozen BK598.out 0; have hfz39_1 := blk_frozen BK598.out 1))
   have n0_ : Aside0 (Kd.R k44 44 (w38.setCell ⟨gb598, 0, none⟩ (.int .i64 t608)) w.heap.size (fun k_ => k_ ≠ gb584 ∧ k_ ≠ gb598) v590 t589) := ⟨by (with_reducible repeat (first | apply Kd.R_alloc | apply Kd.R_drewN | apply Kd.R_drew)); exact Kd.R_mono (Kd.R_far (p := ⟨gb598, 0, none⟩) (Kd.R_mono HO591.out (fun k_ hk => (⟨hk, hk.2⟩ : _ ∧ k_ ≠ gb598))) (fun _ hk => hk.2) (.int .i64 t608)) (fun _ hk => ⟨hk.1.1.2, hk.1.2⟩)⟩
   have n1_ : Aside0 ((w38.setCell ⟨gb598, 0, none⟩ (.int .i64 t608)).heap[gb584]? = some (.cells #[.int .i64 0, .string (⟨#[]⟩ : ByteArray)] 44 (0, 0))) := ⟨by (with_reducible repeat (first | refine blk_drewN ?_ _ | refine blk_drew ?_ | refine blk_alloc ?_ _)); refine blk_far ?_ NB584_598.out _; (with_reducible repeat (first | refine blk_drewN ?_ _ | refine blk_drew ?_ | refine blk_alloc ?_ _)); exact BK584.out⟩
   have n2_ : Aside0 ((w38.setCell ⟨gb598, 0, none⟩ (.int .i64 t608)).heap[gb598]? = some (.cells #[.int .i64 t608, .string t595] 44 (0, 0))) := ⟨by (with_reducible repeat (first | refine blk_drewN ?_ _ | refine blk_drew ?_ | refine blk_alloc ?_ _)); refine blk_put (cs := #[.int .i64 t594, .string t595]) ?_ 0 _ rfl; (with_reducible repeat (first | refine blk_drewN ?_ _ | refine blk_drew ?_ | refine blk_alloc ?_ _)); exact BK598.out⟩
   have n3_ : Aside0 (IsS73 w (w38.setCell ⟨gb598, 0, none⟩ (.int .i64 t608)) g588 t585 t609 t610) := ⟨(zI73_2 NB588_584.out NB588_598.out HI588.out)⟩
   have n4_ : Aside0 (Below w.heap.size w (w38.setCell ⟨gb598, 0, none⟩ (.int .i64 t608))) := ⟨(zB3 (IsS73.ge HI588.out) GE584.out GE598.out HB.out)⟩
   (try clear HO591)
   (try clear BK584)
   (try clear BK598)
   (try clear HI588)
   (try clear HB)
   generalize (w38.setCell ⟨gb598, 0, none⟩ (.int .i64 t608)) = w40 at n0_ n1_ n2_ n3_ n4_ ⊢
   have HO591 := n0_
   have BK584 := n1_
   have BK598 := n2_
   have HI588 := n3_
   have HB := n4_
   clear n0_ n1_ n2_ n3_ n4_
   have n0_ := zM (Kd.R_drew HO591.out)
   have n1_ := zM (blk_drew BK584.out)
   have n2_ := zM (blk_drew BK598.out)
   have n3_ := zM (IsS73.drew HI588.out)
   have n4_ := zM (below_drew1 HB.out)
   clear HO591
   clear BK584
   clear BK598
   clear HI588
   clear HB
   have HO591 := n0_
   have BK584 := n1_
   have BK598 := n2_
   have HI588 := n3_
   have HB := n4_
   clear n0_ n1_ n2_ n3_ n4_
   refine start_ (n := 8) (S := fun w' => w'.cell? ⟨gb598, 0, none⟩ = some (.int .i64 t608) ∧ w'.cell? ⟨gb598, 1, none⟩ = some (.string t595)) (ds := []) (ba 8 0).toArray (by kernel_rfl) rfl rfl ⟨(blk_cell BK598.out 0).trans rfl, (blk_cell BK598.out 1).trans rfl⟩ (fun hHeld => ?_); refine with_tabW spec_DrawAddPiece.tab9 spec_DrawAddPiece.bits9 (fun HT_ HW_ => ?_)
   generalize w40.drew = w41 at HO591 BK584 BK598 HI588 HB hHeld ⊢
   refine zq 0 (some 24) (ba 8 1).toArray HT_ ?_
   refine zq 1 (some 25) (ba 8 3).toArray HT_ ?_
   refine zt2 4 (some 28) (ba 8 19).toArray HT_ HW_ hHeld ?_
   refine one_ (i := 2) (N := some 26) (ba 8 23).toArray rfl rfl (one_of HT_.out (by kernel_rfl)) (by decide) (fun K hK => ?_)
   refine Kd.R_lit_step (Kd.int .i64) _ 3 ?hg (N := 26) ?hd (xs := ([20, 20, 20, 15] : List Int)) (inner := [.int .i64 20, .int .i64 20, .int .i64 20, .int .i64 15]) (ok := fun _ => True) (okp := fun _ => True) ?hr ?hp (fun _ hk => hk) trivial (Below.refl _ _) (Nat.le_refl _) (by simp) ?_; (case hd => rfl); (case hg => rfl); (case hr => first | (go_simp; done) | (go_simp; rfl)); (case hp => exact (Reps.one (show Kd.M (Kd.int .i64) _ _ _ 20 [.int .i64 20] from rfl) (Reps.one (show Kd.M (Kd.int .i64) _ _ _ 20 [.int .i64 20] from rfl) (Reps.one (show Kd.M (Kd.int .i64) _ _ _ 20 [.int .i64 20] from rfl) (Reps.one (show Kd.M (Kd.int .i64) _ _ _ 15 [.int .i64 15] from rfl) (Reps.none _ _))))))
   intro v612 w42 ho43 hb hg_ hnew_
   clear hg_ hnew_
   (first | rw [← Ny611.out] at ho43 | (simp only [Int.reduceToNat] at ho43; rw [← Ny611.out] at ho43))
   have n0_ := zM (Kd.R_below (zR HO591.out) hb)
   have n1_ := zM (Kd.R_lower ho43 (below_size (zB3 (IsS73.ge HI588.out) GE584.out GE598.out HB.out)))
   have n2_ := zM (blk_below (g := gb584) (o := .cells #[.int .i64 0, .string (⟨#[]⟩ : ByteArray)] 44 (0, 0)) (zP BK584.out) hb)
   have n3_ := zM (IsS73.below (zI73_2 NB588_584.out NB588_598.out HI588.out) hb)
   have n4_ := zM (blk_below (g := gb598) (o := .cells #[.int .i64 t608, .string t595] 44 (0, 0)) (zP BK598.out) hb)
   have n5_ := zM (below_step (zB3 (IsS73.ge HI588.out) GE584.out GE598.out HB.out) hb)
   clear HO591
   clear BK584
   clear HI588
   clear BK598
   clear HB
   have HO591 := n0_
   have HO613 := n1_
   have BK584 := n2_
   have HI588 := n3_
   have BK598 := n4_
   have HB := n5_
   clear n0_ n1_ n2_ n3_ n4_ n5_
   clear hb ho43
   obtain ⟨Ao44, co44, eo44⟩ := Kd.R_slice HO613.out
   (first | subst eo44 | (injection eo44 with f1_ f2_ f3_; have f4_ := f1_.symm; have f5_ := f3_.symm; clear f1_ f2_ f3_; subst f4_; subst f5_))
   refine hK.out _ _ ⟨(blk_cell BK598.out 0).trans rfl, (blk_cell BK598.out 1).trans rfl⟩ (fun hHeld => ?_)
   clear hK K
   refine norm_ (a' := ?_) ?_ ?_
   rotate_left
   ·show Act.put _ (some 26) _ = _
    simp only [Act.put, List.setIfInBounds_toArray, List.set_cons_zero, List.set_cons_succ, i64_w, i32_w]
    rfl
   refine one_ (i := 3) (N := some 27) (ba 8 31).toArray rfl rfl (one_of HT_.out (by kernel_rfl)) (by decide) (fun K hK => ?_)
   refine goes_ Try.func51 (by kernel_rfl) rfl #[.pointer (some ⟨g588, 0, none⟩), .slice Ao44 y611.length co44] (by rfl) rfl rfl (by (try simp only [List.map_toArray, List.map_cons, List.map_nil]); first | done | rfl | (simp only [List.length_drop, List.length_take]; rfl)) ?_
   with_reducible refine (spec_l1Int.calls g588 t585 t609 t610 _ _ y611 t614 t615 t616 w _ ?side1 ?side2 ?side3 ?side4 ?side5 A28.out).mono ?_
   (case side1 => exact (zI73_2 NB588_584.out NB588_598.out HI588.out))
   (case side2 => exact (zB3 (IsS73.ge HI588.out) GE584.out GE598.out HB.out))
   (case side3 => exact (zC ((Kd.R_reads' HO613.out).2.2)))
   (case side4 => exact (Kd.R_reads' HO613.out).2.1)
   (case side5 => exact far_slice (IsS73.own_ne HI588.out HO613.out (by decide)))
   rintro e w45 ⟨rfl, hi, hb, hk⟩
   refine ⟨_, rfl, ?_⟩
   have n0_ := zM (KeepBut.blk hk (g' := gb584) (o := .cells #[.int .i64 0, .string (⟨#[]⟩ : ByteArray)] 44 (0, 0)) (zP BK584.out) NB584_588.out (by simp))
   have n1_ := zM (Kd.R_mono (Kd.R_keep (IsS73.apart (show IsS73 w _ g588 t585 t609 t610 from (zI73_2 NB588_584.out NB588_598.out HI588.out)) (zR HO591.out) (by decide)) hk (fun _ h => h.2)) (fun _ h => h.1))
   have n2_ := zM (KeepBut.blk hk (g' := gb598) (o := .cells #[.int .i64 t608, .string t595] 44 (0, 0)) (zP BK598.out) NB598_588.out (by simp))
   have n3_ := zM (Kd.R_mono (Kd.R_keep (IsS73.apart (show IsS73 w _ g588 t585 t609 t610 from (zI73_2 NB588_584.out NB588_598.out HI588.out)) (zR HO613.out) (by decide)) hk (fun _ h => h.2)) (fun _ h => h.1))
   have n4_ := zM (hb)
   have n5_ := zM (hi)
   clear BK584
   clear HO591
   clear BK598
   clear HO613
   clear HB
   clear HI588
   have BK584 := n0_
   have HO591 := n1_
   have BK598 := n2_
   have HO613 := n3_
   have HB := n4_
   have HI588 := n5_
   clear n0_ n1_ n2_ n3_ n4_ n5_
   (try clear hb)
   (try clear hb2)
   (try clear hk)
   (try clear hi)
   refine hK.out _ _ ⟨(blk_cell BK598.out 0).trans rfl, (blk_cell BK598.out 1).trans rfl⟩ (fun hHeld => ?_)
   clear hK K
   refine norm_ (a' := ?_) ?_ ?_
   rotate_left
   ·show Act.put _ (some 27) _ = _
    simp only [Act.put, List.setIfInBounds_toArray, List.set_cons_zero, List.set_cons_succ, i64_w, i32_w]
    rfl
   refine zq 5 (some 2) (ba 8 63).toArray HT_ ?_
   refine zq 6 (some 3) (ba 8 127).toArray HT_ ?_
   refine one_ (i := 7) (N := none) (ba 8 255).toArray rfl rfl (one_of HT_.out (by kernel_rfl)) (by decide) (fun K hK => ?_)
   have hs46 : w45.cell? ⟨gb584, 0, none⟩ = some (.int .i64 0) := (blk_cell BK584.out 0).trans rfl
   have hfs46 := blk_frozen BK584.out 0
   have hns46_1 := NB598_584.out
   have hms46_1 := NB584_598.out
   have hs47 : w45.cell? ⟨gb584, 1, none⟩ = some (.string (⟨#[]⟩ : ByteArray)) := (blk_cell BK584.out 1).trans rfl
   have hfs47 := blk_frozen BK584.out 1
   have hns47_1 := NB598_584.out
   have hms47_1 := NB584_598.out
   refine skip_ (w1 := ?_) (by rfl) rfl ?_ ?_
   rotate_left
   ·go_simp
    rfl
   refine hK.out _ _ ⟨((cell_far (p := ⟨gb584, _, none⟩) NB598_584.out _).trans (((cell_far (p := ⟨gb584, _, none⟩) NB598_584.out _).trans (hHeld.1)))), ((cell_far (p := ⟨gb584, _, none⟩) NB598_584.out _).trans (((cell_far (p := ⟨gb584, _, none⟩) NB598_584.out _).trans (hHeld.2))))⟩ (fun hHeld => ?_)
   clear hK K
   refine done_ (done_of HT_.out (by kernel_rfl)) ?_
   try go_wp2
   refine bodyPost_ret (results_list (rs := [.tmp 2, .tmp 3, .cell 4 44]) rfl (by simp) (.tmp (.tmp (.cell gb584 44 #[.int .i64 t608, .string t595] (0, 0) _ rfl (by (with_reducible repeat (first | refine blk_drewN ?_ _ | refine blk_drew ?_ | refine blk_alloc ?_ _)); refine blk_put (cs := #[.int .i64 t608, .string (⟨#[]⟩ : ByteArray)]) ?_ 1 _ rfl; (with_reducible repeat (first | refine blk_drewN ?_ _ | refine blk_drew ?_ | refine blk_alloc ?_ _)); refine blk_put (cs := #[.int .i64 0, .string (⟨#[]⟩ : ByteArray)]) ?_ 0 _ rfl; (with_reducible repeat (first | refine blk_drewN ?_ _ | refine blk_drew ?_ | refine blk_alloc ?_ _)); exact BK584.out) Try.underlying44 rfl (by kernel_rfl) .nil)))) rfl ?_
   exact ⟨_, zE, by (with_reducible repeat (first | apply Kd.R_alloc | apply Kd.R_drewN | apply Kd.R_drew)); exact Kd.R_mono (Kd.R_far (p := ⟨gb584, 1, none⟩) (Kd.R_far (p := ⟨gb584, 0, none⟩) (Kd.R_mono HO591.out (fun k_ hk => (⟨hk, hk.1⟩ : _ ∧ k_ ≠ gb584))) (fun _ hk => hk.2) (.int .i64 t608)) (fun _ hk => hk.2) (.string t595)) (fun _ hk => trivial), (zB3 (IsS73.ge HI588.out) GE584.out GE598.out HB.out)⟩
  ·rw [if_neg c26] at H
   have c26b0 : (t599 == 1) = false := beq_eq_false_iff_ne.mpr c26
   have c26b1 : (t599 != 1) = true := bne_iff_ne.mpr c26
   obtain ⟨y617, hy617⟩ : ∃ y_ : List Int, y_ = (([20, 20, 20, 15] : List Int)) := ⟨_, rfl⟩
   replace H : ((spec_l1Int.f t585 t600 t601 y617).bind fun bt620 => (some (t589, bt620.1, t594, t595))) = some (r1, r2, r3, r4) := zH hy617 H
   have Ny617 := zM hy617
   clear hy617
   replace H := Option.bind_eq_some_iff.mp H
   obtain ⟨⟨t620, t621, t622⟩, A480, H⟩ := H
   try dsimp only at H
   have A48 := zM A480
   clear A480
   simp only [Option.some.injEq, Prod.mk.injEq] at H
   obtain ⟨rfl, rfl, rfl, rfl⟩ := H
   go_enter Try.func27, Try.ntmps27
   try go_wp2_with (first | ((with_reducible refine gate_dst (N := 4) rfl ?_); refine box_event ?hg (N := 4) ?hd (cs := #[.int .i64 0, .string (⟨#[]⟩ : ByteArray)]) (t := 44) ?hr ?_; (case hd => rfl); (case hg => rfl); (case hr => first | (go_simp; done) | (go_simp; rfl)); intro gb584 hg w49 hbox hb; have n0_ := zM (below_step (zB HB.out) hb); have n1_ := zM (hbox); have n2_ := zM ((by rw [hg]; exact (below_size (zB HB.out)) : w.heap.size ≤ gb584)); have n3_ := zM ((by rw [hg]; exact (below_size (zB HB.out)) : w.heap.size ≤ gb584)); clear HB; have HB := n0_; have BK584 := n1_; have GW584 := n2_; have GE584 := n3_; clear n0_ n1_ n2_ n3_; clear hb hbox hg) | ((with_reducible refine gate_callee (f := 33) rfl ?_); refine zG (some 9) Try.func33 #[.slice A0 l0.length c0] ?_; (with_reducible refine (spec_l1New.calls k _ _ l0 t585 t586 t587 w _ ?side1 ?side2 ?side3 A2.out).mono ?_); (case side1 => exact (zB1 GE584.out HB.out)); (case side2 => exact HR0.out); (case side3 => exact HC0.out); rintro e w50 ⟨g588, rfl, hi, hb, hb2⟩; refine ⟨_, rfl, ?_⟩; have n0_ := zM (blk_below (g := gb584) (o := .cells #[.int .i64 0, .string (⟨#[]⟩ : ByteArray)] 44 (0, 0)) (zP BK584.out) hb2); have n1_ := zM (hb); have n2_ := zM (hi); have n3_ := zM (IsS73.ne_blk hi (blk_below (g := gb584) (o := .cells #[.int .i64 0, .string (⟨#[]⟩ : ByteArray)] 44 (0, 0)) (zP BK584.out) hb2) (by decide)); have n4_ := zM (Ne.symm (IsS73.ne_blk hi (blk_below (g := gb584) (o := .cells #[.int .i64 0, .string (⟨#[]⟩ : ByteArray)] 44 (0, 0)) (zP BK584.out) hb2) (by decide))); clear BK584; clear HB; have BK584 := n0_; have HB := n1_; have HI588 := n2_; have NB588_584 := n3_; have NB584_588 := n4_; clear n0_ n1_ n2_ n3_ n4_; (try clear hb); (try clear hb2); (try clear hk); (try clear hi)) | ((with_reducible refine gate_callee (f := 49) rfl ?_); refine zG (some 11) Try.func49 #[.pointer (some ⟨g588, 0, none⟩)] ?_; (with_reducible refine (spec_l10Draw.calls k g588 t585 t586 t587 t589 t592 t593 w _ ?side1 ?side2 A3.out).mono ?_); (case side1 => exact (zI73_1 NB588_584.out HI588.out)); (case side2 => exact (zB2 (IsS73.ge HI588.out) GE584.out HB.out)); rintro e w51 ⟨v590, rfl, ho0, hi, hb, hk⟩; refine ⟨_, rfl, ?_⟩; have n0_ := zM (KeepBut.blk hk (g' := gb584) (o := .cells #[.int .i64 0, .string (⟨#[]⟩ : ByteArray)] 44 (0, 0)) (zP BK584.out) NB584_588.out (by simp)); have n1_ := zM (Kd.R_lower (Kd.R_newB ho0 (g := gb584) (o := .cells #[.int .i64 0, .string (⟨#[]⟩ : ByteArray)] 44 (0, 0)) (zP BK584.out)) (below_size (zB2 (IsS73.ge HI588.out) GE584.out HB.out))); have n2_ := zM (hb); have n3_ := zM (hi); clear BK584; clear HB; clear HI588; have BK584 := n0_; have HO591 := n1_; have HB := n2_; have HI588 := n3_; clear n0_ n1_ n2_ n3_; (try clear hb); (try clear hb2); (try clear hk); (try clear hi); (try clear ho0)) | ((with_reducible refine gate_callee (f := 50) rfl ?_); refine zG (some 13) Try.func50 #[.pointer (some ⟨g588, 0, none⟩)] ?_; (with_reducible refine (spec_l10Piece.calls g588 t585 t592 t593 t594 t595 t596 t597 w _ ?side1 ?side2 A4.out).mono ?_); (case side1 => exact (zI73_1 NB588_584.out HI588.out)); (case side2 => exact (zB2 (IsS73.ge HI588.out) GE584.out HB.out)); rintro e w52 ⟨rfl, hi, hb, hk⟩; refine ⟨_, rfl, ?_⟩; have n0_ := zM (KeepBut.blk hk (g' := gb584) (o := .cells #[.int .i64 0, .string (⟨#[]⟩ : ByteArray)] 44 (0, 0)) (zP BK584.out) NB584_588.out (by simp)); have n1_ := zM (Kd.R_mono (Kd.R_keep (IsS73.apart (show IsS73 w _ g588 t585 t592 t593 from (zI73_1 NB588_584.out HI588.out)) (zR HO591.out) (by decide)) hk (fun _ h => h.2)) (fun _ h => h.1)); have n2_ := zM (hb); have n3_ := zM (hi); clear BK584; clear HO591; clear HB; clear HI588; have BK584 := n0_; have HO591 := n1_; have HB := n2_; have HI588 := n3_; clear n0_ n1_ n2_ n3_; (try clear hb); (try clear hb2); (try clear hk); (try clear hi)) | ((with_reducible refine gate_dst (N := 7) rfl ?_); refine box_event ?hg (N := 7) ?hd (cs := #[.int .i64 0, .string (⟨#[]⟩ : ByteArray)]) (t := 44) ?hr ?_; (case hd => rfl); (case hg => rfl); (case hr => first | (go_simp; done) | (go_simp; rfl)); intro gb598 hg w53 hbox hb; have n0_ := zM (Kd.R_below (Kd.R_elderB (zR HO591.out) gb598 (Nat.le_of_eq hg.symm)) hb); have n1_ := zM (blk_below (g := gb584) (o := .cells #[.int .i64 0, .string (⟨#[]⟩ : ByteArray)] 44 (0, 0)) (zP BK584.out) hb); have n2_ := zM (IsS73.below (zI73_1 NB588_584.out HI588.out) hb); have n3_ := zM (below_step (zB2 (IsS73.ge HI588.out) GE584.out HB.out) hb); have n4_ := zM (hbox); have n5_ := zM ((by rw [hg]; exact (below_size (zB2 (IsS73.ge HI588.out) GE584.out HB.out)) : w.heap.size ≤ gb598)); have n6_ := zM ((by rw [hg]; exact (below_size (zB2 (IsS73.ge HI588.out) GE584.out HB.out)) : w.heap.size ≤ gb598)); have n7_ := zM ((by rw [hg]; exact Nat.ne_of_lt (blk_lt (g := gb584) (o := .cells #[.int .i64 0, .string (⟨#[]⟩ : ByteArray)] 44 (0, 0)) (zP BK584.out)) : gb584 ≠ gb598)); have n8_ := zM ((by rw [hg]; exact Nat.ne_of_gt (blk_lt (g := gb584) (o := .cells #[.int .i64 0, .string (⟨#[]⟩ : ByteArray)] 44 (0, 0)) (zP BK584.out)) : gb598 ≠ gb584)); have n9_ := zM ((by rw [hg]; exact Nat.ne_of_lt (IsS73.lt (show IsS73 w _ g588 t585 t596 t597 from (zI73_1 NB588_584.out HI588.out))) : g588 ≠ gb598)); have n10_ := zM ((by rw [hg]; exact Nat.ne_of_gt (IsS73.lt (show IsS73 w _ g588 t585 t596 t597 from (zI73_1 NB588_584.out HI588.out))) : gb598 ≠ g588)); clear HO591; clear BK584; clear HI588; clear HB; have HO591 := n0_; have BK584 := n1_; have HI588 := n2_; have HB := n3_; have BK598 := n4_; have GW598 := n5_; have GE598 := n6_; have NB584_598 := n7_; have NB598_584 := n8_; have NB588_598 := n9_; have NB598_588 := n10_; clear n0_ n1_ n2_ n3_ n4_ n5_ n6_ n7_ n8_ n9_ n10_; clear hb hbox hg; have hnb54 := NB598_584.out; have hnc54 := NB584_598.out; have hnb55 := NB598_588.out; have hnc55 := NB588_598.out; have hcz56_0 : w53.cell? ⟨gb598, 0, none⟩ = some (.int .i64 0) := (blk_cell BK598.out 0).trans rfl; have hcz56_1 : w53.cell? ⟨gb598, 1, none⟩ = some (.string (⟨#[]⟩ : ByteArray)) := (blk_cell BK598.out 1).trans rfl; have hfz56_0 := blk_frozen BK598.out 0; have hfz56_1 := blk_frozen BK598.out 1) | ((with_reducible refine gate_callee (f := 41) rfl ?_); refine zG (some 15) Try.func41 #[.pointer (some ⟨g588, 0, none⟩), .int .i64 6] ?_; (with_reducible refine (spec_l1Below.calls g588 t585 t596 t597 6 t599 t600 t601 w _ ?side1 ?side2 A5.out).mono ?_); (case side1 => exact (zI73_2 NB588_584.out NB588_598.out HI588.out)); (case side2 => exact (zB3 (IsS73.ge HI588.out) GE584.out GE598.out HB.out)); rintro e w57 ⟨rfl, hi, hb, hk⟩; refine ⟨_, rfl, ?_⟩; have n0_ := zM (KeepBut.blk hk (g' := gb584) (o := .cells #[.int .i64 0, .string (⟨#[]⟩ : ByteArray)] 44 (0, 0)) (by (with_reducible repeat (first | refine blk_drewN ?_ _ | refine blk_drew ?_ | refine blk_alloc ?_ _)); refine blk_far ?_ NB584_598.out _; (with_reducible repeat (first | refine blk_drewN ?_ _ | refine blk_drew ?_ | refine blk_alloc ?_ _)); refine blk_far ?_ NB584_598.out _; (with_reducible repeat (first | refine blk_drewN ?_ _ | refine blk_drew ?_ | refine blk_alloc ?_ _)); exact BK584.out) NB584_588.out (by simp)); have n1_ := zM (Kd.R_mono (Kd.R_keep (IsS73.apart (show IsS73 w _ g588 t585 t596 t597 from (zI73_2 NB588_584.out NB588_598.out HI588.out)) (by (with_reducible repeat (first | apply Kd.R_alloc | apply Kd.R_drewN | apply Kd.R_drew)); exact (Kd.R_mono (Kd.R_far (p := ⟨gb598, 1, none⟩) (Kd.R_far (p := ⟨gb598, 0, none⟩) (Kd.R_mono HO591.out (fun k_ hk => (⟨hk, hk.2⟩ : _ ∧ k_ ≠ gb598))) (fun _ hk => hk.2) (.int .i64 t594)) (fun _ hk => hk.2) (.string t595)) (fun _ h_ => h_.1))) (by decide)) hk (fun _ h => h.2)) (fun _ h => h.1)); have n2_ := zM (KeepBut.blk hk (g' := gb598) (o := .cells #[.int .i64 t594, .string t595] 44 (0, 0)) (by (with_reducible repeat (first | refine blk_drewN ?_ _ | refine blk_drew ?_ | refine blk_alloc ?_ _)); refine blk_put (cs := #[.int .i64 t594, .string (⟨#[]⟩ : ByteArray)]) ?_ 1 _ rfl; (with_reducible repeat (first | refine blk_drewN ?_ _ | refine blk_drew ?_ | refine blk_alloc ?_ _)); refine blk_put (cs := #[.int .i64 0, .string (⟨#[]⟩ : ByteArray)]) ?_ 0 _ rfl; (with_reducible repeat (first | refine blk_drewN ?_ _ | refine blk_drew ?_ | refine blk_alloc ?_ _)); exact BK598.out) NB598_588.out (by simp)); have n3_ := zM (hb); have n4_ := zM (hi); clear BK584; clear HO591; clear BK598; clear HB; clear HI588; have BK584 := n0_; have HO591 := n1_; have BK598 := n2_; have HB := n3_; have HI588 := n4_; clear n0_ n1_ n2_ n3_ n4_; (try clear hb); (try clear hb2); (try clear hk); (try clear hi)))
   have n0_ := zM (Kd.R_drew HO591.out)
   have n1_ := zM (blk_drew BK584.out)
   have n2_ := zM (blk_drew BK598.out)
   have n3_ := zM (IsS73.drew HI588.out)
   have n4_ := zM (below_drew1 HB.out)
   clear HO591
   clear BK584
   clear BK598
   clear HI588
   clear HB
   have HO591 := n0_
   have BK584 := n1_
   have BK598 := n2_
   have HI588 := n3_
   have HB := n4_
   clear n0_ n1_ n2_ n3_ n4_
   refine start_ (n := 8) (S := fun w' => w'.cell? ⟨gb598, 0, none⟩ = some (.int .i64 t594) ∧ w'.cell? ⟨gb598, 1, none⟩ = some (.string t595)) (ds := []) (ba 8 0).toArray (by kernel_rfl) rfl rfl ⟨(blk_cell BK598.out 0).trans rfl, (blk_cell BK598.out 1).trans rfl⟩ (fun hHeld => ?_); refine with_tabW spec_DrawAddPiece.tab9 spec_DrawAddPiece.bits9 (fun HT_ HW_ => ?_)
   generalize w57.drew = w58 at HO591 BK584 BK598 HI588 HB hHeld ⊢
   refine zq 0 (some 24) (ba 8 1).toArray HT_ ?_
   refine zq 1 (some 25) (ba 8 3).toArray HT_ ?_
   refine zt2 4 (some 28) (ba 8 19).toArray HT_ HW_ hHeld ?_
   refine one_ (i := 2) (N := some 26) (ba 8 23).toArray rfl rfl (one_of HT_.out (by kernel_rfl)) (by decide) (fun K hK => ?_)
   refine Kd.R_lit_step (Kd.int .i64) _ 3 ?hg (N := 26) ?hd (xs := ([20, 20, 20, 15] : List Int)) (inner := [.int .i64 20, .int .i64 20, .int .i64 20, .int .i64 15]) (ok := fun _ => True) (okp := fun _ => True) ?hr ?hp (fun _ hk => hk) trivial (Below.refl _ _) (Nat.le_refl _) (by simp) ?_; (case hd => rfl); (case hg => rfl); (case hr => first | (go_simp; done) | (go_simp; rfl)); (case hp => exact (Reps.one (show Kd.M (Kd.int .i64) _ _ _ 20 [.int .i64 20] from rfl) (Reps.one (show Kd.M (Kd.int .i64) _ _ _ 20 [.int .i64 20] from rfl) (Reps.one (show Kd.M (Kd.int .i64) _ _ _ 20 [.int .i64 20] from rfl) (Reps.one (show Kd.M (Kd.int .i64) _ _ _ 15 [.int .i64 15] from rfl) (Reps.none _ _))))))
   intro v618 w59 ho60 hb hg_ hnew_
   clear hg_ hnew_
   (first | rw [← Ny617.out] at ho60 | (simp only [Int.reduceToNat] at ho60; rw [← Ny617.out] at ho60))
   have n0_ := zM (Kd.R_below (zR HO591.out) hb)
   have n1_ := zM (Kd.R_lower ho60 (below_size (zB3 (IsS73.ge HI588.out) GE584.out GE598.out HB.out)))
   have n2_ := zM (blk_below (g := gb584) (o := .cells #[.int .i64 0, .string (⟨#[]⟩ : ByteArray)] 44 (0, 0)) (zP BK584.out) hb)
   have n3_ := zM (IsS73.below (zI73_2 NB588_584.out NB588_598.out HI588.out) hb)
   have n4_ := zM (blk_below (g := gb598) (o := .cells #[.int .i64 t594, .string t595] 44 (0, 0)) (zP BK598.out) hb)
   have n5_ := zM (below_step (zB3 (IsS73.ge HI588.out) GE584.out GE598.out HB.out) hb)
   clear HO591
   clear BK584
   clear HI588
   clear BK598
   clear HB
   have HO591 := n0_
   have HO619 := n1_
   have BK584 := n2_
   have HI588 := n3_
   have BK598 := n4_
   have HB := n5_
   clear n0_ n1_ n2_ n3_ n4_ n5_
   clear hb ho60
   obtain ⟨Ao61, co61, eo61⟩ := Kd.R_slice HO619.out
   (first | subst eo61 | (injection eo61 with f1_ f2_ f3_; have f4_ := f1_.symm; have f5_ := f3_.symm; clear f1_ f2_ f3_; subst f4_; subst f5_))
   refine hK.out _ _ ⟨(blk_cell BK598.out 0).trans rfl, (blk_cell BK598.out 1).trans rfl⟩ (fun hHeld => ?_)
   clear hK K
   refine norm_ (a' := ?_) ?_ ?_
   rotate_left
   ·show Act.put _ (some 26) _ = _
    simp only [Act.put, List.setIfInBounds_toArray, List.set_cons_zero, List.set_cons_succ, i64_w, i32_w]
    rfl
   refine one_ (i := 3) (N := some 27) (ba 8 31).toArray rfl rfl (one_of HT_.out (by kernel_rfl)) (by decide) (fun K hK => ?_)
   refine goes_ Try.func51 (by kernel_rfl) rfl #[.pointer (some ⟨g588, 0, none⟩), .slice Ao61 y617.length co61] (by rfl) rfl rfl (by (try simp only [List.map_toArray, List.map_cons, List.map_nil]); first | done | rfl | (simp only [List.length_drop, List.length_take]; rfl)) ?_
   with_reducible refine (spec_l1Int.calls g588 t585 t600 t601 _ _ y617 t620 t621 t622 w _ ?side1 ?side2 ?side3 ?side4 ?side5 A48.out).mono ?_
   (case side1 => exact (zI73_2 NB588_584.out NB588_598.out HI588.out))
   (case side2 => exact (zB3 (IsS73.ge HI588.out) GE584.out GE598.out HB.out))
   (case side3 => exact (zC ((Kd.R_reads' HO619.out).2.2)))
   (case side4 => exact (Kd.R_reads' HO619.out).2.1)
   (case side5 => exact far_slice (IsS73.own_ne HI588.out HO619.out (by decide)))
   rintro e w62 ⟨rfl, hi, hb, hk⟩
   refine ⟨_, rfl, ?_⟩
   have n0_ := zM (KeepBut.blk hk (g' := gb584) (o := .cells #[.int .i64 0, .string (⟨#[]⟩ : ByteArray)] 44 (0, 0)) (zP BK584.out) NB584_588.out (by simp))
   have n1_ := zM (Kd.R_mono (Kd.R_keep (IsS73.apart (show IsS73 w _ g588 t585 t600 t601 from (zI73_2 NB588_584.out NB588_598.out HI588.out)) (zR HO591.out) (by decide)) hk (fun _ h => h.2)) (fun _ h => h.1))
   have n2_ := zM (KeepBut.blk hk (g' := gb598) (o := .cells #[.int .i64 t594, .string t595] 44 (0, 0)) (zP BK598.out) NB598_588.out (by simp))
   have n3_ := zM (Kd.R_mono (Kd.R_keep (IsS73.apart (show IsS73 w _ g588 t585 t600 t601 from (zI73_2 NB588_584.out NB588_598.out HI588.out)) (zR HO619.out) (by decide)) hk (fun _ h => h.2)) (fun _ h => h.1))
   have n4_ := zM (hb)
   have n5_ := zM (hi)
   clear BK584
   clear HO591
   clear BK598
   clear HO619
   clear HB
   clear HI588
   have BK584 := n0_
   have HO591 := n1_
   have BK598 := n2_
   have HO619 := n3_
   have HB := n4_
   have HI588 := n5_
   clear n0_ n1_ n2_ n3_ n4_ n5_
   (try clear hb)
   (try clear hb2)
   (try clear hk)
   (try clear hi)
   refine hK.out _ _ ⟨(blk_cell BK598.out 0).trans rfl, (blk_cell BK598.out 1).trans rfl⟩ (fun hHeld => ?_)
   clear hK K
   refine norm_ (a' := ?_) ?_ ?_
   rotate_left
   ·show Act.put _ (some 27) _ = _
    simp only [Act.put, List.setIfInBounds_toArray, List.set_cons_zero, List.set_cons_succ, i64_w, i32_w]
    rfl
   refine zq 5 (some 2) (ba 8 63).toArray HT_ ?_
   refine zq 6 (some 3) (ba 8 127).toArray HT_ ?_
   refine one_ (i := 7) (N := none) (ba 8 255).toArray rfl rfl (one_of HT_.out (by kernel_rfl)) (by decide) (fun K hK => ?_)
   have hs63 : w62.cell? ⟨gb584, 0, none⟩ = some (.int .i64 0) := (blk_cell BK584.out 0).trans rfl
   have hfs63 := blk_frozen BK584.out 0
   have hns63_1 := NB598_584.out
   have hms63_1 := NB584_598.out
   have hs64 : w62.cell? ⟨gb584, 1, none⟩ = some (.string (⟨#[]⟩ : ByteArray)) := (blk_cell BK584.out 1).trans rfl
   have hfs64 := blk_frozen BK584.out 1
   have hns64_1 := NB598_584.out
   have hms64_1 := NB584_598.out
   refine skip_ (w1 := ?_) (by rfl) rfl ?_ ?_
   rotate_left
   ·go_simp
    rfl
   refine hK.out _ _ ⟨((cell_far (p := ⟨gb584, _, none⟩) NB598_584.out _).trans (((cell_far (p := ⟨gb584, _, none⟩) NB598_584.out _).trans (hHeld.1)))), ((cell_far (p := ⟨gb584, _, none⟩) NB598_584.out _).trans (((cell_far (p := ⟨gb584, _, none⟩) NB598_584.out _).trans (hHeld.2))))⟩ (fun hHeld => ?_)
   clear hK K
   refine done_ (done_of HT_.out (by kernel_rfl)) ?_
   try go_wp2
   refine bodyPost_ret (results_list (rs := [.tmp 2, .tmp 3, .cell 4 44]) rfl (by simp) (.tmp (.tmp (.cell gb584 44 #[.int .i64 t594, .string t595] (0, 0) _ rfl (by (with_reducible repeat (first | refine blk_drewN ?_ _ | refine blk_drew ?_ | refine blk_alloc ?_ _)); refine blk_put (cs := #[.int .i64 t594, .string (⟨#[]⟩ : ByteArray)]) ?_ 1 _ rfl; (with_reducible repeat (first | refine blk_drewN ?_ _ | refine blk_drew ?_ | refine blk_alloc ?_ _)); refine blk_put (cs := #[.int .i64 0, .string (⟨#[]⟩ : ByteArray)]) ?_ 0 _ rfl; (with_reducible repeat (first | refine blk_drewN ?_ _ | refine blk_drew ?_ | refine blk_alloc ?_ _)); exact BK584.out) Try.underlying44 rfl (by kernel_rfl) .nil)))) rfl ?_
   exact ⟨_, zE, by (with_reducible repeat (first | apply Kd.R_alloc | apply Kd.R_drewN | apply Kd.R_drew)); exact Kd.R_mono (Kd.R_far (p := ⟨gb584, 1, none⟩) (Kd.R_far (p := ⟨gb584, 0, none⟩) (Kd.R_mono HO591.out (fun k_ hk => (⟨hk, hk.1.2⟩ : _ ∧ k_ ≠ gb584))) (fun _ hk => hk.2) (.int .i64 t594)) (fun _ hk => hk.2) (.string t595)) (fun _ hk => trivial), (zB3 (IsS73.ge HI588.out) GE584.out GE598.out HB.out)⟩

end Go.Proofs.Yteahdfibipalkaa.G

namespace Go.Proofs.Yteahdfibipalkaa.G
open Go.RowKit Go.Proofs.YteahdfibipalkaaW.PrintWords Go.Proofs.YteahdfibipalkaaW.PrintLast Go.Proofs.YteahdfibipalkaaW.PrintMore
attribute [local go_sem] max2_int min2_int max_two min_two max_three min_three max_four min_four   -- for this text's walks alone
set_option linter.unusedVariables false
set_option linter.unusedSimpArgs false

/-! ### impl_ReadPieces: function 28 -/
set_option maxHeartbeats 8000000 in
set_option maxRecDepth 100000 in
theorem impl_ReadPieces.calls (k : Nat) (A0 : Option Addr) (c0 : Nat) (l0 : List (S44)) (a1_0 : Int) (a1_1 : Int) (r1 : ByteArray) (r2 : Bool) (w : World) (hr0 : Kd.C k44 w A0 l0.length l0) (hc0 : l0.length ≤ c0) (h : impl_ReadPieces.f k l0 a1_0 a1_1 = some (r1, r2)) :
  Calls Try.prog 28 #[.slice A0 l0.length c0, .agg #[.int .i64 a1_0, .int .i64 a1_1]] w fun e w' => e = .returned (.tuple #[.string r1, .bool r2]) ∧ Below w.heap.size w w' := by
 have hu26 := Try.underlying26
 have hu44 := Try.underlying44
 have HR0 := zM hr0
 have HC0 := zM hc0
 clear hr0 hc0
 have HB := zM (Below.refl w.heap.size w)
 have H : (if a1_0 ≥ a1_1 then (some ((⟨#[]⟩ : ByteArray), true)) else (impl_ReadPieces.l0 k l0 (l0.length : Int) 0 a1_0 a1_1)) = some (r1, r2) := h
 clear h
 by_cases c3 : a1_0 ≥ a1_1
 ·rw [if_pos c3] at H
  have c3b0 : decide (a1_1 ≤ a1_0) = true := decide_eq_true c3
  clear c3
  simp only [Option.some.injEq, Prod.mk.injEq] at H
  obtain ⟨rfl, rfl⟩ := H
  go_enter Try.func28, Try.ntmps28
  go_wp2_with (first | ((with_reducible refine gate_dst (N := 3) rfl ?_); (try (refine gate_guard (by rfl) ?_; dsimp only)); refine box_event ?hg (N := 3) ?hd (cs := #[.int .i64 a1_0, .int .i64 a1_1]) (t := 26) ?hr ?_; (case hd => rfl); (case hg => rfl); (case hr => first | (go_simp; done) | (go_simp; rfl)); intro gb623 hg w4 hbox hb; have n0_ := zM (below_step (zB HB.out) hb); have n1_ := zM (hbox); have n2_ := zM ((by rw [hg]; exact (below_size (zB HB.out)) : w.heap.size ≤ gb623)); have n3_ := zM ((by rw [hg]; exact (below_size (zB HB.out)) : w.heap.size ≤ gb623)); clear HB; have HB := n0_; have BK623 := n1_; have GW623 := n2_; have GE623 := n3_; clear n0_ n1_ n2_ n3_; clear hb hbox hg; have hcz5_0 : w4.cell? ⟨gb623, 0, none⟩ = some (.int .i64 a1_0) := (blk_cell BK623.out 0).trans rfl; have hcz5_1 : w4.cell? ⟨gb623, 1, none⟩ = some (.int .i64 a1_1) := (blk_cell BK623.out 1).trans rfl; have hfz5_0 := blk_frozen BK623.out 0; have hfz5_1 := blk_frozen BK623.out 1))
  go_ret2
  exact ⟨zE, (zB1 GE623.out HB.out)⟩
 ·rw [if_neg c3] at H
  have c3b0 : decide (a1_1 ≤ a1_0) = false := decide_eq_false c3
  clear c3
  have H' := zM H
  clear H
  go_enter Try.func28, Try.ntmps28
  go_wp2_with (first | ((with_reducible refine gate_dst (N := 3) rfl ?_); (try (refine gate_guard (by rfl) ?_; dsimp only)); refine box_event ?hg (N := 3) ?hd (cs := #[.int .i64 a1_0, .int .i64 a1_1]) (t := 26) ?hr ?_; (case hd => rfl); (case hg => rfl); (case hr => first | (go_simp; done) | (go_simp; rfl)); intro gb623 hg w6 hbox hb; have n0_ := zM (below_step (zB HB.out) hb); have n1_ := zM (hbox); have n2_ := zM ((by rw [hg]; exact (below_size (zB HB.out)) : w.heap.size ≤ gb623)); have n3_ := zM ((by rw [hg]; exact (below_size (zB HB.out)) : w.heap.size ≤ gb623)); clear HB; have HB := n0_; have BK623 := n1_; have GW623 := n2_; have GE623 := n3_; clear n0_ n1_ n2_ n3_; clear hb hbox hg; have hcz7_0 : w6.cell? ⟨gb623, 0, none⟩ = some (.int .i64 a1_0) := (blk_cell BK623.out 0).trans rfl; have hcz7_1 : w6.cell? ⟨gb623, 1, none⟩ = some (.int .i64 a1_1) := (blk_cell BK623.out 1).trans rfl; have hfz7_0 := blk_frozen BK623.out 0; have hfz7_1 := blk_frozen BK623.out 1))
  go_loopg [15] k (fun kq v15 w' => ∃ (x15_1 : Int), v15 = .int .i64 x15_1 ∧ Aside0 (impl_ReadPieces.l0 kq l0 (l0.length : Int) x15_1 a1_0 a1_1 = some (r1, r2)) ∧ Aside0 (kq ≤ k) ∧ Aside0 (w'.heap[gb623]? = some (.cells #[.int .i64 a1_0, .int .i64 a1_1] 26 (0, 0))) ∧ Aside0 (Below w.heap.size w w'))
  case atStart => exact ⟨(0), zS, H', ⟨Nat.le_refl _⟩, ⟨(zP BK623.out)⟩, ⟨(zB1 GE623.out HB.out)⟩⟩
  case round =>
   clear H'
   try clear c2
   try clear p2
   try clear c3
   try clear c3b0
   try clear hcz5_0
   try clear hcz5_1
   try clear hcz7_0
   try clear hcz7_1
   try clear hfz5_0
   try clear hfz5_1
   try clear hfz7_0
   try clear hfz7_1
   obtain ⟨x15_1, rfl, HA, HK1, BK623, HB⟩ := hrel
   cases gk with
   | zero => exact absurd HA.out (by simp [impl_ReadPieces.l0])
   | succ k1 =>
    have H := HA.out
    clear HA
    simp only [impl_ReadPieces.l0] at H
    by_cases c8 : x15_1 < (l0.length : Int)
    ·rw [if_pos c8] at H
     have c8b0 : decide (x15_1 < (l0.length : Int)) = true := decide_eq_true c8
     clear c8
     by_cases c9 : 0 ≤ x15_1
     ·rw [if_pos c9] at H
      have c9b0 : decide (0 ≤ x15_1) = true := decide_eq_true c9
      clear c9
      by_cases c10 : x15_1 < (l0.length : Int)
      ·rw [if_pos c10] at H
       have c10b0 : decide (x15_1 < (l0.length : Int)) = true := decide_eq_true c10
       clear c10
       by_cases c11 : ((rd_T44 l0 x15_1).f0) ≤ a1_0
       ·rw [if_pos c11] at H
        have c11b0 : decide (((rd_T44 l0 x15_1).f0) ≤ a1_0) = true := decide_eq_true c11
        clear c11
        by_cases c12 : a1_1 ≤ (wrap64 (((rd_T44 l0 x15_1).f0) + (((rd_T44 l0 x15_1).f1).size : Int)))
        ·rw [if_pos c12] at H
         have c12b0 : decide (a1_1 ≤ (wrap64 (((rd_T44 l0 x15_1).f0) + (((rd_T44 l0 x15_1).f1).size : Int)))) = true := decide_eq_true c12
         clear c12
         obtain ⟨ji13, hji13⟩ : ∃ j_ : Int, (wrap64 (a1_0 - ((rd_T44 l0 x15_1).f0))) = j_ := ⟨_, rfl⟩
         replace H : (if 0 ≤ (ji13) then (if (ji13) ≤ (wrap64 (a1_1 - ((rd_T44 l0 x15_1).f0))) then (if (wrap64 (a1_1 - ((rd_T44 l0 x15_1).f0))) ≤ (((rd_T44 l0 x15_1).f1).size : Int) then (some (((rd_T44 l0 x15_1).f1).extract ((ji13) : Int).toNat ((wrap64 (a1_1 - ((rd_T44 l0 x15_1).f0))) : Int).toNat, true)) else (none)) else (none)) else (none)) = some (r1, r2) := by first | (rw [hji13] at H; exact H) | (simp only [hji13] at H ⊢; exact H)
         have hji13w : (IntKind.i64.wrap (a1_0 - ((rd_T44 l0 x15_1).f0))) = ji13 := (i64_w _).trans hji13
         by_cases c14 : 0 ≤ (ji13)
         ·rw [if_pos c14] at H
          have c14b0 := eq_true c14
          have c14b1 : decide (0 ≤ (ji13)) = true := decide_eq_true c14
          clear c14
          by_cases c15 : (ji13) ≤ (wrap64 (a1_1 - ((rd_T44 l0 x15_1).f0)))
          ·rw [if_pos c15] at H
           have c15b0 := eq_true c15
           have c15b1 : decide ((ji13) ≤ (wrap64 (a1_1 - ((rd_T44 l0 x15_1).f0)))) = true := decide_eq_true c15
           clear c15
           by_cases c16 : (wrap64 (a1_1 - ((rd_T44 l0 x15_1).f0))) ≤ (((rd_T44 l0 x15_1).f1).size : Int)
           ·rw [if_pos c16] at H
            have c16b0 := eq_true c16
            have c16b1 : decide ((wrap64 (a1_1 - ((rd_T44 l0 x15_1).f0))) ≤ (((rd_T44 l0 x15_1).f1).size : Int)) = true := decide_eq_true c16
            clear c16
            simp only [Option.some.injEq, Prod.mk.injEq] at H
            obtain ⟨rfl, rfl⟩ := H
            have p624 : 0 ≤ (x15_1 : Int) := zD
            have q624 : x15_1 < (l0.length : Int) := zD
            obtain ⟨ad624, e624, hx624_0, hx624_1⟩ := at_T44 HR0.out x15_1 p624 q624
            cases e624
            replace hx624_0 := (HB.out.cell (World.block_lt_of_cell? w _ hx624_0)).trans hx624_0
            replace hx624_1 := (HB.out.cell (World.block_lt_of_cell? w _ hx624_1)).trans hx624_1
            replace p624 := eq_true p624
            replace q624 := eq_true q624
            go_wp2_with (first | ((with_reducible refine gate_dst (N := 7) rfl ?_); (try (refine gate_guard (by rfl) ?_; dsimp only)); refine box_event ?hg (N := 7) ?hd (cs := #[.int .i64 0, .string (⟨#[]⟩ : ByteArray)]) (t := 44) ?hr ?_; (case hd => rfl); (case hg => rfl); (case hr => first | (go_simp; done) | (go_simp; rfl)); intro gb625 hg w17 hbox hb; have n0_ := zM (blk_below (g := gb623) (o := .cells #[.int .i64 a1_0, .int .i64 a1_1] 26 (0, 0)) (zP BK623.out) hb); have n1_ := zM (below_step (zB1 GE623.out HB.out) hb); have n2_ := zM (hbox); have n3_ := zM ((by rw [hg]; exact (below_size (zB1 GE623.out HB.out)) : w.heap.size ≤ gb625)); have n4_ := zM ((by rw [hg]; exact (below_size (zB1 GE623.out HB.out)) : w.heap.size ≤ gb625)); have n5_ := zM ((by rw [hg]; exact Nat.ne_of_lt (blk_lt (g := gb623) (o := .cells #[.int .i64 a1_0, .int .i64 a1_1] 26 (0, 0)) (zP BK623.out)) : gb623 ≠ gb625)); have n6_ := zM ((by rw [hg]; exact Nat.ne_of_gt (blk_lt (g := gb623) (o := .cells #[.int .i64 a1_0, .int .i64 a1_1] 26 (0, 0)) (zP BK623.out)) : gb625 ≠ gb623)); clear BK623; clear HB; have BK623 := n0_; have HB := n1_; have BK625 := n2_; have GW625 := n3_; have GE625 := n4_; have NB623_625 := n5_; have NB625_623 := n6_; clear n0_ n1_ n2_ n3_ n4_ n5_ n6_; clear hb hbox hg; have hnb18 := NB625_623.out; have hnc18 := NB623_625.out; have hcz19_0 : w17.cell? ⟨gb625, 0, none⟩ = some (.int .i64 0) := (blk_cell BK625.out 0).trans rfl; have hcz19_1 : w17.cell? ⟨gb625, 1, none⟩ = some (.string (⟨#[]⟩ : ByteArray)) := (blk_cell BK625.out 1).trans rfl; have hfz19_0 := blk_frozen BK625.out 0; have hfz19_1 := blk_frozen BK625.out 1; have hcz20_0 : w17.cell? ⟨gb623, 0, none⟩ = some (.int .i64 a1_0) := (blk_cell BK623.out 0).trans rfl; have hcz20_1 : w17.cell? ⟨gb623, 1, none⟩ = some (.int .i64 a1_1) := (blk_cell BK623.out 1).trans rfl; have hfz20_0 := blk_frozen BK623.out 0; have hfz20_1 := blk_frozen BK623.out 1))
            go_ret2
            exact ⟨by first | rfl | (simp [errW_none, errW_some] <;> rfl) | (simp only [← hji13]; first | rfl | (simp [errW_none, errW_some] <;> rfl)) | (simp [*, errW_none, errW_some] <;> rfl), (zB2 GE623.out GE625.out HB.out)⟩
           ·rw [if_neg c16] at H
            exact absurd H (by simp)
          ·rw [if_neg c15] at H
           exact absurd H (by simp)
         ·rw [if_neg c14] at H
          exact absurd H (by simp)
        ·rw [if_neg c12] at H
         have c12b0 : decide (a1_1 ≤ (wrap64 (((rd_T44 l0 x15_1).f0) + (((rd_T44 l0 x15_1).f1).size : Int)))) = false := decide_eq_false c12
         clear c12
         have H' := zM H
         clear H
         have p624 : 0 ≤ (x15_1 : Int) := zD
         have q624 : x15_1 < (l0.length : Int) := zD
         obtain ⟨ad624, e624, hx624_0, hx624_1⟩ := at_T44 HR0.out x15_1 p624 q624
         cases e624
         replace hx624_0 := (HB.out.cell (World.block_lt_of_cell? w _ hx624_0)).trans hx624_0
         replace hx624_1 := (HB.out.cell (World.block_lt_of_cell? w _ hx624_1)).trans hx624_1
         replace p624 := eq_true p624
         replace q624 := eq_true q624
         go_wp2_with (first | ((with_reducible refine gate_dst (N := 7) rfl ?_); (try (refine gate_guard (by rfl) ?_; dsimp only)); refine box_event ?hg (N := 7) ?hd (cs := #[.int .i64 0, .string (⟨#[]⟩ : ByteArray)]) (t := 44) ?hr ?_; (case hd => rfl); (case hg => rfl); (case hr => first | (go_simp; done) | (go_simp; rfl)); intro gb625 hg w21 hbox hb; have n0_ := zM (blk_below (g := gb623) (o := .cells #[.int .i64 a1_0, .int .i64 a1_1] 26 (0, 0)) (zP BK623.out) hb); have n1_ := zM (below_step (zB1 GE623.out HB.out) hb); have n2_ := zM (hbox); have n3_ := zM ((by rw [hg]; exact (below_size (zB1 GE623.out HB.out)) : w.heap.size ≤ gb625)); have n4_ := zM ((by rw [hg]; exact (below_size (zB1 GE623.out HB.out)) : w.heap.size ≤ gb625)); have n5_ := zM ((by rw [hg]; exact Nat.ne_of_lt (blk_lt (g := gb623) (o := .cells #[.int .i64 a1_0, .int .i64 a1_1] 26 (0, 0)) (zP BK623.out)) : gb623 ≠ gb625)); have n6_ := zM ((by rw [hg]; exact Nat.ne_of_gt (blk_lt (g := gb623) (o := .cells #[.int .i64 a1_0, .int .i64 a1_1] 26 (0, 0)) (zP BK623.out)) : gb625 ≠ gb623)); clear BK623; clear HB; have BK623 := n0_; have HB := n1_; have BK625 := n2_; have GW625 := n3_; have GE625 := n4_; have NB623_625 := n5_; have NB625_623 := n6_; clear n0_ n1_ n2_ n3_ n4_ n5_ n6_; clear hb hbox hg; have hnb22 := NB625_623.out; have hnc22 := NB623_625.out; have hcz23_0 : w21.cell? ⟨gb625, 0, none⟩ = some (.int .i64 0) := (blk_cell BK625.out 0).trans rfl; have hcz23_1 : w21.cell? ⟨gb625, 1, none⟩ = some (.string (⟨#[]⟩ : ByteArray)) := (blk_cell BK625.out 1).trans rfl; have hfz23_0 := blk_frozen BK625.out 0; have hfz23_1 := blk_frozen BK625.out 1; have hcz24_0 : w21.cell? ⟨gb623, 0, none⟩ = some (.int .i64 a1_0) := (blk_cell BK623.out 0).trans rfl; have hcz24_1 : w21.cell? ⟨gb623, 1, none⟩ = some (.int .i64 a1_1) := (blk_cell BK623.out 1).trans rfl; have hfz24_0 := blk_frozen BK623.out 0; have hfz24_1 := blk_frozen BK623.out 1))
         go_roundg k1
         case measure => have := HK1.out; omega
         case rel => exact ⟨(wrap64 (x15_1 + 1)), zS, H', ⟨by have := HK1.out; omega⟩, ⟨by (with_reducible repeat (first | refine blk_drewN ?_ _ | refine blk_drew ?_ | refine blk_alloc ?_ _)); refine blk_far ?_ NB623_625.out _; (with_reducible repeat (first | refine blk_drewN ?_ _ | refine blk_drew ?_ | refine blk_alloc ?_ _)); refine blk_far ?_ NB623_625.out _; (with_reducible repeat (first | refine blk_drewN ?_ _ | refine blk_drew ?_ | refine blk_alloc ?_ _)); exact BK623.out⟩, ⟨(zB2 GE623.out GE625.out HB.out)⟩⟩
       ·rw [if_neg c11] at H
        have c11b0 : decide (((rd_T44 l0 x15_1).f0) ≤ a1_0) = false := decide_eq_false c11
        clear c11
        have H' := zM H
        clear H
        have p624 : 0 ≤ (x15_1 : Int) := zD
        have q624 : x15_1 < (l0.length : Int) := zD
        obtain ⟨ad624, e624, hx624_0, hx624_1⟩ := at_T44 HR0.out x15_1 p624 q624
        cases e624
        replace hx624_0 := (HB.out.cell (World.block_lt_of_cell? w _ hx624_0)).trans hx624_0
        replace hx624_1 := (HB.out.cell (World.block_lt_of_cell? w _ hx624_1)).trans hx624_1
        replace p624 := eq_true p624
        replace q624 := eq_true q624
        go_wp2_with (first | ((with_reducible refine gate_dst (N := 7) rfl ?_); (try (refine gate_guard (by rfl) ?_; dsimp only)); refine box_event ?hg (N := 7) ?hd (cs := #[.int .i64 0, .string (⟨#[]⟩ : ByteArray)]) (t := 44) ?hr ?_; (case hd => rfl); (case hg => rfl); (case hr => first | (go_simp; done) | (go_simp; rfl)); intro gb625 hg w25 hbox hb; have n0_ := zM (blk_below (g := gb623) (o := .cells #[.int .i64 a1_0, .int .i64 a1_1] 26 (0, 0)) (zP BK623.out) hb); have n1_ := zM (below_step (zB1 GE623.out HB.out) hb); have n2_ := zM (hbox); have n3_ := zM ((by rw [hg]; exact (below_size (zB1 GE623.out HB.out)) : w.heap.size ≤ gb625)); have n4_ := zM ((by rw [hg]; exact (below_size (zB1 GE623.out HB.out)) : w.heap.size ≤ gb625)); have n5_ := zM ((by rw [hg]; exact Nat.ne_of_lt (blk_lt (g := gb623) (o := .cells #[.int .i64 a1_0, .int .i64 a1_1] 26 (0, 0)) (zP BK623.out)) : gb623 ≠ gb625)); have n6_ := zM ((by rw [hg]; exact Nat.ne_of_gt (blk_lt (g := gb623) (o := .cells #[.int .i64 a1_0, .int .i64 a1_1] 26 (0, 0)) (zP BK623.out)) : gb625 ≠ gb623)); clear BK623; clear HB; have BK623 := n0_; have HB := n1_; have BK625 := n2_; have GW625 := n3_; have GE625 := n4_; have NB623_625 := n5_; have NB625_623 := n6_; clear n0_ n1_ n2_ n3_ n4_ n5_ n6_; clear hb hbox hg; have hnb26 := NB625_623.out; have hnc26 := NB623_625.out; have hcz27_0 : w25.cell? ⟨gb625, 0, none⟩ = some (.int .i64 0) := (blk_cell BK625.out 0).trans rfl; have hcz27_1 : w25.cell? ⟨gb625, 1, none⟩ = some (.string (⟨#[]⟩ : ByteArray)) := (blk_cell BK625.out 1).trans rfl; have hfz27_0 := blk_frozen BK625.out 0; have hfz27_1 := blk_frozen BK625.out 1; have hcz28_0 : w25.cell? ⟨gb623, 0, none⟩ = some (.int .i64 a1_0) := (blk_cell BK623.out 0).trans rfl; have hcz28_1 : w25.cell? ⟨gb623, 1, none⟩ = some (.int .i64 a1_1) := (blk_cell BK623.out 1).trans rfl; have hfz28_0 := blk_frozen BK623.out 0; have hfz28_1 := blk_frozen BK623.out 1))
        go_roundg k1
        case measure => have := HK1.out; omega
        case rel => exact ⟨(wrap64 (x15_1 + 1)), zS, H', ⟨by have := HK1.out; omega⟩, ⟨by (with_reducible repeat (first | refine blk_drewN ?_ _ | refine blk_drew ?_ | refine blk_alloc ?_ _)); refine blk_far ?_ NB623_625.out _; (with_reducible repeat (first | refine blk_drewN ?_ _ | refine blk_drew ?_ | refine blk_alloc ?_ _)); refine blk_far ?_ NB623_625.out _; (with_reducible repeat (first | refine blk_drewN ?_ _ | refine blk_drew ?_ | refine blk_alloc ?_ _)); exact BK623.out⟩, ⟨(zB2 GE623.out GE625.out HB.out)⟩⟩
      ·rw [if_neg c10] at H
       exact absurd H (by simp)
     ·rw [if_neg c9] at H
      exact absurd H (by simp)
    ·rw [if_neg c8] at H
     have c8b0 : decide (x15_1 < (l0.length : Int)) = false := decide_eq_false c8
     clear c8
     simp only [Option.some.injEq, Prod.mk.injEq] at H
     obtain ⟨rfl, rfl⟩ := H
     go_wp2
     go_ret2
     exact ⟨zE, (zB1 GE623.out HB.out)⟩

end Go.Proofs.Yteahdfibipalkaa.G

namespace Go.Proofs.Yteahdfibipalkaa.G
open Go.RowKit Go.Proofs.YteahdfibipalkaaW.PrintWords Go.Proofs.YteahdfibipalkaaW.PrintLast Go.Proofs.YteahdfibipalkaaW.PrintMore
attribute [local go_sem] max2_int min2_int max_two min_two max_three min_three max_four min_four   -- for this text's walks alone
set_option linter.unusedVariables false
set_option linter.unusedSimpArgs false

theorem eqA44 (d : Nat) (w : World) (x0 y0 : Int) (x1 y1 : ByteArray) :
  (Op.equalIn (d + 2) 44 (.agg #[.int .i64 x0, .string x1]) (.agg #[.int .i64 y0, .string y1])).run Try.prog w = .ok (x0 == y0 && (x1.toList == y1.toList)) w := by
 refine eqA_of Try.underlying44 (by kernel_rfl) ?_
 refine eqf_cons (by rfl) (by go_simp; rfl) (by go_simp; rfl) (by go_simp) ?_
 exact eqf_last (by rfl) (by go_simp; rfl) (by go_simp; rfl) (by go_simp)
end Go.Proofs.Yteahdfibipalkaa.G

namespace Go.Proofs.Yteahdfibipalkaa.G
open Go.RowKit Go.Proofs.YteahdfibipalkaaW.PrintWords Go.Proofs.YteahdfibipalkaaW.PrintLast Go.Proofs.YteahdfibipalkaaW.PrintMore
attribute [local go_sem] max2_int min2_int max_two min_two max_three min_three max_four min_four   -- for this text's walks alone
set_option linter.unusedVariables false
set_option linter.unusedSimpArgs false

attribute [local go_sem high] eqA44
/-! ### laws_samePieces: function 31 -/
set_option maxHeartbeats 8000000 in
set_option maxRecDepth 100000 in
theorem laws_samePieces.calls (k : Nat) (A0 : Option Addr) (c0 : Nat) (l0 : List (S44)) (A1 : Option Addr) (c1 : Nat) (l1 : List (S44)) (r : Bool) (w : World) (hr0 : Kd.C k44 w A0 l0.length l0) (hc0 : l0.length ≤ c0) (hr1 : Kd.C k44 w A1 l1.length l1) (hc1 : l1.length ≤ c1) (h : laws_samePieces.f k l0 l1 = some r) :
  Calls Try.prog 31 #[.slice A0 l0.length c0, .slice A1 l1.length c1] w fun e w' => e = .returned (.bool r) ∧ Drawn0 w w' := by
 have hu44 := Try.underlying44
 have HR0 := zM hr0
 have HC0 := zM hc0
 clear hr0 hc0
 have HR1 := zM hr1
 have HC1 := zM hc1
 clear hr1 hc1
 have H : (if (l0.length : Int) = (l1.length : Int) then (laws_samePieces.l0 k l0 l1 0) else (some false)) = some r := h
 clear h
 by_cases c3 : (l0.length : Int) = (l1.length : Int)
 ·rw [if_pos c3] at H
  have c3b0 : ((l0.length : Int) == (l1.length : Int)) = true := beq_iff_eq.mpr c3
  have c3b1 : ((l0.length : Int) != (l1.length : Int)) = false := bne_eq_false_iff_eq.mpr c3
  have c3b2 : (l0.length == l1.length) = true := by first | simpa using c3 | (simp at c3 ⊢; omega)
  clear c3
  have H' := zM H
  clear H
  go_enter Try.func31, Try.ntmps31
  go_wp2
  repeat (go_quiet (fail); try go_wp2)
  go_loopg [5] k (fun kq v5 w' => ∃ (x5_1 : Int), v5 = .int .i64 x5_1 ∧ Aside0 (laws_samePieces.l0 kq l0 l1 x5_1 = some r) ∧ Aside0 (kq ≤ k) ∧ Drawn0 w w')
  case atStart => exact ⟨(0), zS, H', ⟨Nat.le_refl _⟩, zW⟩
  case round =>
   clear H'
   try clear c1
   try clear p2
   try clear c3
   try clear c3b0
   try clear c3b1
   try clear c3b2
   obtain ⟨x5_1, rfl, HA, HK1, ⟨m1, rfl⟩⟩ := hrel
   cases gk with
   | zero => exact absurd HA.out (by simp [laws_samePieces.l0])
   | succ k1 =>
    have H := HA.out
    clear HA
    simp only [laws_samePieces.l0] at H
    by_cases c4 : x5_1 < (l0.length : Int)
    ·rw [if_pos c4] at H
     have c4b0 : decide (x5_1 < (l0.length : Int)) = true := decide_eq_true c4
     clear c4
     by_cases c5 : 0 ≤ x5_1
     ·rw [if_pos c5] at H
      have c5b0 : decide (0 ≤ x5_1) = true := decide_eq_true c5
      clear c5
      by_cases c6 : x5_1 < (l1.length : Int)
      ·rw [if_pos c6] at H
       have c6b0 : decide (x5_1 < (l1.length : Int)) = true := decide_eq_true c6
       clear c6
       by_cases c7 : (!(((rd_T44 l0 x5_1).f0) == ((rd_T44 l1 x5_1).f0)) || (!((((rd_T44 l0 x5_1).f1).toList) == (((rd_T44 l1 x5_1).f1).toList)))) = true
       ·rw [if_pos c7] at H
        have c7b0 : (!(((rd_T44 l0 x5_1).f0) == ((rd_T44 l1 x5_1).f0)) || (!((((rd_T44 l0 x5_1).f1).toList) == (((rd_T44 l1 x5_1).f1).toList)))) = true := c7
        clear c7
        obtain rfl := Option.some.inj H
        have p626 : 0 ≤ (x5_1 : Int) := zD
        have q626 : x5_1 < (l0.length : Int) := zD
        obtain ⟨ad626, e626, hx626_0, hx626_1⟩ := at_T44 HR0.out x5_1 p626 q626
        cases e626
        replace p626 := eq_true p626
        replace q626 := eq_true q626
        have p627 : 0 ≤ (x5_1 : Int) := zD
        have q627 : x5_1 < (l1.length : Int) := zD
        obtain ⟨ad627, e627, hx627_0, hx627_1⟩ := at_T44 HR1.out x5_1 p627 q627
        cases e627
        replace p627 := eq_true p627
        replace q627 := eq_true q627
        go_wp2
        repeat (go_quiet (fail); try go_wp2)
        go_ret
        exact ⟨zS, zW⟩
       ·rw [if_neg c7] at H
        have c7b0 : (!(((rd_T44 l0 x5_1).f0) == ((rd_T44 l1 x5_1).f0)) || (!((((rd_T44 l0 x5_1).f1).toList) == (((rd_T44 l1 x5_1).f1).toList)))) = false := by simpa using c7
        clear c7
        have H' := zM H
        clear H
        have p626 : 0 ≤ (x5_1 : Int) := zD
        have q626 : x5_1 < (l0.length : Int) := zD
        obtain ⟨ad626, e626, hx626_0, hx626_1⟩ := at_T44 HR0.out x5_1 p626 q626
        cases e626
        replace p626 := eq_true p626
        replace q626 := eq_true q626
        have p627 : 0 ≤ (x5_1 : Int) := zD
        have q627 : x5_1 < (l1.length : Int) := zD
        obtain ⟨ad627, e627, hx627_0, hx627_1⟩ := at_T44 HR1.out x5_1 p627 q627
        cases e627
        replace p627 := eq_true p627
        replace q627 := eq_true q627
        go_wp2
        repeat (go_quiet (fail); try go_wp2)
        go_roundg k1
        case measure => have := HK1.out; omega
        case rel => exact ⟨(wrap64 (x5_1 + 1)), zS, H', ⟨by have := HK1.out; omega⟩, zW⟩
      ·rw [if_neg c6] at H
       exact absurd H (by simp)
     ·rw [if_neg c5] at H
      exact absurd H (by simp)
    ·rw [if_neg c4] at H
     have c4b0 : decide (x5_1 < (l0.length : Int)) = false := decide_eq_false c4
     clear c4
     obtain rfl := Option.some.inj H
     go_wp2
     repeat (go_quiet (fail); try go_wp2)
     go_ret
     exact ⟨zS, zW⟩
 ·rw [if_neg c3] at H
  have c3b0 : ((l0.length : Int) == (l1.length : Int)) = false := beq_eq_false_iff_ne.mpr c3
  have c3b1 : ((l0.length : Int) != (l1.length : Int)) = true := bne_iff_ne.mpr c3
  have c3b2 : (l0.length == l1.length) = false := by first | simpa using c3 | (simp at c3 ⊢; omega)
  obtain rfl := Option.some.inj H
  go_enter Try.func31, Try.ntmps31
  go_wp2
  repeat (go_quiet (fail); try go_wp2)
  go_ret
  exact ⟨zS, zW⟩

end Go.Proofs.Yteahdfibipalkaa.G

namespace Go.Proofs.Yteahdfibipalkaa.G
open Go.RowKit Go.Proofs.YteahdfibipalkaaW.PrintWords Go.Proofs.YteahdfibipalkaaW.PrintLast Go.Proofs.YteahdfibipalkaaW.PrintMore
attribute [local go_sem] max2_int min2_int max_two min_two max_three min_three max_four min_four   -- for this text's walks alone
set_option linter.unusedVariables false
set_option linter.unusedSimpArgs false

/-! ### impl_IsWhole: function 32 -/
set_option maxHeartbeats 8000000 in
set_option maxRecDepth 100000 in
theorem impl_IsWhole.calls (k : Nat) (A0 : Option Addr) (c0 : Nat) (l0 : List (S44)) (a1 : Int) (r : Bool) (w : World) (hr0 : Kd.C k44 w A0 l0.length l0) (hc0 : l0.length ≤ c0) (h : impl_IsWhole.f k l0 a1 = some r) :
  Calls Try.prog 32 #[.slice A0 l0.length c0, .int .i64 a1] w fun e w' => e = .returned (.bool r) ∧ Below w.heap.size w w' := by
 have hu26 := Try.underlying26
 have HR0 := zM hr0
 have HC0 := zM hc0
 clear hr0 hc0
 have HB := zM (Below.refl w.heap.size w)
 have H : ((impl_SpansOf.f k l0).bind fun t628 => ((impl_CoversSpan.f t628 0 a1).bind fun t631 => (some t631))) = some r := h
 clear h
 replace H := Option.bind_eq_some_iff.mp H
 obtain ⟨t628, A30, H⟩ := H
 try dsimp only at H
 have A3 := zM A30
 clear A30
 replace H := Option.bind_eq_some_iff.mp H
 obtain ⟨t631, A40, H⟩ := H
 try dsimp only at H
 have A4 := zM A40
 clear A40
 obtain rfl := Option.some.inj H
 go_enter Try.func32, Try.ntmps32
 go_wp2_with (first | ((with_reducible refine gate_callee (f := 30) rfl ?_); refine zG (some 6) Try.func30 #[.slice A0 l0.length c0] ?_; (with_reducible refine (impl_SpansOf.calls k _ _ l0 t628 _ ?side1 ?side2 A3.out).mono ?_); (case side1 => exact (zC HR0.out)); (case side2 => exact HC0.out); rintro e w5 ⟨v629, rfl, ho0, hb⟩; refine ⟨_, rfl, ?_⟩; have n0_ := zM (Kd.R_lower ho0 (below_size (zB HB.out))); have n1_ := zM (below_step (zB HB.out) hb); clear HB; have HO630 := n0_; have HB := n1_; clear n0_ n1_; (try clear hb); (try clear hb2); (try clear hk); (try clear hi); (try clear ho0); obtain ⟨Ao6, co6, eo6⟩ := Kd.R_slice HO630.out; subst eo6) | ((with_reducible refine gate_callee (f := 12) rfl ?_); refine zG (some 9) Try.func12 #[.slice Ao6 t628.length co6, .agg #[.int .i64 0, .int .i64 a1]] ?_; (with_reducible refine (impl_CoversSpan.calls _ _ t628 0 a1 t631 _ ?side1 ?side2 A4.out).mono ?_); (case side1 => exact (zC ((Kd.R_reads' HO630.out).2.2))); (case side2 => exact (Kd.R_reads' HO630.out).2.1); rintro e w7 ⟨rfl, hb⟩; refine ⟨_, rfl, ?_⟩; have n0_ := zM (Kd.R_below (zR HO630.out) hb); have n1_ := zM (below_step (zB HB.out) hb); clear HO630; clear HB; have HO630 := n0_; have HB := n1_; clear n0_ n1_; (try clear hb); (try clear hb2); (try clear hk); (try clear hi)))
 go_ret
 exact ⟨zE, (zB HB.out)⟩

end Go.Proofs.Yteahdfibipalkaa.G
