/- Texts for: FnPieces holds for every input, without a condition: adding pieces keeps and reads back every byte, in any order. -/
import Derived.Test.YteahdfibipalkaaKFnPieces0
import Derived.Test.YteahdfibipalkaaKFnPieces3
import Derived.Test.YteahdfibipalkaaKFnPieces2

namespace Go.Proofs.Yteahdfibipalkaa.G
open Go.RowKit Go.Proofs.YteahdfibipalkaaW.PrintWords Go.Proofs.YteahdfibipalkaaW.PrintLast Go.Proofs.YteahdfibipalkaaW.PrintMore
attribute [local go_sem] max2_int min2_int max_two min_two max_three min_three max_four min_four   -- for this text's walks alone
set_option linter.unusedVariables false
set_option linter.unusedSimpArgs false

/-! ### spec_AddPiece: function 20 -/
def spec_AddPiece.T11 : Bool × List (List Nat × List Nat) := (true, [([], []), ([0], [0]), ([], []), ([2], [2]), ([], []), ([3, 4], [3, 4]), ([1, 5, 1], [1, 5]), ([6, 6, 0, 1, 2, 3, 4, 5, 6], [6])])
def spec_AddPiece.B11 : List Nat := [0, 1, 0, 4, 0, 28, 63, 127]
theorem spec_AddPiece.tab11 : rtab .any (opsOf Try.f20 11) = spec_AddPiece.T11 := by kernel_rfl
theorem spec_AddPiece.bits11 : waitsOk spec_AddPiece.T11.2 spec_AddPiece.B11 = true := by kernel_rfl
def spec_AddPiece.T26 : Bool × List (List Nat × List Nat) := (true, [([], []), ([], []), ([], []), ([1, 2], [1, 2]), ([3], [3]), ([4], [4]), ([], []), ([6], [6]), ([5, 7], [5, 7]), ([8], [8]), ([0, 9], [0, 9]), ([10, 10, 0, 1, 2, 3, 4, 5, 6, 7, 8, 9, 10], [0, 10])])
def spec_AddPiece.B26 : List Nat := [0, 0, 0, 6, 14, 30, 0, 64, 254, 510, 1023, 2047]
theorem spec_AddPiece.tab26 : rtab .any (opsOf Try.f20 26) = spec_AddPiece.T26 := by kernel_rfl
theorem spec_AddPiece.bits26 : waitsOk spec_AddPiece.T26.2 spec_AddPiece.B26 = true := by kernel_rfl
set_option maxHeartbeats 8000000 in
set_option maxRecDepth 100000 in
theorem spec_AddPiece.calls (k : Nat) (A0 : Option Addr) (c0 : Nat) (l0 : List (S44)) (a1 : Int) (a2_0 : Int) (a2_1 : ByteArray) (r1 : List (S44)) (r2 : Bool) (w : World) (hr0 : Kd.C k44 w A0 l0.length l0) (hc0 : l0.length ≤ c0) (h : spec_AddPiece.f k l0 a1 a2_0 a2_1 = some (r1, r2)) :
  Calls Try.prog 20 #[.slice A0 l0.length c0, .int .i64 a1, .agg #[.int .i64 a2_0, .string a2_1]] w fun e w' => ∃ v0_ : Value, e = .returned (.tuple #[v0_, .bool r2]) ∧ Kd.R k44 44 w' w.heap.size (fun _ => True) v0_ r1 ∧ Below w.heap.size w w' := by
 have hu44 := Try.underlying44
 have hu26 := Try.underlying26
 have HR0 := zM hr0
 have HC0 := zM hc0
 clear hr0 hc0
 have HB := zM (Below.refl w.heap.size w)
 have H : ((some (([] : List (S44)) : List (S44))).bind fun y390 => (if y390.length + l0.length < 5864062014805 then ((some (y390 ++ l0 : List (S44))).bind fun y393 => ((spec_ArePieces.f k l0 a1).bind fun t396 => (if t396 = true then (if a2_0 < 0 then (spec_AddPiece.j0 k l0 y393 (wrap64 (a2_0 + (a2_1.size : Int))) true a2_0 a2_1) else (if (a2_1.size : Int) = 0 then (spec_AddPiece.j0 k l0 y393 (wrap64 (a2_0 + (a2_1.size : Int))) true a2_0 a2_1) else (if (a2_1.size : Int) > a1 then (spec_AddPiece.j0 k l0 y393 (wrap64 (a2_0 + (a2_1.size : Int))) true a2_0 a2_1) else (spec_AddPiece.j0 k l0 y393 (wrap64 (a2_0 + (a2_1.size : Int))) (decide (a2_0 > (wrap64 (a1 - (a2_1.size : Int))))) a2_0 a2_1)))) else (spec_AddPiece.j0 k l0 y393 (wrap64 (a2_0 + (a2_1.size : Int))) true a2_0 a2_1)))) else (none))) = some (r1, r2) := h
 clear h
 obtain ⟨y390, hy390⟩ : ∃ y_ : List (S44), y_ = (([] : List (S44))) := ⟨_, rfl⟩
 replace H : (if y390.length + l0.length < 5864062014805 then ((some (y390 ++ l0 : List (S44))).bind fun y393 => ((spec_ArePieces.f k l0 a1).bind fun t396 => (if t396 = true then (if a2_0 < 0 then (spec_AddPiece.j0 k l0 y393 (wrap64 (a2_0 + (a2_1.size : Int))) true a2_0 a2_1) else (if (a2_1.size : Int) = 0 then (spec_AddPiece.j0 k l0 y393 (wrap64 (a2_0 + (a2_1.size : Int))) true a2_0 a2_1) else (if (a2_1.size : Int) > a1 then (spec_AddPiece.j0 k l0 y393 (wrap64 (a2_0 + (a2_1.size : Int))) true a2_0 a2_1) else (spec_AddPiece.j0 k l0 y393 (wrap64 (a2_0 + (a2_1.size : Int))) (decide (a2_0 > (wrap64 (a1 - (a2_1.size : Int))))) a2_0 a2_1)))) else (spec_AddPiece.j0 k l0 y393 (wrap64 (a2_0 + (a2_1.size : Int))) true a2_0 a2_1)))) else (none)) = some (r1, r2) := zH hy390 H
 have Ny390 := zM hy390
 clear hy390
 by_cases c4 : y390.length + l0.length < 5864062014805
 ·rw [if_pos c4] at H
  have LMc4 := zM c4
  clear c4
  obtain ⟨y393, hy393⟩ : ∃ y_ : List (S44), y_ = (y390 ++ l0) := ⟨_, rfl⟩
  replace H : ((spec_ArePieces.f k l0 a1).bind fun t396 => (if t396 = true then (if a2_0 < 0 then (spec_AddPiece.j0 k l0 y393 (wrap64 (a2_0 + (a2_1.size : Int))) true a2_0 a2_1) else (if (a2_1.size : Int) = 0 then (spec_AddPiece.j0 k l0 y393 (wrap64 (a2_0 + (a2_1.size : Int))) true a2_0 a2_1) else (if (a2_1.size : Int) > a1 then (spec_AddPiece.j0 k l0 y393 (wrap64 (a2_0 + (a2_1.size : Int))) true a2_0 a2_1) else (spec_AddPiece.j0 k l0 y393 (wrap64 (a2_0 + (a2_1.size : Int))) (decide (a2_0 > (wrap64 (a1 - (a2_1.size : Int))))) a2_0 a2_1)))) else (spec_AddPiece.j0 k l0 y393 (wrap64 (a2_0 + (a2_1.size : Int))) true a2_0 a2_1))) = some (r1, r2) := zH hy393 H
  have Ny393 := zM hy393
  clear hy393
  have HC5 := zM H
  clear H
  go_enter Try.func20, Try.ntmps20
  go_upto_region 3 with (first | ((with_reducible refine gate_dst (N := 5) rfl ?_); (try (refine gate_guard (by rfl) ?_; dsimp only)); refine box_event ?hg (N := 5) ?hd (cs := #[.int .i64 a2_0, .string a2_1]) (t := 44) ?hr ?_; (case hd => rfl); (case hg => rfl); (case hr => first | (go_simp; done) | (go_simp; rfl)); intro gb389 hg w6 hbox hb; have n0_ := zM (below_step (zB HB.out) hb); have n1_ := zM (hbox); have n2_ := zM ((by rw [hg]; exact (below_size (zB HB.out)) : w.heap.size ≤ gb389)); have n3_ := zM ((by rw [hg]; exact (below_size (zB HB.out)) : w.heap.size ≤ gb389)); clear HB; have HB := n0_; have BK389 := n1_; have GW389 := n2_; have GE389 := n3_; clear n0_ n1_ n2_ n3_; clear hb hbox hg) | ((with_reducible refine gate_dst (N := 18) rfl ?_); (try (refine gate_guard (by rfl) ?_; dsimp only)); refine Kd.R_lit k44 _ 44 ?hg (N := 18) ?hd (xs := ([] : List (S44))) (inner := []) (ok := fun _ => True) (okp := fun _ => True) ?hr ?hp (fun _ hk => hk) trivial (Below.refl _ _) (Nat.le_refl _) (by simp) ?_; (case hd => rfl); (case hg => rfl); (case hr => first | (go_simp; done) | (go_simp; rfl)); (case hp => exact (Reps.none _ _)); intro v391 w7 ho8 hb hg_ hnew_; clear hg_ hnew_; (first | rw [← Ny390.out] at ho8 | (simp only [Int.reduceToNat] at ho8; rw [← Ny390.out] at ho8)); have n0_ := zM (Kd.R_lower (Kd.R_newB ho8 (g := gb389) (o := .cells #[.int .i64 a2_0, .string a2_1] 44 (0, 0)) (zP BK389.out)) (below_size (zB1 GE389.out HB.out))); have n1_ := zM (blk_below (g := gb389) (o := .cells #[.int .i64 a2_0, .string a2_1] 44 (0, 0)) (zP BK389.out) hb); have n2_ := zM (below_step (zB1 GE389.out HB.out) hb); clear BK389; clear HB; have HO392 := n0_; have BK389 := n1_; have HB := n2_; clear n0_ n1_ n2_; clear hb ho8) | ((with_reducible refine gate_builtin (b := .append) (xs := #[.tmp 18, .tmp 19]) rfl ?_); (try (refine gate_guard (by rfl) ?_; dsimp only)); at_builtin; refine Kd.R_append_rows k44 (w0 := w) w.heap.size rfl (.tmp 18) (.tmp 19) 40 44 (.agg #[(.int .i64 0), (.string ⟨#[]⟩)]) 24 rfl Try.underlying40 info44 rfl (by decide) (by omega) v391 y390 l0 _ _ _ (fun k_ => k_ ≠ gb389) (fun _ => False) rfl rfl ?aO ?aR (fun _ _ h => h) (fun _ h => h.elim) ?aF ?aB ?aS ?aL ?_; (case aR => exact (zC (Kd.C_below HR0.out HB.out))); (case aB => exact (zB1 GE389.out HB.out)); (case aF => exact (fun k_ hk => Kd.freshB (g := gb389) (o := .cells #[.int .i64 a2_0, .string a2_1] 44 (0, 0)) (zP BK389.out) k_ hk)); (case aO => exact (zRm HO392.out (fun _ hk => hk.2))); (case aS => exact (below_size (zB1 GE389.out HB.out))); (case aL => have := LMc4.out; omega); intro v394 w9 ho hb hg hat; rw [← Ny393.out] at ho; have n0_ := zM (blk_grown (g := gb389) (o := .cells #[.int .i64 a2_0, .string a2_1] 44 (0, 0)) (zP BK389.out) hg (Kd.R_away HO392.out (fun _ hk => hk.2))); have n1_ := zM (hb); have n2_ := zM (ho); clear BK389; clear HB; clear HO392; have BK389 := n0_; have HB := n1_; have HO395 := n2_; clear n0_ n1_ n2_; clear ho hb hg hat; have hcz10_0 : w9.cell? ⟨gb389, 0, none⟩ = some (.int .i64 a2_0) := (blk_cell BK389.out 0).trans rfl; have hcz10_1 : w9.cell? ⟨gb389, 1, none⟩ = some (.string a2_1) := (blk_cell BK389.out 1).trans rfl; have hfz10_0 := blk_frozen BK389.out 0; have hfz10_1 := blk_frozen BK389.out 1))
  (try simp only [Act.put, List.setIfInBounds_toArray, List.set_cons_zero, List.set_cons_succ])
  go_cut [58] (fun v58 wc => ∃ (kq : Nat) (x58_4 : Bool), v58 = .bool x58_4 ∧ Aside0 (spec_AddPiece.j0 kq l0 y393 (wrap64 (a2_0 + (a2_1.size : Int))) x58_4 a2_0 a2_1 = some (r1, r2)) ∧ Aside0 (kq ≤ k) ∧ Aside0 (Kd.R k44 44 wc w.heap.size (fun k_ => k_ ≠ gb389) v394 y393) ∧ Aside0 (wc.heap[gb389]? = some (.cells #[.int .i64 a2_0, .string a2_1] 44 (0, 0))) ∧ Aside0 (Below w.heap.size w wc))
  case first =>
   have H := HC5.out
   clear HC5
   replace H := Option.bind_eq_some_iff.mp H
   obtain ⟨t396, A110, H⟩ := H
   try dsimp only at H
   have A11 := zM A110
   clear A110
   by_cases c12 : t396 = true
   ·subst c12
    rw [if_pos rfl] at H
    by_cases c13 : a2_0 < 0
    ·rw [if_pos c13] at H
     have c13b0 : decide (a2_0 < 0) = true := decide_eq_true c13
     clear c13
     (first | rw [c13b0] | (simp only [i64_w, i32_w]; rw [c13b0]) | skip)
     have H' := zM H
     clear H
     go_wp2_with (first | ((with_reducible refine gate_callee (f := 29) rfl ?_); refine zG (some 29) Try.func29 #[.slice A0 l0.length c0, .int .i64 a1] ?_; (with_reducible refine (spec_ArePieces.calls k _ _ l0 a1 true _ ?side1 ?side2 A11.out).mono ?_); (case side1 => exact (zC (Kd.C_below HR0.out HB.out))); (case side2 => exact HC0.out); rintro e w14 ⟨rfl, hb⟩; refine ⟨_, rfl, ?_⟩; have n0_ := zM (Kd.R_below (zR HO395.out) hb); have n1_ := zM (blk_below (g := gb389) (o := .cells #[.int .i64 a2_0, .string a2_1] 44 (0, 0)) (zP BK389.out) hb); have n2_ := zM (below_step (zB1 GE389.out HB.out) hb); clear HO395; clear BK389; clear HB; have HO395 := n0_; have BK389 := n1_; have HB := n2_; clear n0_ n1_ n2_; (try clear hb); (try clear hb2); (try clear hk); (try clear hi); have hcz15_0 : w14.cell? ⟨gb389, 0, none⟩ = some (.int .i64 a2_0) := (blk_cell BK389.out 0).trans rfl; have hcz15_1 : w14.cell? ⟨gb389, 1, none⟩ = some (.string a2_1) := (blk_cell BK389.out 1).trans rfl; have hfz15_0 := blk_frozen BK389.out 0; have hfz15_1 := blk_frozen BK389.out 1))
     go_meet
     case rel => exact ⟨_, (true), zS, H', ⟨by first | omega | exact Nat.le_refl _⟩, ⟨(zR HO395.out)⟩, ⟨(zP BK389.out)⟩, ⟨(zB1 GE389.out HB.out)⟩⟩
    ·rw [if_neg c13] at H
     have c13b0 : decide (a2_0 < 0) = false := decide_eq_false c13
     clear c13
     (first | rw [c13b0] | (simp only [i64_w, i32_w]; rw [c13b0]) | skip)
     by_cases c16 : (a2_1.size : Int) = 0
     ·rw [if_pos c16] at H
      have c16b0 : ((a2_1.size : Int) == 0) = true := beq_iff_eq.mpr c16
      have c16b1 : ((a2_1.size : Int) != 0) = false := bne_eq_false_iff_eq.mpr c16
      clear c16
      have H' := zM H
      clear H
      go_wp2_with (first | ((with_reducible refine gate_callee (f := 29) rfl ?_); refine zG (some 29) Try.func29 #[.slice A0 l0.length c0, .int .i64 a1] ?_; (with_reducible refine (spec_ArePieces.calls k _ _ l0 a1 true _ ?side1 ?side2 A11.out).mono ?_); (case side1 => exact (zC (Kd.C_below HR0.out HB.out))); (case side2 => exact HC0.out); rintro e w17 ⟨rfl, hb⟩; refine ⟨_, rfl, ?_⟩; have n0_ := zM (Kd.R_below (zR HO395.out) hb); have n1_ := zM (blk_below (g := gb389) (o := .cells #[.int .i64 a2_0, .string a2_1] 44 (0, 0)) (zP BK389.out) hb); have n2_ := zM (below_step (zB1 GE389.out HB.out) hb); clear HO395; clear BK389; clear HB; have HO395 := n0_; have BK389 := n1_; have HB := n2_; clear n0_ n1_ n2_; (try clear hb); (try clear hb2); (try clear hk); (try clear hi); have hcz18_0 : w17.cell? ⟨gb389, 0, none⟩ = some (.int .i64 a2_0) := (blk_cell BK389.out 0).trans rfl; have hcz18_1 : w17.cell? ⟨gb389, 1, none⟩ = some (.string a2_1) := (blk_cell BK389.out 1).trans rfl; have hfz18_0 := blk_frozen BK389.out 0; have hfz18_1 := blk_frozen BK389.out 1))
      go_meet
      case rel => exact ⟨_, (true), zS, H', ⟨by first | omega | exact Nat.le_refl _⟩, ⟨(zR HO395.out)⟩, ⟨(zP BK389.out)⟩, ⟨(zB1 GE389.out HB.out)⟩⟩
     ·rw [if_neg c16] at H
      have c16b0 : ((a2_1.size : Int) == 0) = false := beq_eq_false_iff_ne.mpr c16
      have c16b1 : ((a2_1.size : Int) != 0) = true := bne_iff_ne.mpr c16
      by_cases c19 : (a2_1.size : Int) > a1
      ·rw [if_pos c19] at H
       have c19b0 : decide (a1 < (a2_1.size : Int)) = true := decide_eq_true c19
       clear c19
       have H' := zM H
       clear H
       go_wp2_with (first | ((with_reducible refine gate_callee (f := 29) rfl ?_); refine zG (some 29) Try.func29 #[.slice A0 l0.length c0, .int .i64 a1] ?_; (with_reducible refine (spec_ArePieces.calls k _ _ l0 a1 true _ ?side1 ?side2 A11.out).mono ?_); (case side1 => exact (zC (Kd.C_below HR0.out HB.out))); (case side2 => exact HC0.out); rintro e w20 ⟨rfl, hb⟩; refine ⟨_, rfl, ?_⟩; have n0_ := zM (Kd.R_below (zR HO395.out) hb); have n1_ := zM (blk_below (g := gb389) (o := .cells #[.int .i64 a2_0, .string a2_1] 44 (0, 0)) (zP BK389.out) hb); have n2_ := zM (below_step (zB1 GE389.out HB.out) hb); clear HO395; clear BK389; clear HB; have HO395 := n0_; have BK389 := n1_; have HB := n2_; clear n0_ n1_ n2_; (try clear hb); (try clear hb2); (try clear hk); (try clear hi); have hcz21_0 : w20.cell? ⟨gb389, 0, none⟩ = some (.int .i64 a2_0) := (blk_cell BK389.out 0).trans rfl; have hcz21_1 : w20.cell? ⟨gb389, 1, none⟩ = some (.string a2_1) := (blk_cell BK389.out 1).trans rfl; have hfz21_0 := blk_frozen BK389.out 0; have hfz21_1 := blk_frozen BK389.out 1))
       go_meet
       case rel => exact ⟨_, (true), zS, H', ⟨by first | omega | exact Nat.le_refl _⟩, ⟨(zR HO395.out)⟩, ⟨(zP BK389.out)⟩, ⟨(zB1 GE389.out HB.out)⟩⟩
      ·rw [if_neg c19] at H
       have c19b0 : decide (a1 < (a2_1.size : Int)) = false := decide_eq_false c19
       clear c19
       have H' := zM H
       clear H
       go_wp2_with (first | ((with_reducible refine gate_callee (f := 29) rfl ?_); refine zG (some 29) Try.func29 #[.slice A0 l0.length c0, .int .i64 a1] ?_; (with_reducible refine (spec_ArePieces.calls k _ _ l0 a1 true _ ?side1 ?side2 A11.out).mono ?_); (case side1 => exact (zC (Kd.C_below HR0.out HB.out))); (case side2 => exact HC0.out); rintro e w22 ⟨rfl, hb⟩; refine ⟨_, rfl, ?_⟩; have n0_ := zM (Kd.R_below (zR HO395.out) hb); have n1_ := zM (blk_below (g := gb389) (o := .cells #[.int .i64 a2_0, .string a2_1] 44 (0, 0)) (zP BK389.out) hb); have n2_ := zM (below_step (zB1 GE389.out HB.out) hb); clear HO395; clear BK389; clear HB; have HO395 := n0_; have BK389 := n1_; have HB := n2_; clear n0_ n1_ n2_; (try clear hb); (try clear hb2); (try clear hk); (try clear hi); have hcz23_0 : w22.cell? ⟨gb389, 0, none⟩ = some (.int .i64 a2_0) := (blk_cell BK389.out 0).trans rfl; have hcz23_1 : w22.cell? ⟨gb389, 1, none⟩ = some (.string a2_1) := (blk_cell BK389.out 1).trans rfl; have hfz23_0 := blk_frozen BK389.out 0; have hfz23_1 := blk_frozen BK389.out 1))
       go_meet
       case rel => exact ⟨_, (decide (a2_0 > (wrap64 (a1 - (a2_1.size : Int))))), zS, H', ⟨by first | omega | exact Nat.le_refl _⟩, ⟨(zR HO395.out)⟩, ⟨(zP BK389.out)⟩, ⟨(zB1 GE389.out HB.out)⟩⟩
   ·replace c12 := Bool.eq_false_iff.mpr c12
    subst c12
    rw [if_neg (show ¬ (false = true) by decide)] at H
    have H' := zM H
    clear H
    go_wp2_with (first | ((with_reducible refine gate_callee (f := 29) rfl ?_); refine zG (some 29) Try.func29 #[.slice A0 l0.length c0, .int .i64 a1] ?_; (with_reducible refine (spec_ArePieces.calls k _ _ l0 a1 false _ ?side1 ?side2 A11.out).mono ?_); (case side1 => exact (zC (Kd.C_below HR0.out HB.out))); (case side2 => exact HC0.out); rintro e w24 ⟨rfl, hb⟩; refine ⟨_, rfl, ?_⟩; have n0_ := zM (Kd.R_below (zR HO395.out) hb); have n1_ := zM (blk_below (g := gb389) (o := .cells #[.int .i64 a2_0, .string a2_1] 44 (0, 0)) (zP BK389.out) hb); have n2_ := zM (below_step (zB1 GE389.out HB.out) hb); clear HO395; clear BK389; clear HB; have HO395 := n0_; have BK389 := n1_; have HB := n2_; clear n0_ n1_ n2_; (try clear hb); (try clear hb2); (try clear hk); (try clear hi)))
    go_meet
    case rel => exact ⟨_, (true), zS, H', ⟨by first | omega | exact Nat.le_refl _⟩, ⟨(zR HO395.out)⟩, ⟨(zP BK389.out)⟩, ⟨(zB1 GE389.out HB.out)⟩⟩
  case rest =>
   clear HC5
   try clear c1
   try clear c2
   try clear p2
   try clear c4
   try clear p6
   try clear c12
   try clear c13
   try clear c13b0
   try clear c16
   try clear c16b0
   try clear c16b1
   try clear c19
   try clear c19b0
   try clear c20
   try clear hcz10_0
   try clear hcz10_1
   try clear hcz15_0
   try clear hcz15_1
   try clear hcz18_0
   try clear hcz18_1
   try clear hcz21_0
   try clear hcz21_1
   try clear hcz23_0
   try clear hcz23_1
   try clear hfz10_0
   try clear hfz10_1
   try clear hfz15_0
   try clear hfz15_1
   try clear hfz18_0
   try clear hfz18_1
   try clear hfz21_0
   try clear hfz21_1
   try clear hfz23_0
   try clear hfz23_1
   obtain ⟨kq, x58_4, rfl, HA, HJ4, HO_8, BK389, HB⟩ := hcut
   cases kq with
   | zero => exact absurd HA.out (by simp [spec_AddPiece.j0])
   | succ kj4 =>
    have H := HA.out
    clear HA
    simp only [spec_AddPiece.j0] at H
    by_cases c25 : x58_4 = true
    ·subst c25
     rw [if_pos rfl] at H
     simp only [Option.some.injEq, Prod.mk.injEq] at H
     obtain ⟨rfl, rfl⟩ := H
     go_wp2
     go_ret2
     exact ⟨_, zE, (zRm HO_8.out (fun _ hk => trivial)), (zB1 GE389.out HB.out)⟩
    ·replace c25 := Bool.eq_false_iff.mpr c25
     subst c25
     rw [if_neg (show ¬ (false = true) by decide)] at H
     have H' := zM H
     clear H
     have hcz26_0 : wc.cell? ⟨gb389, 0, none⟩ = some (.int .i64 a2_0) := (blk_cell BK389.out 0).trans rfl
     have hcz26_1 : wc.cell? ⟨gb389, 1, none⟩ = some (.string a2_1) := (blk_cell BK389.out 1).trans rfl
     have hfz26_0 := blk_frozen BK389.out 0
     have hfz26_1 := blk_frozen BK389.out 1
     go_wp2
     go_loopg [10] kj4 (fun kq v10 w' => ∃ (x10_2 : Int), v10 = .int .i64 x10_2 ∧ Aside0 (spec_AddPiece.l0 kq l0 y393 (wrap64 (a2_0 + (a2_1.size : Int))) x10_2 a2_0 a2_1 = some (r1, r2)) ∧ Aside0 (kq ≤ kj4) ∧ Aside0 (Kd.R k44 44 w' w.heap.size (fun k_ => k_ ≠ gb389) v394 y393) ∧ Aside0 (w'.heap[gb389]? = some (.cells #[.int .i64 a2_0, .string a2_1] 44 (0, 0))) ∧ Aside0 (Below w.heap.size w w'))
     case atStart => exact ⟨(a2_0), zS, H', ⟨Nat.le_refl _⟩, ⟨(zR HO_8.out)⟩, ⟨(zP BK389.out)⟩, ⟨(zB1 GE389.out HB.out)⟩⟩
     case round =>
      clear H'
      try clear c1
      try clear c2
      try clear p2
      try clear c4
      try clear p6
      try clear c12
      try clear c13
      try clear c13b0
      try clear c16
      try clear c16b0
      try clear c16b1
      try clear c19
      try clear c19b0
      try clear c20
      try clear c25
      try clear hcz10_0
      try clear hcz10_1
      try clear hcz15_0
      try clear hcz15_1
      try clear hcz18_0
      try clear hcz18_1
      try clear hcz21_0
      try clear hcz21_1
      try clear hcz23_0
      try clear hcz23_1
      try clear hcz26_0
      try clear hcz26_1
      try clear hfz10_0
      try clear hfz10_1
      try clear hfz15_0
      try clear hfz15_1
      try clear hfz18_0
      try clear hfz18_1
      try clear hfz21_0
      try clear hfz21_1
      try clear hfz23_0
      try clear hfz23_1
      try clear hfz26_0
      try clear hfz26_1
      try clear p2
      try clear p6
      obtain ⟨x10_2, rfl, HA, HK2, HO_8, BK389, HB⟩ := hrel
      cases gk with
      | zero => exact absurd HA.out (by simp [spec_AddPiece.l0])
      | succ k2 =>
       have H := HA.out
       clear HA
       simp only [spec_AddPiece.l0] at H
       by_cases c27 : x10_2 < (wrap64 (a2_0 + (a2_1.size : Int)))
       ·rw [if_pos c27] at H
        have c27b0 : decide (x10_2 < (wrap64 (a2_0 + (a2_1.size : Int)))) = true := decide_eq_true c27
        clear c27
        replace H := Option.bind_eq_some_iff.mp H
        obtain ⟨t397, A280, H⟩ := H
        try dsimp only at H
        have A28 := zM A280
        clear A280
        by_cases c29 : t397 ≥ 0
        ·rw [if_pos c29] at H
         have c29b0 : decide (0 ≤ t397) = true := decide_eq_true c29
         clear c29
         obtain ⟨ji30, hji30⟩ : ∃ j_ : Int, (wrap64 (x10_2 - a2_0)) = j_ := ⟨_, rfl⟩
         replace H : (if 0 ≤ (ji30) then (if (ji30) < (a2_1.size : Int) then (if t397 = (wrap64 (bt a2_1 (ji30))) then (spec_AddPiece.l0 k2 l0 y393 (wrap64 (a2_0 + (a2_1.size : Int))) (wrap64 (x10_2 + 1)) a2_0 a2_1) else (some (y393, false))) else (none)) else (none)) = some (r1, r2) := by first | (rw [hji30] at H; exact H) | (simp only [hji30] at H ⊢; exact H)
         (try rw [hji30] at A28)
         have hji30w : (IntKind.i64.wrap (x10_2 - a2_0)) = ji30 := (i64_w _).trans hji30
         by_cases c31 : 0 ≤ (ji30)
         ·rw [if_pos c31] at H
          have c31b0 : decide (0 ≤ (ji30)) = true := decide_eq_true c31
          clear c31
          by_cases c32 : (ji30) < (a2_1.size : Int)
          ·rw [if_pos c32] at H
           have c32b0 : decide ((ji30) < (a2_1.size : Int)) = true := decide_eq_true c32
           clear c32
           by_cases c34 : t397 = (wrap64 (bt a2_1 (ji30)))
           ·rw [if_pos c34] at H
            have c34b0 : (t397 == (wrap64 (bt a2_1 (ji30)))) = true := beq_iff_eq.mpr c34
            have c34b1 : (t397 != (wrap64 (bt a2_1 (ji30)))) = false := bne_eq_false_iff_eq.mpr c34
            clear c34
            have H' := zM H
            clear H
            go_wp2_with (first | ((with_reducible refine gate_callee (f := 42) rfl ?_); refine zG (some 69) Try.func42 #[.slice A0 l0.length c0, .int .i64 x10_2] ?_; (with_reducible refine (spec_l10Byte.calls k2 _ _ l0 x10_2 t397 _ ?side1 ?side2 A28.out).mono ?_); (case side1 => exact (zC (Kd.C_below HR0.out HB.out))); (case side2 => exact HC0.out); rintro e w' ⟨rfl, ⟨nd, rfl⟩⟩; refine ⟨_, rfl, ?_⟩; have hcz35_0 : wr.cell? ⟨gb389, 0, none⟩ = some (.int .i64 a2_0) := (blk_cell BK389.out 0).trans rfl; have hcz35_1 : wr.cell? ⟨gb389, 1, none⟩ = some (.string a2_1) := (blk_cell BK389.out 1).trans rfl; have hfz35_0 := blk_frozen BK389.out 0; have hfz35_1 := blk_frozen BK389.out 1; have p33 : 0 ≤ ((ji30) : Int) := zD; have q33 : (ji30) < (a2_1.size : Int) := zD; have hx33 := bt_at a2_1 (ji30); replace p33 := eq_true p33; replace q33 := eq_true q33))
            go_roundg k2
            case measure => have := HJ4.out; have := HK2.out; omega
            case rel => exact ⟨(wrap64 (x10_2 + 1)), zS, H', ⟨by have := HJ4.out; have := HK2.out; omega⟩, ⟨(zR HO_8.out)⟩, ⟨(zP BK389.out)⟩, ⟨(zB1 GE389.out HB.out)⟩⟩
           ·rw [if_neg c34] at H
            have c34b0 : (t397 == (wrap64 (bt a2_1 (ji30)))) = false := beq_eq_false_iff_ne.mpr c34
            have c34b1 : (t397 != (wrap64 (bt a2_1 (ji30)))) = true := bne_iff_ne.mpr c34
            simp only [Option.some.injEq, Prod.mk.injEq] at H
            obtain ⟨rfl, rfl⟩ := H
            go_wp2_with (first | ((with_reducible refine gate_callee (f := 42) rfl ?_); refine zG (some 69) Try.func42 #[.slice A0 l0.length c0, .int .i64 x10_2] ?_; (with_reducible refine (spec_l10Byte.calls k2 _ _ l0 x10_2 t397 _ ?side1 ?side2 A28.out).mono ?_); (case side1 => exact (zC (Kd.C_below HR0.out HB.out))); (case side2 => exact HC0.out); rintro e w' ⟨rfl, ⟨nd, rfl⟩⟩; refine ⟨_, rfl, ?_⟩; have hcz36_0 : wr.cell? ⟨gb389, 0, none⟩ = some (.int .i64 a2_0) := (blk_cell BK389.out 0).trans rfl; have hcz36_1 : wr.cell? ⟨gb389, 1, none⟩ = some (.string a2_1) := (blk_cell BK389.out 1).trans rfl; have hfz36_0 := blk_frozen BK389.out 0; have hfz36_1 := blk_frozen BK389.out 1; have p33 : 0 ≤ ((ji30) : Int) := zD; have q33 : (ji30) < (a2_1.size : Int) := zD; have hx33 := bt_at a2_1 (ji30); replace p33 := eq_true p33; replace q33 := eq_true q33))
            go_ret2
            exact ⟨_, by first | rfl | (simp [errW_none, errW_some] <;> rfl) | (simp only [← hji30]; first | rfl | (simp [errW_none, errW_some] <;> rfl)) | (simp [*, errW_none, errW_some] <;> rfl), (zRm HO_8.out (fun _ hk => trivial)), (zB1 GE389.out HB.out)⟩
          ·rw [if_neg c32] at H
           exact absurd H (by simp)
         ·rw [if_neg c31] at H
          exact absurd H (by simp)
        ·rw [if_neg c29] at H
         have c29b0 : decide (0 ≤ t397) = false := decide_eq_false c29
         clear c29
         have H' := zM H
         clear H
         go_wp2_with (first | ((with_reducible refine gate_callee (f := 42) rfl ?_); refine zG (some 69) Try.func42 #[.slice A0 l0.length c0, .int .i64 x10_2] ?_; (with_reducible refine (spec_l10Byte.calls k2 _ _ l0 x10_2 t397 _ ?side1 ?side2 A28.out).mono ?_); (case side1 => exact (zC (Kd.C_below HR0.out HB.out))); (case side2 => exact HC0.out); rintro e w' ⟨rfl, ⟨nd, rfl⟩⟩; refine ⟨_, rfl, ?_⟩))
         go_roundg k2
         case measure => have := HJ4.out; have := HK2.out; omega
         case rel => exact ⟨(wrap64 (x10_2 + 1)), zS, H', ⟨by have := HJ4.out; have := HK2.out; omega⟩, ⟨(zR HO_8.out)⟩, ⟨(zP BK389.out)⟩, ⟨(zB1 GE389.out HB.out)⟩⟩
       ·rw [if_neg c27] at H
        have c27b0 : decide (x10_2 < (wrap64 (a2_0 + (a2_1.size : Int)))) = false := decide_eq_false c27
        clear c27
        replace H := Option.bind_eq_some_iff.mp H
        obtain ⟨t398, A370, H⟩ := H
        try dsimp only at H
        have A37 := zM A370
        clear A370
        replace H := Option.bind_eq_some_iff.mp H
        obtain ⟨t401, A380, H⟩ := H
        try dsimp only at H
        have A38 := zM A380
        clear A380
        by_cases c39 : (t401.length : Int) > 8
        ·rw [if_pos c39] at H
         have c39b0 : decide (8 < (t401.length : Int)) = true := decide_eq_true c39
         have c39b1 : decide (8 < t401.length) = true := decide_eq_true (by omega)
         clear c39
         simp only [Option.some.injEq, Prod.mk.injEq] at H
         obtain ⟨rfl, rfl⟩ := H
         try go_wp2
         have n0_ := zM (Kd.R_drew HO_8.out)
         have n1_ := zM (blk_drew BK389.out)
         have n2_ := zM (below_drew1 HB.out)
         clear HO_8
         clear BK389
         clear HB
         have HO_8 := n0_
         have BK389 := n1_
         have HB := n2_
         clear n0_ n1_ n2_
         refine start_ (n := 8) (S := fun w' => w'.cell? ⟨gb389, 0, none⟩ = some (.int .i64 a2_0) ∧ w'.cell? ⟨gb389, 1, none⟩ = some (.string a2_1)) (ds := []) (ba 8 0).toArray (by kernel_rfl) rfl rfl ⟨(blk_cell BK389.out 0).trans rfl, (blk_cell BK389.out 1).trans rfl⟩ (fun hHeld => ?_); refine with_tabW spec_AddPiece.tab11 spec_AddPiece.bits11 (fun HT_ HW_ => ?_)
         generalize wr.drew = w40 at HO_8 BK389 HB hHeld ⊢
         refine zq 0 (some 85) (ba 8 1).toArray HT_ ?_
         refine zq 2 (some 87) (ba 8 5).toArray HT_ ?_
         refine zq 4 (some 89) (ba 8 21).toArray HT_ ?_
         refine zt2 3 (some 88) (ba 8 29).toArray HT_ HW_ hHeld ?_
         refine zq 5 (some 90) (ba 8 61).toArray HT_ ?_
         refine one_ (i := 1) (N := some 86) (ba 8 63).toArray rfl rfl (one_of HT_.out (by kernel_rfl)) (by decide) (fun K hK => ?_)
         refine goes_ Try.func44 (by kernel_rfl) rfl #[.slice A0 l0.length c0] (by rfl) rfl rfl (by (try simp only [List.map_toArray, List.map_cons, List.map_nil]); first | done | rfl | (simp only [List.length_drop, List.length_take]; rfl)) ?_
         with_reducible refine (spec_SpansOf.calls k2 _ _ l0 t398 _ ?side1 ?side2 A37.out).mono ?_
         (case side1 => exact (zC (Kd.C_below HR0.out HB.out)))
         (case side2 => exact HC0.out)
         rintro e w41 ⟨v399, rfl, ho0, hb⟩
         refine ⟨_, rfl, ?_⟩
         have n0_ := zM (Kd.R_below (zR HO_8.out) hb)
         have n1_ := zM (Kd.R_lower ho0 (below_size (zB1 GE389.out HB.out)))
         have n2_ := zM (blk_below (g := gb389) (o := .cells #[.int .i64 a2_0, .string a2_1] 44 (0, 0)) (zP BK389.out) hb)
         have n3_ := zM (below_step (zB1 GE389.out HB.out) hb)
         clear HO_8
         clear BK389
         clear HB
         have HO_8 := n0_
         have HO400 := n1_
         have BK389 := n2_
         have HB := n3_
         clear n0_ n1_ n2_ n3_
         (try clear hb)
         (try clear hb2)
         (try clear hk)
         (try clear hi)
         (try clear ho0)
         obtain ⟨Ao42, co42, eo42⟩ := Kd.R_slice HO400.out
         (first | subst eo42 | (injection eo42 with f1_ f2_ f3_; have f4_ := f1_.symm; have f5_ := f3_.symm; clear f1_ f2_ f3_; subst f4_; subst f5_))
         refine hK.out _ _ ⟨(blk_cell BK389.out 0).trans rfl, (blk_cell BK389.out 1).trans rfl⟩ (fun hHeld => ?_)
         clear hK K
         refine norm_ (a' := ?_) ?_ ?_
         rotate_left
         ·show Act.put _ (some 86) _ = _
          simp only [Act.put, List.setIfInBounds_toArray, List.set_cons_zero, List.set_cons_succ, i64_w, i32_w]
          rfl
         refine one_ (i := 6) (N := some 91) (ba 8 127).toArray rfl rfl (one_of HT_.out (by kernel_rfl)) (by decide) (fun K hK => ?_)
         refine goes_ Try.func43 (by kernel_rfl) rfl #[.slice Ao42 t398.length co42, .agg #[.int .i64 a2_0, .int .i64 (wrap64 (a2_0 + (a2_1.size : Int)))]] (by rfl) rfl rfl (by (try simp only [List.map_toArray, List.map_cons, List.map_nil]); first | done | rfl | (simp only [List.length_drop, List.length_take]; rfl)) ?_
         with_reducible refine (spec_AddSpan.calls k2 _ _ t398 a2_0 (wrap64 (a2_0 + (a2_1.size : Int))) t401 _ ?side1 ?side2 A38.out).mono ?_
         (case side1 => exact (zC ((Kd.R_reads' HO400.out).2.2)))
         (case side2 => exact (Kd.R_reads' HO400.out).2.1)
         rintro e w43 ⟨v402, rfl, ho0, hb⟩
         refine ⟨_, rfl, ?_⟩
         have n0_ := zM (Kd.R_below (zR HO_8.out) hb)
         have n1_ := zM (Kd.R_elder' (zR HO400.out) (Kd.R_base ho0) hb)
         have n2_ := zM (Kd.R_lower (Kd.R_new' ho0 (Kd.R_lt (zR HO400.out))) (below_size (zB1 GE389.out HB.out)))
         have n3_ := zM (blk_below (g := gb389) (o := .cells #[.int .i64 a2_0, .string a2_1] 44 (0, 0)) (zP BK389.out) hb)
         have n4_ := zM (below_step (zB1 GE389.out HB.out) hb)
         clear HO_8
         clear HO400
         clear BK389
         clear HB
         have HO_8 := n0_
         have HO400 := n1_
         have HO403 := n2_
         have BK389 := n3_
         have HB := n4_
         clear n0_ n1_ n2_ n3_ n4_
         (try clear hb)
         (try clear hb2)
         (try clear hk)
         (try clear hi)
         (try clear ho0)
         refine hK.out _ _ ⟨(blk_cell BK389.out 0).trans rfl, (blk_cell BK389.out 1).trans rfl⟩ (fun hHeld => ?_)
         clear hK K
         refine norm_ (a' := ?_) ?_ ?_
         rotate_left
         ·show Act.put _ (some 91) _ = _
          simp only [Act.put, List.setIfInBounds_toArray, List.set_cons_zero, List.set_cons_succ, i64_w, i32_w]
          rfl
         refine zq 7 (some 12) (ba 8 255).toArray HT_ ?_
         refine done_ (done_of HT_.out (by kernel_rfl)) ?_
         obtain ⟨Ao44, co44, eo44⟩ := Kd.R_slice HO403.out
         subst eo44
         try go_wp2
         go_ret2
         exact ⟨_, zE, (zRm HO_8.out (fun _ hk => trivial)), (zB1 GE389.out HB.out)⟩
        ·rw [if_neg c39] at H
         have c39b0 : decide (8 < (t401.length : Int)) = false := decide_eq_false c39
         have c39b1 : decide (8 < t401.length) = false := decide_eq_false (by omega)
         clear c39
         obtain ⟨y404, hy404⟩ : ∃ y_ : List (S44), y_ = (([] : List (S44))) := ⟨_, rfl⟩
         replace H : (spec_AddPiece.l1 k2 l0 t401 y404 0 a2_0 a2_1) = some (r1, r2) := zH hy404 H
         have Ny404 := zM hy404
         clear hy404
         have H' := zM H
         clear H
         try go_wp2
         have n0_ := zM (Kd.R_drew HO_8.out)
         have n1_ := zM (blk_drew BK389.out)
         have n2_ := zM (below_drew1 HB.out)
         clear HO_8
         clear BK389
         clear HB
         have HO_8 := n0_
         have BK389 := n1_
         have HB := n2_
         clear n0_ n1_ n2_
         refine start_ (n := 8) (S := fun w' => w'.cell? ⟨gb389, 0, none⟩ = some (.int .i64 a2_0) ∧ w'.cell? ⟨gb389, 1, none⟩ = some (.string a2_1)) (ds := []) (ba 8 0).toArray (by kernel_rfl) rfl rfl ⟨(blk_cell BK389.out 0).trans rfl, (blk_cell BK389.out 1).trans rfl⟩ (fun hHeld => ?_); refine with_tabW spec_AddPiece.tab11 spec_AddPiece.bits11 (fun HT_ HW_ => ?_)
         generalize wr.drew = w45 at HO_8 BK389 HB hHeld ⊢
         refine zq 0 (some 85) (ba 8 1).toArray HT_ ?_
         refine zq 2 (some 87) (ba 8 5).toArray HT_ ?_
         refine zq 4 (some 89) (ba 8 21).toArray HT_ ?_
         refine zt2 3 (some 88) (ba 8 29).toArray HT_ HW_ hHeld ?_
         refine zq 5 (some 90) (ba 8 61).toArray HT_ ?_
         refine one_ (i := 1) (N := some 86) (ba 8 63).toArray rfl rfl (one_of HT_.out (by kernel_rfl)) (by decide) (fun K hK => ?_)
         refine goes_ Try.func44 (by kernel_rfl) rfl #[.slice A0 l0.length c0] (by rfl) rfl rfl (by (try simp only [List.map_toArray, List.map_cons, List.map_nil]); first | done | rfl | (simp only [List.length_drop, List.length_take]; rfl)) ?_
         with_reducible refine (spec_SpansOf.calls k2 _ _ l0 t398 _ ?side1 ?side2 A37.out).mono ?_
         (case side1 => exact (zC (Kd.C_below HR0.out HB.out)))
         (case side2 => exact HC0.out)
         rintro e w46 ⟨v399, rfl, ho0, hb⟩
         refine ⟨_, rfl, ?_⟩
         have n0_ := zM (Kd.R_below (zR HO_8.out) hb)
         have n1_ := zM (Kd.R_lower ho0 (below_size (zB1 GE389.out HB.out)))
         have n2_ := zM (blk_below (g := gb389) (o := .cells #[.int .i64 a2_0, .string a2_1] 44 (0, 0)) (zP BK389.out) hb)
         have n3_ := zM (below_step (zB1 GE389.out HB.out) hb)
         clear HO_8
         clear BK389
         clear HB
         have HO_8 := n0_
         have HO400 := n1_
         have BK389 := n2_
         have HB := n3_
         clear n0_ n1_ n2_ n3_
         (try clear hb)
         (try clear hb2)
         (try clear hk)
         (try clear hi)
         (try clear ho0)
         obtain ⟨Ao47, co47, eo47⟩ := Kd.R_slice HO400.out
         (first | subst eo47 | (injection eo47 with f1_ f2_ f3_; have f4_ := f1_.symm; have f5_ := f3_.symm; clear f1_ f2_ f3_; subst f4_; subst f5_))
         refine hK.out _ _ ⟨(blk_cell BK389.out 0).trans rfl, (blk_cell BK389.out 1).trans rfl⟩ (fun hHeld => ?_)
         clear hK K
         refine norm_ (a' := ?_) ?_ ?_
         rotate_left
         ·show Act.put _ (some 86) _ = _
          simp only [Act.put, List.setIfInBounds_toArray, List.set_cons_zero, List.set_cons_succ, i64_w, i32_w]
          rfl
         refine one_ (i := 6) (N := some 91) (ba 8 127).toArray rfl rfl (one_of HT_.out (by kernel_rfl)) (by decide) (fun K hK => ?_)
         refine goes_ Try.func43 (by kernel_rfl) rfl #[.slice Ao47 t398.length co47, .agg #[.int .i64 a2_0, .int .i64 (wrap64 (a2_0 + (a2_1.size : Int)))]] (by rfl) rfl rfl (by (try simp only [List.map_toArray, List.map_cons, List.map_nil]); first | done | rfl | (simp only [List.length_drop, List.length_take]; rfl)) ?_
         with_reducible refine (spec_AddSpan.calls k2 _ _ t398 a2_0 (wrap64 (a2_0 + (a2_1.size : Int))) t401 _ ?side1 ?side2 A38.out).mono ?_
         (case side1 => exact (zC ((Kd.R_reads' HO400.out).2.2)))
         (case side2 => exact (Kd.R_reads' HO400.out).2.1)
         rintro e w48 ⟨v402, rfl, ho0, hb⟩
         refine ⟨_, rfl, ?_⟩
         have n0_ := zM (Kd.R_below (zR HO_8.out) hb)
         have n1_ := zM (Kd.R_elder' (zR HO400.out) (Kd.R_base ho0) hb)
         have n2_ := zM (Kd.R_lower (Kd.R_new' ho0 (Kd.R_lt (zR HO400.out))) (below_size (zB1 GE389.out HB.out)))
         have n3_ := zM (blk_below (g := gb389) (o := .cells #[.int .i64 a2_0, .string a2_1] 44 (0, 0)) (zP BK389.out) hb)
         have n4_ := zM (below_step (zB1 GE389.out HB.out) hb)
         clear HO_8
         clear HO400
         clear BK389
         clear HB
         have HO_8 := n0_
         have HO400 := n1_
         have HO403 := n2_
         have BK389 := n3_
         have HB := n4_
         clear n0_ n1_ n2_ n3_ n4_
         (try clear hb)
         (try clear hb2)
         (try clear hk)
         (try clear hi)
         (try clear ho0)
         refine hK.out _ _ ⟨(blk_cell BK389.out 0).trans rfl, (blk_cell BK389.out 1).trans rfl⟩ (fun hHeld => ?_)
         clear hK K
         refine norm_ (a' := ?_) ?_ ?_
         rotate_left
         ·show Act.put _ (some 91) _ = _
          simp only [Act.put, List.setIfInBounds_toArray, List.set_cons_zero, List.set_cons_succ, i64_w, i32_w]
          rfl
         refine zq 7 (some 12) (ba 8 255).toArray HT_ ?_
         refine done_ (done_of HT_.out (by kernel_rfl)) ?_
         obtain ⟨Ao49, co49, eo49⟩ := Kd.R_slice HO403.out
         subst eo49
         try go_wp2_with (first | ((with_reducible refine gate_dst (N := 96) rfl ?_); (try (refine gate_guard (by rfl) ?_; dsimp only)); refine Kd.R_lit k44 _ 44 ?hg (N := 96) ?hd (xs := ([] : List (S44))) (inner := []) (ok := fun _ => True) (okp := fun _ => True) ?hr ?hp (fun _ hk => hk) trivial (Below.refl _ _) (Nat.le_refl _) (by simp) ?_; (case hd => rfl); (case hg => rfl); (case hr => first | (go_simp; done) | (go_simp; rfl)); (case hp => exact (Reps.none _ _)); intro v405 w50 ho51 hb hg_ hnew_; clear hg_ hnew_; (first | rw [← Ny404.out] at ho51 | (simp only [Int.reduceToNat] at ho51; rw [← Ny404.out] at ho51)); have n0_ := zM (Kd.R_elder' (zR HO_8.out) (Kd.R_base ho51) hb); have n1_ := zM (Kd.R_below (zR HO400.out) hb); have n2_ := zM (Kd.R_below (zR HO403.out) hb); have n3_ := zM (Kd.R_lower (Kd.R_newB (Kd.R_new' ho51 (Kd.R_lt (zR HO_8.out))) (g := gb389) (o := .cells #[.int .i64 a2_0, .string a2_1] 44 (0, 0)) (zP BK389.out)) (below_size (zB1 GE389.out HB.out))); have n4_ := zM (blk_below (g := gb389) (o := .cells #[.int .i64 a2_0, .string a2_1] 44 (0, 0)) (zP BK389.out) hb); have n5_ := zM (below_step (zB1 GE389.out HB.out) hb); clear HO_8; clear HO400; clear HO403; clear BK389; clear HB; have HO_8 := n0_; have HO400 := n1_; have HO403 := n2_; have HO406 := n3_; have BK389 := n4_; have HB := n5_; clear n0_ n1_ n2_ n3_ n4_ n5_; clear hb ho51))
         go_loopg [13, 14] k2 (fun kq v13 v14 w' => ∃ (x13_3 : List (S44)) (x14_3 : Int), v14 = .int .i64 x14_3 ∧ Aside0 (spec_AddPiece.l1 kq l0 t401 x13_3 x14_3 a2_0 a2_1 = some (r1, r2)) ∧ Aside0 (kq ≤ k2) ∧ Aside0 (Kd.R k26 26 w' w.heap.size (fun _ => True) (.slice Ao49 t401.length co49) t401) ∧ Aside0 (Kd.R k44 44 w' w.heap.size (fun k_ => k_ ≠ gb389) v13 x13_3) ∧ Aside0 (w'.heap[gb389]? = some (.cells #[.int .i64 a2_0, .string a2_1] 44 (0, 0))) ∧ Aside0 (Below w.heap.size w w'))
         case atStart => exact ⟨(y404), (0), zS, H', ⟨Nat.le_refl _⟩, ⟨(zRm HO403.out (fun _ hk => trivial))⟩, ⟨(zRm HO406.out (fun _ hk => hk.2))⟩, ⟨(zP BK389.out)⟩, ⟨(zB1 GE389.out HB.out)⟩⟩
         case round =>
          clear H'
          try clear c1
          try clear c2
          try clear p2
          try clear c3
          try clear p3
          try clear q3
          try clear hx3
          try clear c4
          try clear p6
          try clear c12
          try clear c13
          try clear c13b0
          try clear c16
          try clear c16b0
          try clear c16b1
          try clear c19
          try clear c19b0
          try clear c20
          try clear c25
          try clear c27
          try clear c27b0
          try clear c29
          try clear c29b0
          try clear c31
          try clear c31b0
          try clear c32
          try clear c32b0
          try clear p33
          try clear q33
          try clear hx33
          try clear c34
          try clear c34b0
          try clear c34b1
          try clear c39
          try clear c39b0
          try clear c39b1
          try clear c42
          try clear c43
          try clear c44
          try clear hcz10_0
          try clear hcz10_1
          try clear hcz15_0
          try clear hcz15_1
          try clear hcz18_0
          try clear hcz18_1
          try clear hcz21_0
          try clear hcz21_1
          try clear hcz23_0
          try clear hcz23_1
          try clear hcz26_0
          try clear hcz26_1
          try clear hcz35_0
          try clear hcz35_1
          try clear hcz36_0
          try clear hcz36_1
          try clear hfz10_0
          try clear hfz10_1
          try clear hfz15_0
          try clear hfz15_1
          try clear hfz18_0
          try clear hfz18_1
          try clear hfz21_0
          try clear hfz21_1
          try clear hfz23_0
          try clear hfz23_1
          try clear hfz26_0
          try clear hfz26_1
          try clear hfz35_0
          try clear hfz35_1
          try clear hfz36_0
          try clear hfz36_1
          try clear p2
          try clear p33
          try clear p6
          try clear q33
          obtain ⟨x13_3, x14_3, rfl, HA, HK3, HO_12, HO_13, BK389, HB⟩ := hrel
          cases gk with
          | zero => exact absurd HA.out (by simp [spec_AddPiece.l1])
          | succ k3 =>
           have H := HA.out
           clear HA
           simp only [spec_AddPiece.l1] at H
           by_cases c52 : x14_3 < (t401.length : Int)
           ·rw [if_pos c52] at H
            have c52b0 : decide (x14_3 < (t401.length : Int)) = true := decide_eq_true c52
            clear c52
            obtain ⟨y407, hy407⟩ : ∃ y_ : List Int, y_ = (([] : List Int)) := ⟨_, rfl⟩
            replace H : (if 0 ≤ x14_3 then (spec_AddPiece.l2 k3 l0 t401 x13_3 x14_3 y407 ((rd_T26 t401 x14_3).f0) a2_0 a2_1) else (none)) = some (r1, r2) := zH hy407 H
            have Ny407 := zM hy407
            clear hy407
            by_cases c53 : 0 ≤ x14_3
            ·rw [if_pos c53] at H
             have c53b0 : decide (0 ≤ x14_3) = true := decide_eq_true c53
             clear c53
             have H' := zM H
             clear H
             go_wp2_with (first | ((with_reducible refine gate_dst (N := 103) rfl ?_); (try (refine gate_guard (by rfl) ?_; dsimp only)); refine Kd.R_lit (Kd.int .u8) _ 5 ?hg (N := 103) ?hd (xs := ([] : List Int)) (inner := []) (ok := fun _ => True) (okp := fun _ => True) ?hr ?hp (fun _ hk => hk) trivial (Below.refl _ _) (Nat.le_refl _) (by simp) ?_; (case hd => rfl); (case hg => rfl); (case hr => first | (go_simp; done) | (go_simp; rfl)); (case hp => exact (Reps.none _ _)); intro v408 w54 ho55 hb hg_ hnew_; clear hg_ hnew_; (first | rw [← Ny407.out] at ho55 | (simp only [Int.reduceToNat] at ho55; rw [← Ny407.out] at ho55)); have n0_ := zM (Kd.R_below (zR HO_12.out) hb); have n1_ := zM (Kd.R_below (zR HO_13.out) hb); have n2_ := zM (Kd.R_lower ho55 (below_size (zB1 GE389.out HB.out))); have n3_ := zM (blk_below (g := gb389) (o := .cells #[.int .i64 a2_0, .string a2_1] 44 (0, 0)) (zP BK389.out) hb); have n4_ := zM (below_step (zB1 GE389.out HB.out) hb); clear HO_12; clear HO_13; clear BK389; clear HB; have HO_12 := n0_; have HO_13 := n1_; have HO409 := n2_; have BK389 := n3_; have HB := n4_; clear n0_ n1_ n2_ n3_ n4_; clear hb ho55; have p410 : 0 ≤ (x14_3 : Int) := zD; have q410 : x14_3 < (t401.length : Int) := zD; obtain ⟨ad410, e410, hx410_0, hx410_1⟩ := at_T26 (Kd.R_reads' HO_12.out).2.2 x14_3 p410 q410; cases e410; replace p410 := eq_true p410; replace q410 := eq_true q410))
             go_loopg [15, 16] k3 (fun kq v15 v16 w' => ∃ (x15_4 : List Int) (x16_4 : Int), v16 = .int .i64 x16_4 ∧ Aside0 (spec_AddPiece.l2 kq l0 t401 x13_3 x14_3 x15_4 x16_4 a2_0 a2_1 = some (r1, r2)) ∧ Aside0 (kq ≤ k3) ∧ Aside0 (Kd.R k26 26 w' w.heap.size (fun _ => True) (.slice (some ad410) t401.length co49) t401) ∧ Aside0 (Kd.R k44 44 w' w.heap.size (fun k_ => k_ ≠ gb389) u13 x13_3) ∧ Aside0 (Kd.R (Kd.int .u8) 5 w' w.heap.size (fun _ => True) v15 x15_4) ∧ Aside0 (w'.heap[gb389]? = some (.cells #[.int .i64 a2_0, .string a2_1] 44 (0, 0))) ∧ Aside0 (Below w.heap.size w w'))
             case atStart => exact ⟨(y407), ((rd_T26 t401 x14_3).f0), zS, H', ⟨Nat.le_refl _⟩, ⟨(zR HO_12.out)⟩, ⟨(zR HO_13.out)⟩, ⟨(zR HO409.out)⟩, ⟨(zP BK389.out)⟩, ⟨(zB1 GE389.out HB.out)⟩⟩
             case round =>
              clear H'
              try clear c1
              try clear c2
              try clear p2
              try clear c3
              try clear p3
              try clear q3
              try clear hx3
              try clear c4
              try clear p4
              try clear q4
              try clear hx4
              try clear c5
              try clear p6
              try clear c12
              try clear c13
              try clear c13b0
              try clear c16
              try clear c16b0
              try clear c16b1
              try clear c19
              try clear c19b0
              try clear c20
              try clear c25
              try clear c27
              try clear c27b0
              try clear c29
              try clear c29b0
              try clear c31
              try clear c31b0
              try clear c32
              try clear c32b0
              try clear p33
              try clear q33
              try clear hx33
              try clear c34
              try clear c34b0
              try clear c34b1
              try clear c39
              try clear c39b0
              try clear c39b1
              try clear p41
              try clear q41
              try clear hx41
              try clear c42
              try clear c43
              try clear c44
              try clear c52
              try clear c52b0
              try clear c53
              try clear c53b0
              try clear hcz10_0
              try clear hcz10_1
              try clear hcz15_0
              try clear hcz15_1
              try clear hcz18_0
              try clear hcz18_1
              try clear hcz21_0
              try clear hcz21_1
              try clear hcz23_0
              try clear hcz23_1
              try clear hcz26_0
              try clear hcz26_1
              try clear hcz35_0
              try clear hcz35_1
              try clear hcz36_0
              try clear hcz36_1
              try clear hfz10_0
              try clear hfz10_1
              try clear hfz15_0
              try clear hfz15_1
              try clear hfz18_0
              try clear hfz18_1
              try clear hfz21_0
              try clear hfz21_1
              try clear hfz23_0
              try clear hfz23_1
              try clear hfz26_0
              try clear hfz26_1
              try clear hfz35_0
              try clear hfz35_1
              try clear hfz36_0
              try clear hfz36_1
              try clear hx410_0
              try clear hx410_1
              try clear p2
              try clear p3
              try clear p33
              try clear p410
              try clear p6
              try clear q3
              try clear q33
              try clear q410
              obtain ⟨x15_4, x16_4, rfl, HA, HK4, HO_12, HO_13, HO_15, BK389, HB⟩ := hrel
              cases gk with
              | zero => exact absurd HA.out (by simp [spec_AddPiece.l2])
              | succ k4 =>
               have H := HA.out
               clear HA
               simp only [spec_AddPiece.l2] at H
               by_cases c56 : 0 ≤ x14_3
               ·rw [if_pos c56] at H
                have c56b0 : decide (0 ≤ x14_3) = true := decide_eq_true c56
                clear c56
                by_cases c57 : x14_3 < (t401.length : Int)
                ·rw [if_pos c57] at H
                 have c57b0 : decide (x14_3 < (t401.length : Int)) = true := decide_eq_true c57
                 clear c57
                 by_cases c58 : x16_4 < ((rd_T26 t401 x14_3).f1)
                 ·rw [if_pos c58] at H
                  have c58b0 : decide (x16_4 < ((rd_T26 t401 x14_3).f1)) = true := decide_eq_true c58
                  clear c58
                  replace H := Option.bind_eq_some_iff.mp H
                  obtain ⟨t412, A590, H⟩ := H
                  try dsimp only at H
                  have A59 := zM A590
                  clear A590
                  by_cases c60 : t412 < 0
                  ·rw [if_pos c60] at H
                   have c60b0 : decide (t412 < 0) = true := decide_eq_true c60
                   clear c60
                   obtain ⟨ji61, hji61⟩ : ∃ j_ : Int, (wrap64 (x16_4 - a2_0)) = j_ := ⟨_, rfl⟩
                   replace H : (if 0 ≤ (ji61) then (if (ji61) < (a2_1.size : Int) then (if x15_4.length < 140737488355328 then (spec_AddPiece.l2 k4 l0 t401 x13_3 x14_3 (x15_4 ++ [(wrap64 (bt a2_1 (ji61))) % 256]) (wrap64 (x16_4 + 1)) a2_0 a2_1) else (none)) else (none)) else (none)) = some (r1, r2) := by first | (rw [hji61] at H; exact H) | (simp only [hji61] at H ⊢; exact H)
                   (try rw [hji61] at A59)
                   have hji61w : (IntKind.i64.wrap (x16_4 - a2_0)) = ji61 := (i64_w _).trans hji61
                   by_cases c62 : 0 ≤ (ji61)
                   ·rw [if_pos c62] at H
                    have c62b0 : decide (0 ≤ (ji61)) = true := decide_eq_true c62
                    clear c62
                    by_cases c63 : (ji61) < (a2_1.size : Int)
                    ·rw [if_pos c63] at H
                     have c63b0 : decide ((ji61) < (a2_1.size : Int)) = true := decide_eq_true c63
                     clear c63
                     by_cases c65 : x15_4.length < 140737488355328
                     ·rw [if_pos c65] at H
                      have LMc65 := zM c65
                      clear c65
                      obtain ⟨y413, hy413⟩ : ∃ y_ : List Int, y_ = (x15_4 ++ [(wrap64 (bt a2_1 (ji61))) % 256]) := ⟨_, rfl⟩
                      replace H : (spec_AddPiece.l2 k4 l0 t401 x13_3 x14_3 y413 (wrap64 (x16_4 + 1)) a2_0 a2_1) = some (r1, r2) := zH hy413 H
                      have Ny413 := zM hy413
                      clear hy413
                      have H' := zM H
                      clear H
                      have p411 : 0 ≤ (x14_3 : Int) := zD
                      have q411 : x14_3 < (t401.length : Int) := zD
                      obtain ⟨ad411, e411, hx411_0, hx411_1⟩ := at_T26 (Kd.R_reads' HO_12.out).2.2 x14_3 p411 q411
                      obtain rfl : ad410 = ad411 := (by injection e411)
                      replace p411 := eq_true p411
                      replace q411 := eq_true q411
                      go_wp2_with (first | ((with_reducible refine gate_callee (f := 42) rfl ?_); refine zG (some 120) Try.func42 #[.slice A0 l0.length c0, .int .i64 x16_4] ?_; (with_reducible refine (spec_l10Byte.calls k4 _ _ l0 x16_4 t412 _ ?side1 ?side2 A59.out).mono ?_); (case side1 => exact (zC (Kd.C_below HR0.out HB.out))); (case side2 => exact HC0.out); rintro e w' ⟨rfl, ⟨nd, rfl⟩⟩; refine ⟨_, rfl, ?_⟩; have hcz66_0 : wr.cell? ⟨gb389, 0, none⟩ = some (.int .i64 a2_0) := (blk_cell BK389.out 0).trans rfl; have hcz66_1 : wr.cell? ⟨gb389, 1, none⟩ = some (.string a2_1) := (blk_cell BK389.out 1).trans rfl; have hfz66_0 := blk_frozen BK389.out 0; have hfz66_1 := blk_frozen BK389.out 1; have p64 : 0 ≤ ((ji61) : Int) := zD; have q64 : (ji61) < (a2_1.size : Int) := zD; have hx64 := bt_at a2_1 (ji61); replace p64 := eq_true p64; replace q64 := eq_true q64) | ((with_reducible refine gate_builtin (b := .append) (xs := #[.tmp 131, .tmp 134]) rfl ?_); (try (refine gate_guard (by rfl) ?_; dsimp only)); at_builtin; refine Kd.R_append (Kd.int .u8) (w0 := w) w.heap.size rfl (.tmp 131) (.tmp 134) 22 5 (.int .u8 0) 1 rfl Try.underlying22 info5 rfl (by decide) (by omega) u15 x15_4 ((wrap64 (bt a2_1 (ji61))) % 256) [.int .u8 ((wrap64 (bt a2_1 (ji61))) % 256)] (fun _ => True) (fun _ => False) rfl rfl ?aP (fun _ hk => hk.elim) ?aF ?aO ?aB ?aS ?aL ?_; (case aP => exact rfl); (case aB => exact (zB1 GE389.out HB.out)); (case aF => exact (fun _ _ => trivial)); (case aO => exact (zR HO_15.out)); (case aS => exact (below_size (zB1 GE389.out HB.out))); (case aL => have := LMc65.out; omega); intro v414 w67 ho hb hg hat; rw [← Ny413.out] at ho; have n0_ := zM (Kd.R_over' (zR HO_12.out) (Kd.R_typed (zR HO_15.out)) (by decide) hg); have n1_ := zM (Kd.R_over' (zR HO_13.out) (Kd.R_typed (zR HO_15.out)) (by decide) hg); have n2_ := zM (blk_grown (g := gb389) (o := .cells #[.int .i64 a2_0, .string a2_1] 44 (0, 0)) (zP BK389.out) hg (Kd.R_ne HO_15.out BK389.out (by decide))); have n3_ := zM (hb); have n4_ := zM (ho); clear HO_12; clear HO_13; clear BK389; clear HB; clear HO_15; have HO_12 := n0_; have HO_13 := n1_; have BK389 := n2_; have HB := n3_; have HO415 := n4_; clear n0_ n1_ n2_ n3_ n4_; clear ho hb hg hat))
                      go_roundg k4
                      case measure => have := HJ4.out; have := HK2.out; have := HK3.out; have := HK4.out; omega
                      case rel => exact ⟨(y413), (wrap64 (x16_4 + 1)), zS, H', ⟨by have := HJ4.out; have := HK2.out; have := HK3.out; have := HK4.out; omega⟩, ⟨(zR HO_12.out)⟩, ⟨(zR HO_13.out)⟩, ⟨(zR HO415.out)⟩, ⟨(zP BK389.out)⟩, ⟨(zB1 GE389.out HB.out)⟩⟩
                     ·rw [if_neg c65] at H
                      exact absurd H (by simp)
                    ·rw [if_neg c63] at H
                     exact absurd H (by simp)
                   ·rw [if_neg c62] at H
                    exact absurd H (by simp)
                  ·rw [if_neg c60] at H
                   have c60b0 : decide (t412 < 0) = false := decide_eq_false c60
                   clear c60
                   by_cases c68 : x15_4.length < 140737488355328
                   ·rw [if_pos c68] at H
                    have LMc68 := zM c68
                    clear c68
                    obtain ⟨y416, hy416⟩ : ∃ y_ : List Int, y_ = (x15_4 ++ [(t412) % 256]) := ⟨_, rfl⟩
                    replace H : (spec_AddPiece.l2 k4 l0 t401 x13_3 x14_3 y416 (wrap64 (x16_4 + 1)) a2_0 a2_1) = some (r1, r2) := zH hy416 H
                    have Ny416 := zM hy416
                    clear hy416
                    have H' := zM H
                    clear H
                    have p411 : 0 ≤ (x14_3 : Int) := zD
                    have q411 : x14_3 < (t401.length : Int) := zD
                    obtain ⟨ad411, e411, hx411_0, hx411_1⟩ := at_T26 (Kd.R_reads' HO_12.out).2.2 x14_3 p411 q411
                    obtain rfl : ad410 = ad411 := (by injection e411)
                    replace p411 := eq_true p411
                    replace q411 := eq_true q411
                    go_wp2_with (first | ((with_reducible refine gate_callee (f := 42) rfl ?_); refine zG (some 120) Try.func42 #[.slice A0 l0.length c0, .int .i64 x16_4] ?_; (with_reducible refine (spec_l10Byte.calls k4 _ _ l0 x16_4 t412 _ ?side1 ?side2 A59.out).mono ?_); (case side1 => exact (zC (Kd.C_below HR0.out HB.out))); (case side2 => exact HC0.out); rintro e w' ⟨rfl, ⟨nd, rfl⟩⟩; refine ⟨_, rfl, ?_⟩) | ((with_reducible refine gate_builtin (b := .append) (xs := #[.tmp 131, .tmp 134]) rfl ?_); (try (refine gate_guard (by rfl) ?_; dsimp only)); at_builtin; refine Kd.R_append (Kd.int .u8) (w0 := w) w.heap.size rfl (.tmp 131) (.tmp 134) 22 5 (.int .u8 0) 1 rfl Try.underlying22 info5 rfl (by decide) (by omega) u15 x15_4 ((t412) % 256) [.int .u8 ((t412) % 256)] (fun _ => True) (fun _ => False) rfl rfl ?aP (fun _ hk => hk.elim) ?aF ?aO ?aB ?aS ?aL ?_; (case aP => exact rfl); (case aB => exact (zB1 GE389.out HB.out)); (case aF => exact (fun _ _ => trivial)); (case aO => exact (zR HO_15.out)); (case aS => exact (below_size (zB1 GE389.out HB.out))); (case aL => have := LMc68.out; omega); intro v417 w69 ho hb hg hat; rw [← Ny416.out] at ho; have n0_ := zM (Kd.R_over' (zR HO_12.out) (Kd.R_typed (zR HO_15.out)) (by decide) hg); have n1_ := zM (Kd.R_over' (zR HO_13.out) (Kd.R_typed (zR HO_15.out)) (by decide) hg); have n2_ := zM (blk_grown (g := gb389) (o := .cells #[.int .i64 a2_0, .string a2_1] 44 (0, 0)) (zP BK389.out) hg (Kd.R_ne HO_15.out BK389.out (by decide))); have n3_ := zM (hb); have n4_ := zM (ho); clear HO_12; clear HO_13; clear BK389; clear HB; clear HO_15; have HO_12 := n0_; have HO_13 := n1_; have BK389 := n2_; have HB := n3_; have HO418 := n4_; clear n0_ n1_ n2_ n3_ n4_; clear ho hb hg hat))
                    go_roundg k4
                    case measure => have := HJ4.out; have := HK2.out; have := HK3.out; have := HK4.out; omega
                    case rel => exact ⟨(y416), (wrap64 (x16_4 + 1)), zS, H', ⟨by have := HJ4.out; have := HK2.out; have := HK3.out; have := HK4.out; omega⟩, ⟨(zR HO_12.out)⟩, ⟨(zR HO_13.out)⟩, ⟨(zR HO418.out)⟩, ⟨(zP BK389.out)⟩, ⟨(zB1 GE389.out HB.out)⟩⟩
                   ·rw [if_neg c68] at H
                    exact absurd H (by simp)
                 ·rw [if_neg c58] at H
                  have c58b0 : decide (x16_4 < ((rd_T26 t401 x14_3).f1)) = false := decide_eq_false c58
                  clear c58
                  by_cases c70 : x13_3.length < 5864062014805
                  ·rw [if_pos c70] at H
                   have LMc70 := zM c70
                   clear c70
                   obtain ⟨y420, hy420⟩ : ∃ y_ : List (S44), y_ = (x13_3 ++ [(⟨(rd_T26 t401 x14_3).f0, strOfNums x15_4⟩ : S44)]) := ⟨_, rfl⟩
                   replace H : (spec_AddPiece.l1 k4 l0 t401 y420 (wrap64 (x14_3 + 1)) a2_0 a2_1) = some (r1, r2) := zH hy420 H
                   have Ny420 := zM hy420
                   clear hy420
                   have H' := zM H
                   clear H
                   have p411 : 0 ≤ (x14_3 : Int) := zD
                   have q411 : x14_3 < (t401.length : Int) := zD
                   obtain ⟨ad411, e411, hx411_0, hx411_1⟩ := at_T26 (Kd.R_reads' HO_12.out).2.2 x14_3 p411 q411
                   obtain rfl : ad410 = ad411 := (by injection e411)
                   replace p411 := eq_true p411
                   replace q411 := eq_true q411
                   try go_wp2
                   have n0_ := zM (Kd.R_drew HO_12.out)
                   have n1_ := zM (Kd.R_drew HO_13.out)
                   have n2_ := zM (Kd.R_drew HO_15.out)
                   have n3_ := zM (blk_drew BK389.out)
                   have n4_ := zM (below_drew1 HB.out)
                   clear HO_12
                   clear HO_13
                   clear HO_15
                   clear BK389
                   clear HB
                   have HO_12 := n0_
                   have HO_13 := n1_
                   have HO_15 := n2_
                   have BK389 := n3_
                   have HB := n4_
                   clear n0_ n1_ n2_ n3_ n4_
                   have p419 : 0 ≤ (x14_3 : Int) := zD
                   have q419 : x14_3 < (t401.length : Int) := zD
                   obtain ⟨ad419, e419, hx419_0, hx419_1⟩ := at_T26 (Kd.R_reads' HO_12.out).2.2 x14_3 p419 q419
                   obtain rfl : ad410 = ad419 := (by injection e419)
                   replace p419 := eq_true p419
                   replace q419 := eq_true q419
                   have hcv72 := own_string (P := Try.prog) Try.underlying22 Try.underlying5 Try.underlying9 (Kd.own_of_R HO_15.out)
                   refine start_ (n := 12) (S := fun w' => w'.cell? (ad410.add ((x14_3).toNat * 2)) = some (.int .i64 ((rd_T26 t401 x14_3).f0)) ∧ w'.cell? ⟨(ad410.add ((x14_3).toNat * 2)).block, (ad410.add ((x14_3).toNat * 2)).off + 1, none⟩ = some (.int .i64 ((rd_T26 t401 x14_3).f1)) ∧ (convert 22 9 (u15)).run Try.prog w' = .ok (.string (strOfNums x15_4)) w') (ds := [9, 10]) (ba 12 0).toArray (by kernel_rfl) rfl rfl ⟨hx419_0, hx419_1, hcv72⟩ (fun hHeld => ?_); refine with_tabW spec_AddPiece.tab26 spec_AddPiece.bits26 (fun HT_ HW_ => ?_)
                   generalize wr.drew = w71 at HO_12 HO_13 HO_15 BK389 HB hx419_0 hx419_1 hHeld ⊢
                   refine zq 0 (some 136) (ba 12 1).toArray HT_ ?_
                   refine zq 1 (some 137) (ba 12 3).toArray HT_ ?_
                   refine zq 2 (some 138) (ba 12 7).toArray HT_ ?_
                   refine zq 3 (some 139) (ba 12 15).toArray HT_ ?_
                   refine zq 4 (some 140) (ba 12 31).toArray HT_ ?_
                   refine zq 6 (some 142) (ba 12 95).toArray HT_ ?_
                   refine zt3 5 (some 141) (ba 12 127).toArray HT_ HW_ hHeld ?_
                   refine zt3 7 (some 143) (ba 12 255).toArray HT_ HW_ hHeld ?_
                   refine zq 8 (some 144) (ba 12 511).toArray HT_ ?_
                   refine last_ (i := 9) (N := some 145) (ba 12 1023).toArray rfl rfl (one_of HT_.out (by kernel_rfl)) (by decide) (fun K hK => ?_)
                   refine value_ (w1 := ?_) (v := ?_) (by rfl) rfl ?_ ?_
                   rotate_left 2
                   ·go_simp
                    constructor
                    ·rfl
                    ·rfl
                   refine hK.out _ _ ?_
                   clear hK K
                   refine norm_ (a' := ?_) ?_ ?_
                   rotate_left
                   ·show Act.put _ (some 145) _ = _
                    simp only [Act.put, List.setIfInBounds_toArray, List.set_cons_zero, List.set_cons_succ, i64_w, i32_w]
                    rfl
                   refine last_ (i := 10) (N := some 146) (ba 12 2047).toArray rfl rfl (one_of HT_.out (by kernel_rfl)) (by decide) (fun K hK => ?_)
                   refine Kd.R_append_step k44 (w0 := w) w.heap.size (by rfl) (.tmp 136) (.tmp 145) 40 44 (.agg #[(.int .i64 0), (.string ⟨#[]⟩)]) 24 rfl Try.underlying40 info44 rfl (by decide) (by omega) u13 x13_3 (⟨(rd_T26 t401 x14_3).f0, strOfNums x15_4⟩ : S44) [.int .i64 ((rd_T26 t401 x14_3).f0), .string (strOfNums x15_4)] (fun k_ => k_ ≠ gb389) (fun _ => False) rfl rfl ?aP (fun _ hk => hk.elim) ?aF ?aO ?aB ?aS ?aL ?_
                   (case aP => exact k44_mkM _ _ _ (⟨(rd_T26 t401 x14_3).f0, strOfNums x15_4⟩ : S44))
                   (case aB => exact (zB1 GE389.out HB.out))
                   (case aF => exact (fun k_ hk => Kd.freshB (g := gb389) (o := .cells #[.int .i64 a2_0, .string a2_1] 44 (0, 0)) (zP BK389.out) k_ hk))
                   (case aO => exact (zR HO_13.out))
                   (case aS => exact (below_size (zB1 GE389.out HB.out)))
                   (case aL => have := LMc70.out; omega)
                   intro v421 w73 ho hb hg hat
                   rw [← Ny420.out] at ho
                   have n0_ := zM (Kd.R_over' (zR HO_12.out) (Kd.R_typed (zR HO_13.out)) (by decide) hg)
                   have n1_ := zM (Kd.R_over' (zR HO_15.out) (Kd.R_typed (zR HO_13.out)) (by decide) hg)
                   have n2_ := zM (blk_grown (g := gb389) (o := .cells #[.int .i64 a2_0, .string a2_1] 44 (0, 0)) (zP BK389.out) hg (Kd.R_away HO_13.out (fun _ hk => hk)))
                   have n3_ := zM (hb)
                   have n4_ := zM (ho)
                   clear HO_12
                   clear HO_15
                   clear BK389
                   clear HB
                   clear HO_13
                   have HO_12 := n0_
                   have HO_15 := n1_
                   have BK389 := n2_
                   have HB := n3_
                   have HO422 := n4_
                   clear n0_ n1_ n2_ n3_ n4_
                   clear ho hb hg hat
                   refine hK.out _ _ ?_
                   clear hK K
                   refine norm_ (a' := ?_) ?_ ?_
                   rotate_left
                   ·show Act.put _ (some 146) _ = _
                    simp only [Act.put, List.setIfInBounds_toArray, List.set_cons_zero, List.set_cons_succ, i64_w, i32_w]
                    rfl
                   refine zq 11 (some 13) (ba 12 4095).toArray HT_ ?_
                   refine done_ (done_of HT_.out (by kernel_rfl)) ?_
                   try go_wp2
                   go_roundg k4
                   case measure => have := HJ4.out; have := HK2.out; have := HK3.out; have := HK4.out; omega
                   case rel => exact ⟨(y420), (wrap64 (x14_3 + 1)), zS, H', ⟨by have := HJ4.out; have := HK2.out; have := HK3.out; have := HK4.out; omega⟩, ⟨(zR HO_12.out)⟩, ⟨(zR HO422.out)⟩, ⟨(zP BK389.out)⟩, ⟨(zB1 GE389.out HB.out)⟩⟩
                  ·rw [if_neg c70] at H
                   exact absurd H (by simp)
                ·rw [if_neg c57] at H
                 exact absurd H (by simp)
               ·rw [if_neg c56] at H
                exact absurd H (by simp)
            ·rw [if_neg c53] at H
             exact absurd H (by simp)
           ·rw [if_neg c52] at H
            have c52b0 : decide (x14_3 < (t401.length : Int)) = false := decide_eq_false c52
            clear c52
            simp only [Option.some.injEq, Prod.mk.injEq] at H
            obtain ⟨rfl, rfl⟩ := H
            go_wp2
            go_ret2
            exact ⟨_, zE, (zRm HO_13.out (fun _ hk => trivial)), (zB1 GE389.out HB.out)⟩
 ·rw [if_neg c4] at H
  exact absurd H (by simp)

end Go.Proofs.Yteahdfibipalkaa.G

namespace Go.Proofs.Yteahdfibipalkaa.G
open Go.RowKit Go.Proofs.YteahdfibipalkaaW.PrintWords Go.Proofs.YteahdfibipalkaaW.PrintLast Go.Proofs.YteahdfibipalkaaW.PrintMore
attribute [local go_sem] max2_int min2_int max_two min_two max_three min_three max_four min_four   -- for this text's walks alone
set_option linter.unusedVariables false
set_option linter.unusedSimpArgs false

/-! ### spec_l10Draw: function 49 -/
set_option maxHeartbeats 8000000 in
set_option maxRecDepth 100000 in
theorem spec_l10Draw.calls (k : Nat) (g : Nat) (s0_0 : List Int) (s0_1 : Int) (s0_2 : Int) (r1 : List (S44)) (r2 : Int) (r3 : Int) (w0 w : World) (hI : IsS73 w0 w g s0_0 s0_1 s0_2) (hB : Below w0.heap.size w0 w) (h : spec_l10Draw.f k s0_0 s0_1 s0_2 = some (r1, r2, r3)) :
  Calls Try.prog 49 #[.pointer (some ⟨g, 0, none⟩)] w fun e w' => ∃ v0_ : Value, e = .returned (v0_) ∧ Kd.R k44 44 w' w.heap.size (fun _ => True) v0_ r1 ∧ IsS73 w0 w' g s0_0 r2 r3 ∧ Below w0.heap.size w0 w' ∧ KeepBut w w' g none := by
 have HI0 := zM hI
 have HK := zM (KeepBut.refl w g none)
 have HL := zM hB.size
 clear hI
 have HW0 := zM hB.size
 have HB := zM hB
 clear hB
 have H : ((spec_l1Below.f s0_0 s0_1 s0_2 5).bind fun bt563 => (spec_l10Draw.l0 k (([] : List (S44))) bt563.1 s0_0 bt563.2.1 bt563.2.2)) = some (r1, r2, r3) := h
 clear h
 obtain ⟨y560, hy560⟩ : ∃ y_ : List (S44), y_ = (([] : List (S44))) := ⟨_, rfl⟩
 replace H : ((spec_l1Below.f s0_0 s0_1 s0_2 5).bind fun bt563 => (spec_l10Draw.l0 k y560 bt563.1 s0_0 bt563.2.1 bt563.2.2)) = some (r1, r2, r3) := zH hy560 H
 have Ny560 := zM hy560
 clear hy560
 replace H := Option.bind_eq_some_iff.mp H
 obtain ⟨⟨t563, t564, t565⟩, A20, H⟩ := H
 try dsimp only at H
 have A2 := zM A20
 clear A20
 have H' := zM H
 clear H
 go_enter Try.func49, Try.ntmps49
 go_wp2_with (first | ((with_reducible refine gate_dst (N := 5) rfl ?_); refine Kd.R_lit k44 _ 44 ?hg (N := 5) ?hd (xs := ([] : List (S44))) (inner := []) (ok := fun _ => True) (okp := fun _ => True) ?hr ?hp (fun _ hk => hk) trivial (Below.refl _ _) (Nat.le_refl _) (by simp) ?_; (case hd => rfl); (case hg => rfl); (case hr => first | (go_simp; done) | (go_simp; rfl)); (case hp => exact (Reps.none _ _)); intro v561 w3 ho4 hb hg_ hnew_; clear hg_ hnew_; (first | rw [← Ny560.out] at ho4 | (simp only [Int.reduceToNat] at ho4; rw [← Ny560.out] at ho4)); have n0_ := zM (Kd.R_lower ho4 (keep_size (w := w) (g := g) (row := none) (zU HK.out))); have n1_ := zM (IsS73.below (zI73 HI0.out) hb); have n2_ := zM (KeepBut.trans (zU HK.out) (KeepBut.of_below hb g none) (.inl rfl)); have n3_ := zM (below_step (zB1 (IsS73.ge HI0.out) HB.out) hb); clear HI0; clear HK; clear HB; have HO562 := n0_; have HI0 := n1_; have HK := n2_; have HB := n3_; clear n0_ n1_ n2_ n3_; clear hb ho4) | ((with_reducible refine gate_callee (f := 41) rfl ?_); refine zG (some 7) Try.func41 #[.pointer (some ⟨g, 0, none⟩), .int .i64 5] ?_; (with_reducible refine (spec_l1Below.calls g s0_0 s0_1 s0_2 5 t563 t564 t565 w0 _ ?side1 ?side2 A2.out).mono ?_); (case side1 => exact (zI73 HI0.out)); (case side2 => exact (zB1 (IsS73.ge HI0.out) HB.out)); rintro e w5 ⟨rfl, hi, hb, hk⟩; refine ⟨_, rfl, ?_⟩; have n0_ := zM (Kd.R_mono (Kd.R_keep (IsS73.apart (show IsS73 w0 _ g s0_0 s0_1 s0_2 from (zI73 HI0.out)) (zR HO562.out) (by decide)) hk (fun _ h => h.2)) (fun _ h => h.1)); have n1_ := zM (KeepBut.trans (zU HK.out) hk (.inl rfl)); have n2_ := zM (hb); have n3_ := zM (hi); clear HO562; clear HK; clear HB; clear HI0; have HO562 := n0_; have HK := n1_; have HB := n2_; have HI0 := n3_; clear n0_ n1_ n2_ n3_; (try clear hb); (try clear hb2); (try clear hk); (try clear hi)))
 go_loopg [3, 4] k (fun kq v3 v4 w' => ∃ (x3_1 : List (S44)) (x4_1 : Int) (x1001_1 : Int) (x1002_1 : Int), v4 = .int .i64 x4_1 ∧ Aside0 (spec_l10Draw.l0 kq x3_1 x4_1 s0_0 x1001_1 x1002_1 = some (r1, r2, r3)) ∧ Aside0 (kq ≤ k) ∧ Aside0 (Kd.R k44 44 w' w.heap.size (fun _ => True) v3 x3_1) ∧ Aside0 (IsS73 w0 w' g s0_0 x1001_1 x1002_1) ∧ Aside0 (KeepBut w w' g none) ∧ Aside0 (Below w0.heap.size w0 w'))
 case atStart => exact ⟨(y560), (t563), (t564), (t565), zS, H', ⟨Nat.le_refl _⟩, ⟨(zR HO562.out)⟩, ⟨(zI73 HI0.out)⟩, ⟨(zU HK.out)⟩, ⟨(zB1 (IsS73.ge HI0.out) HB.out)⟩⟩
 case round =>
  clear H'
  try clear p2
  try clear c4
  obtain ⟨x3_1, x4_1, x1001_1, x1002_1, rfl, HA, HK1, HO_3, HI0, HK, HB⟩ := hrel
  cases gk with
  | zero => exact absurd HA.out (by simp [spec_l10Draw.l0])
  | succ k1 =>
   have H := HA.out
   clear HA
   simp only [spec_l10Draw.l0] at H
   by_cases c6 : x4_1 > 0
   ·rw [if_pos c6] at H
    have c6b0 : decide (0 < x4_1) = true := decide_eq_true c6
    clear c6
    replace H := Option.bind_eq_some_iff.mp H
    obtain ⟨⟨t566, t567, t568, t569⟩, A70, H⟩ := H
    try dsimp only at H
    have A7 := zM A70
    clear A70
    replace H := Option.bind_eq_some_iff.mp H
    obtain ⟨⟨t570, t573⟩, A80, H⟩ := H
    try dsimp only at H
    have A8 := zM A80
    clear A80
    have H' := zM H
    clear H
    go_wp2_with (first | ((with_reducible refine gate_callee (f := 50) rfl ?_); refine zG (some 15) Try.func50 #[.pointer (some ⟨g, 0, none⟩)] ?_; (with_reducible refine (spec_l10Piece.calls g s0_0 x1001_1 x1002_1 t566 t567 t568 t569 w0 _ ?side1 ?side2 A7.out).mono ?_); (case side1 => exact (zI73 HI0.out)); (case side2 => exact (zB1 (IsS73.ge HI0.out) HB.out)); rintro e w9 ⟨rfl, hi, hb, hk⟩; refine ⟨_, rfl, ?_⟩; have n0_ := zM (Kd.R_mono (Kd.R_keep (IsS73.apart (show IsS73 w0 _ g s0_0 x1001_1 x1002_1 from (zI73 HI0.out)) (zR HO_3.out) (by decide)) hk (fun _ h => h.2)) (fun _ h => h.1)); have n1_ := zM (KeepBut.trans (zU HK.out) hk (.inl rfl)); have n2_ := zM (hb); have n3_ := zM (hi); clear HO_3; clear HK; clear HB; clear HI0; have HO_3 := n0_; have HK := n1_; have HB := n2_; have HI0 := n3_; clear n0_ n1_ n2_ n3_; (try clear hb); (try clear hb2); (try clear hk); (try clear hi); obtain ⟨Ao10, co10, eo10⟩ := Kd.R_slice HO_3.out; subst eo10) | ((with_reducible refine gate_callee (f := 20) rfl ?_); refine zG (some 16) Try.func20 #[.slice Ao10 x3_1.length co10, .int .i64 20, .agg #[.int .i64 t566, .string t567]] ?_; (with_reducible refine (spec_AddPiece.calls k1 _ _ x3_1 20 t566 t567 t570 t573 _ ?side1 ?side2 A8.out).mono ?_); (case side1 => exact (zC ((Kd.R_reads' HO_3.out).2.2))); (case side2 => exact (Kd.R_reads' HO_3.out).2.1); rintro e w11 ⟨v571, rfl, ho0, hb⟩; refine ⟨_, rfl, ?_⟩; have n0_ := zM (Kd.R_elder' (zR HO_3.out) (Kd.R_base ho0) hb); have n1_ := zM (Kd.R_lower (Kd.R_new' ho0 (Kd.R_lt (zR HO_3.out))) (keep_size (w := w) (g := g) (row := none) (zU HK.out))); have n2_ := zM (IsS73.below (zI73 HI0.out) hb); have n3_ := zM (KeepBut.trans (zU HK.out) (KeepBut.of_below hb g none) (.inl rfl)); have n4_ := zM (below_step (zB1 (IsS73.ge HI0.out) HB.out) hb); clear HO_3; clear HI0; clear HK; clear HB; have HO_3 := n0_; have HO572 := n1_; have HI0 := n2_; have HK := n3_; have HB := n4_; clear n0_ n1_ n2_ n3_ n4_; (try clear hb); (try clear hb2); (try clear hk); (try clear hi); (try clear ho0)))
    go_roundg k1
    case measure => have := HK1.out; omega
    case rel => exact ⟨(t570), (wrap64 (x4_1 - 1)), (t568), (t569), zS, H', ⟨by have := HK1.out; omega⟩, ⟨(zRm HO572.out (fun _ hk => trivial))⟩, ⟨(zI73 HI0.out)⟩, ⟨(zU HK.out)⟩, ⟨(zB1 (IsS73.ge HI0.out) HB.out)⟩⟩
   ·rw [if_neg c6] at H
    have c6b0 : decide (0 < x4_1) = false := decide_eq_false c6
    clear c6
    replace H := Option.bind_eq_some_iff.mp H
    obtain ⟨⟨t574, t575, t576⟩, A120, H⟩ := H
    try dsimp only at H
    have A12 := zM A120
    clear A120
    by_cases c13 : t574 = true
    ·subst c13
     rw [if_pos rfl] at H
     replace H := Option.bind_eq_some_iff.mp H
     obtain ⟨⟨t577, t578, t579, t580⟩, A140, H⟩ := H
     try dsimp only at H
     have A14 := zM A140
     clear A140
     by_cases c15 : x3_1.length < 5864062014805
     ·rw [if_pos c15] at H
      have LMc15 := zM c15
      clear c15
      obtain ⟨y581, hy581⟩ : ∃ y_ : List (S44), y_ = (x3_1 ++ [(⟨t577, t578⟩ : S44)]) := ⟨_, rfl⟩
      replace H : (some (y581, t579, t580)) = some (r1, r2, r3) := zH hy581 H
      have Ny581 := zM hy581
      clear hy581
      simp only [Option.some.injEq, Prod.mk.injEq] at H
      obtain ⟨rfl, rfl, rfl⟩ := H
      go_wp2_with (first | ((with_reducible refine gate_callee (f := 36) rfl ?_); refine zG (some 20) Try.func36 #[.pointer (some ⟨g, 0, none⟩), .int .i64 9] ?_; (with_reducible refine (spec_l1Once.calls g s0_0 x1001_1 x1002_1 9 true t575 t576 w0 _ ?side1 ?side2 A12.out).mono ?_); (case side1 => exact (zI73 HI0.out)); (case side2 => exact (zB1 (IsS73.ge HI0.out) HB.out)); rintro e w16 ⟨rfl, hi, hb, hk⟩; refine ⟨_, rfl, ?_⟩; have n0_ := zM (Kd.R_mono (Kd.R_keep (IsS73.apart (show IsS73 w0 _ g s0_0 x1001_1 x1002_1 from (zI73 HI0.out)) (zR HO_3.out) (by decide)) hk (fun _ h => h.2)) (fun _ h => h.1)); have n1_ := zM (KeepBut.trans (zU HK.out) hk (.inl rfl)); have n2_ := zM (hb); have n3_ := zM (hi); clear HO_3; clear HK; clear HB; clear HI0; have HO_3 := n0_; have HK := n1_; have HB := n2_; have HI0 := n3_; clear n0_ n1_ n2_ n3_; (try clear hb); (try clear hb2); (try clear hk); (try clear hi)) | ((with_reducible refine gate_callee (f := 50) rfl ?_); refine zG (some 23) Try.func50 #[.pointer (some ⟨g, 0, none⟩)] ?_; (with_reducible refine (spec_l10Piece.calls g s0_0 t575 t576 t577 t578 t579 t580 w0 _ ?side1 ?side2 A14.out).mono ?_); (case side1 => exact (zI73 HI0.out)); (case side2 => exact (zB1 (IsS73.ge HI0.out) HB.out)); rintro e w17 ⟨rfl, hi, hb, hk⟩; refine ⟨_, rfl, ?_⟩; have n0_ := zM (Kd.R_mono (Kd.R_keep (IsS73.apart (show IsS73 w0 _ g s0_0 t575 t576 from (zI73 HI0.out)) (zR HO_3.out) (by decide)) hk (fun _ h => h.2)) (fun _ h => h.1)); have n1_ := zM (KeepBut.trans (zU HK.out) hk (.inl rfl)); have n2_ := zM (hb); have n3_ := zM (hi); clear HO_3; clear HK; clear HB; clear HI0; have HO_3 := n0_; have HK := n1_; have HB := n2_; have HI0 := n3_; clear n0_ n1_ n2_ n3_; (try clear hb); (try clear hb2); (try clear hk); (try clear hi)) | ((with_reducible refine gate_builtin (b := .append) (xs := #[.tmp 21, .tmp 24]) rfl ?_); at_builtin; refine Kd.R_append k44 w.heap.size rfl (.tmp 21) (.tmp 24) 40 44 (.agg #[(.int .i64 0), (.string ⟨#[]⟩)]) 24 rfl Try.underlying40 info44 rfl (by decide) (by omega) u3 x3_1 (⟨t577, t578⟩ : S44) [.int .i64 t577, .string t578] (fun _ => True) (fun _ => False) rfl rfl ?aP (fun _ hk => hk.elim) ?aF ?aO (Below.refl _ _) ?aS ?aL ?_; (case aP => exact k44_mkM _ _ _ (⟨t577, t578⟩ : S44)); (case aF => exact (fun _ _ => trivial)); (case aO => exact (zR HO_3.out)); (case aS => exact (keep_size (w := w) (g := g) (row := none) (zU HK.out))); (case aL => have := LMc15.out; omega); intro v582 w18 ho hb hg hat; rw [← Ny581.out] at ho; have n0_ := zM (IsS73.grown (zI73 HI0.out) hg (IsS73.own_ne HI0.out HO_3.out (by decide))); have n1_ := zM (below_weaken (zB1 (IsS73.ge HI0.out) HB.out) HL.out hb); have n2_ := zM (KeepBut.trans (zU HK.out) (KeepBut.of_grown hg g) (Kd.R_base2 HO_3.out)); have n3_ := zM (ho); clear HI0; clear HB; clear HK; clear HO_3; have HI0 := n0_; have HB := n1_; have HK := n2_; have HO583 := n3_; clear n0_ n1_ n2_ n3_; clear ho hb hg hat))
      go_ret
      exact ⟨_, zE, (zR HO583.out), (zI73 HI0.out), (zB1 (IsS73.ge HI0.out) HB.out), (zU HK.out)⟩
     ·rw [if_neg c15] at H
      exact absurd H (by simp)
    ·replace c13 := Bool.eq_false_iff.mpr c13
     subst c13
     rw [if_neg (show ¬ (false = true) by decide)] at H
     simp only [Option.some.injEq, Prod.mk.injEq] at H
     obtain ⟨rfl, rfl, rfl⟩ := H
     go_wp2_with (first | ((with_reducible refine gate_callee (f := 36) rfl ?_); refine zG (some 20) Try.func36 #[.pointer (some ⟨g, 0, none⟩), .int .i64 9] ?_; (with_reducible refine (spec_l1Once.calls g s0_0 x1001_1 x1002_1 9 false t575 t576 w0 _ ?side1 ?side2 A12.out).mono ?_); (case side1 => exact (zI73 HI0.out)); (case side2 => exact (zB1 (IsS73.ge HI0.out) HB.out)); rintro e w19 ⟨rfl, hi, hb, hk⟩; refine ⟨_, rfl, ?_⟩; have n0_ := zM (Kd.R_mono (Kd.R_keep (IsS73.apart (show IsS73 w0 _ g s0_0 x1001_1 x1002_1 from (zI73 HI0.out)) (zR HO_3.out) (by decide)) hk (fun _ h => h.2)) (fun _ h => h.1)); have n1_ := zM (KeepBut.trans (zU HK.out) hk (.inl rfl)); have n2_ := zM (hb); have n3_ := zM (hi); clear HO_3; clear HK; clear HB; clear HI0; have HO_3 := n0_; have HK := n1_; have HB := n2_; have HI0 := n3_; clear n0_ n1_ n2_ n3_; (try clear hb); (try clear hb2); (try clear hk); (try clear hi)))
     go_ret
     exact ⟨_, zE, (zR HO_3.out), (zI73 HI0.out), (zB1 (IsS73.ge HI0.out) HB.out), (zU HK.out)⟩

end Go.Proofs.Yteahdfibipalkaa.G
