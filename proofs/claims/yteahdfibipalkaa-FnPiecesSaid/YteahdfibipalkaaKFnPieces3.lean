/- Texts for: FnPieces holds for every input, without a condition: adding pieces keeps and reads back every byte, in any order. -/
import Derived.Test.YteahdfibipalkaaKFnPieces0
import Derived.Test.YteahdfibipalkaaKFnPieces2

namespace Go.Proofs.Yteahdfibipalkaa.G
open Go.RowKit Go.Proofs.YteahdfibipalkaaW.PrintWords Go.Proofs.YteahdfibipalkaaW.PrintLast Go.Proofs.YteahdfibipalkaaW.PrintMore
attribute [local go_sem] max2_int min2_int max_two min_two max_three min_three max_four min_four   -- for this text's walks alone
set_option linter.unusedVariables false
set_option linter.unusedSimpArgs false

/-! ### spec_l1Odd: function 37 -/
set_option maxHeartbeats 8000000 in
set_option maxRecDepth 100000 in
theorem spec_l1Odd.calls (g : Nat) (s0_0 : List Int) (s0_1 : Int) (s0_2 : Int) (r1 : Int) (r2 : Int) (r3 : Int) (w0 w : World) (hI : IsS73 w0 w g s0_0 s0_1 s0_2) (hB : Below w0.heap.size w0 w) (h : spec_l1Odd.f s0_0 s0_1 s0_2 = some (r1, r2, r3)) :
  Calls Try.prog 37 #[.pointer (some ⟨g, 0, none⟩)] w fun e w' => e = .returned (.int .i64 r1) ∧ IsS73 w0 w' g s0_0 r2 r3 ∧ Below w0.heap.size w0 w' ∧ KeepBut w w' g none := by
 have HI0 := zM hI
 have HK := zM (KeepBut.refl w g none)
 have HL := zM hB.size
 clear hI
 have HW0 := zM hB.size
 have HB := zM hB
 clear hB
 have H : ((spec_l1Int.f s0_0 s0_1 s0_2 (([(-1), 0, 1, 2, 255, 256, 65535, 2147483647, 2147483648, 4294967295, 4294967296, (-2147483648), 9223372036854775807, (-9223372036854775808)] : List Int))).bind fun bt193 => (some (bt193.1, bt193.2.1, bt193.2.2))) = some (r1, r2, r3) := h
 clear h
 obtain ⟨y190, hy190⟩ : ∃ y_ : List Int, y_ = (([(-1), 0, 1, 2, 255, 256, 65535, 2147483647, 2147483648, 4294967295, 4294967296, (-2147483648), 9223372036854775807, (-9223372036854775808)] : List Int)) := ⟨_, rfl⟩
 replace H : ((spec_l1Int.f s0_0 s0_1 s0_2 y190).bind fun bt193 => (some (bt193.1, bt193.2.1, bt193.2.2))) = some (r1, r2, r3) := zH hy190 H
 have Ny190 := zM hy190
 clear hy190
 replace H := Option.bind_eq_some_iff.mp H
 obtain ⟨⟨t193, t194, t195⟩, A20, H⟩ := H
 try dsimp only at H
 have A2 := zM A20
 clear A20
 simp only [Option.some.injEq, Prod.mk.injEq] at H
 obtain ⟨rfl, rfl, rfl⟩ := H
 go_enter Try.func37, Try.ntmps37
 go_wp2_with (first | ((with_reducible refine gate_dst (N := 4) rfl ?_); refine Kd.R_lit (Kd.int .i64) _ 3 ?hg (N := 4) ?hd (xs := ([(-1), 0, 1, 2, 255, 256, 65535, 2147483647, 2147483648, 4294967295, 4294967296, (-2147483648), 9223372036854775807, (-9223372036854775808)] : List Int)) (inner := [.int .i64 (-1), .int .i64 0, .int .i64 1, .int .i64 2, .int .i64 255, .int .i64 256, .int .i64 65535, .int .i64 2147483647, .int .i64 2147483648, .int .i64 4294967295, .int .i64 4294967296, .int .i64 (-2147483648), .int .i64 9223372036854775807, .int .i64 (-9223372036854775808)]) (ok := fun _ => True) (okp := fun _ => True) ?hr ?hp (fun _ hk => hk) trivial (Below.refl _ _) (Nat.le_refl _) (by simp) ?_; (case hd => rfl); (case hg => rfl); (case hr => first | (go_simp; done) | (go_simp; rfl)); (case hp => exact (Reps.one (show Kd.M (Kd.int .i64) _ _ _ (-1) [.int .i64 (-1)] from rfl) (Reps.one (show Kd.M (Kd.int .i64) _ _ _ 0 [.int .i64 0] from rfl) (Reps.one (show Kd.M (Kd.int .i64) _ _ _ 1 [.int .i64 1] from rfl) (Reps.one (show Kd.M (Kd.int .i64) _ _ _ 2 [.int .i64 2] from rfl) (Reps.one (show Kd.M (Kd.int .i64) _ _ _ 255 [.int .i64 255] from rfl) (Reps.one (show Kd.M (Kd.int .i64) _ _ _ 256 [.int .i64 256] from rfl) (Reps.one (show Kd.M (Kd.int .i64) _ _ _ 65535 [.int .i64 65535] from rfl) (Reps.one (show Kd.M (Kd.int .i64) _ _ _ 2147483647 [.int .i64 2147483647] from rfl) (Reps.one (show Kd.M (Kd.int .i64) _ _ _ 2147483648 [.int .i64 2147483648] from rfl) (Reps.one (show Kd.M (Kd.int .i64) _ _ _ 4294967295 [.int .i64 4294967295] from rfl) (Reps.one (show Kd.M (Kd.int .i64) _ _ _ 4294967296 [.int .i64 4294967296] from rfl) (Reps.one (show Kd.M (Kd.int .i64) _ _ _ (-2147483648) [.int .i64 (-2147483648)] from rfl) (Reps.one (show Kd.M (Kd.int .i64) _ _ _ 9223372036854775807 [.int .i64 9223372036854775807] from rfl) (Reps.one (show Kd.M (Kd.int .i64) _ _ _ (-9223372036854775808) [.int .i64 (-9223372036854775808)] from rfl) (Reps.none _ _)))))))))))))))); intro v191 w3 ho4 hb hg_ hnew_; clear hg_ hnew_; (first | rw [← Ny190.out] at ho4 | (simp only [Int.reduceToNat] at ho4; rw [← Ny190.out] at ho4)); have n0_ := zM (Kd.R_lower ho4 (keep_size (w := w) (g := g) (row := none) (zU HK.out))); have n1_ := zM (IsS73.below (zI73 HI0.out) hb); have n2_ := zM (KeepBut.trans (zU HK.out) (KeepBut.of_below hb g none) (.inl rfl)); have n3_ := zM (below_step (zB1 (IsS73.ge HI0.out) HB.out) hb); clear HI0; clear HK; clear HB; have HO192 := n0_; have HI0 := n1_; have HK := n2_; have HB := n3_; clear n0_ n1_ n2_ n3_; clear hb ho4; obtain ⟨Ao5, co5, eo5⟩ := Kd.R_slice HO192.out; subst eo5) | ((with_reducible refine gate_callee (f := 51) rfl ?_); refine zG (some 5) Try.func51 #[.pointer (some ⟨g, 0, none⟩), .slice Ao5 y190.length co5] ?_; (with_reducible refine (spec_l1Int.calls g s0_0 s0_1 s0_2 _ _ y190 t193 t194 t195 w0 _ ?side1 ?side2 ?side3 ?side4 ?side5 A2.out).mono ?_); (case side1 => exact (zI73 HI0.out)); (case side2 => exact (zB1 (IsS73.ge HI0.out) HB.out)); (case side3 => exact (zC ((Kd.R_reads' HO192.out).2.2))); (case side4 => exact (Kd.R_reads' HO192.out).2.1); (case side5 => exact far_slice (IsS73.own_ne HI0.out HO192.out (by decide))); rintro e w6 ⟨rfl, hi, hb, hk⟩; refine ⟨_, rfl, ?_⟩; have n0_ := zM (Kd.R_mono (Kd.R_keep (IsS73.apart (show IsS73 w0 _ g s0_0 s0_1 s0_2 from (zI73 HI0.out)) (zR HO192.out) (by decide)) hk (fun _ h => h.2)) (fun _ h => h.1)); have n1_ := zM (KeepBut.trans (zU HK.out) hk (.inl rfl)); have n2_ := zM (hb); have n3_ := zM (hi); clear HO192; clear HK; clear HB; clear HI0; have HO192 := n0_; have HK := n1_; have HB := n2_; have HI0 := n3_; clear n0_ n1_ n2_ n3_; (try clear hb); (try clear hb2); (try clear hk); (try clear hi)))
 go_ret
 exact ⟨zE, (zI73 HI0.out), (zB1 (IsS73.ge HI0.out) HB.out), (zU HK.out)⟩

end Go.Proofs.Yteahdfibipalkaa.G

namespace Go.Proofs.Yteahdfibipalkaa.G
open Go.RowKit Go.Proofs.YteahdfibipalkaaW.PrintWords Go.Proofs.YteahdfibipalkaaW.PrintLast Go.Proofs.YteahdfibipalkaaW.PrintMore
attribute [local go_sem] max2_int min2_int max_two min_two max_three min_three max_four min_four   -- for this text's walks alone
set_option linter.unusedVariables false
set_option linter.unusedSimpArgs false

/-! ### spec_Min: function 55 -/
set_option maxHeartbeats 8000000 in
set_option maxRecDepth 100000 in
theorem spec_Min.calls (a0 : Int) (a1 : Int) (r : Int) (w : World) (h : spec_Min.f a0 a1 = some r) :
  Calls Try.prog 55 #[.int .i64 a0, .int .i64 a1] w fun e w' => e = .returned (.int .i64 r) ∧ Drawn0 w w' := by
 have H : (if a1 < a0 then (some a1) else (some a0)) = some r := h
 clear h
 by_cases c3 : a1 < a0
 ·rw [if_pos c3] at H
  have c3b0 : decide (a1 < a0) = true := decide_eq_true c3
  clear c3
  obtain rfl := Option.some.inj H
  go_enter Try.func55, Try.ntmps55
  go_wp2
  go_ret
  exact ⟨zS, zW⟩
 ·rw [if_neg c3] at H
  have c3b0 : decide (a1 < a0) = false := decide_eq_false c3
  clear c3
  obtain rfl := Option.some.inj H
  go_enter Try.func55, Try.ntmps55
  go_wp2
  go_ret
  exact ⟨zS, zW⟩

end Go.Proofs.Yteahdfibipalkaa.G

namespace Go.Proofs.Yteahdfibipalkaa.G
open Go.RowKit Go.Proofs.YteahdfibipalkaaW.PrintWords Go.Proofs.YteahdfibipalkaaW.PrintLast Go.Proofs.YteahdfibipalkaaW.PrintMore
attribute [local go_sem] max2_int min2_int max_two min_two max_three min_three max_four min_four   -- for this text's walks alone
set_option linter.unusedVariables false
set_option linter.unusedSimpArgs false

/-! ### spec_l10Piece: function 50 -/
set_option maxHeartbeats 8000000 in
set_option maxRecDepth 100000 in
theorem spec_l10Piece.calls (g : Nat) (s0_0 : List Int) (s0_1 : Int) (s0_2 : Int) (r1 : Int) (r2 : ByteArray) (r3 : Int) (r4 : Int) (w0 w : World) (hI : IsS73 w0 w g s0_0 s0_1 s0_2) (hB : Below w0.heap.size w0 w) (h : spec_l10Piece.f s0_0 s0_1 s0_2 = some (r1, r2, r3, r4)) :
  Calls Try.prog 50 #[.pointer (some ⟨g, 0, none⟩)] w fun e w' => e = .returned (.agg #[.int .i64 r1, .string r2]) ∧ IsS73 w0 w' g s0_0 r3 r4 ∧ Below w0.heap.size w0 w' ∧ KeepBut w w' g none := by
 have hu44 := Try.underlying44
 have HI0 := zM hI
 have HK := zM (KeepBut.refl w g none)
 have HL := zM hB.size
 clear hI
 have HW0 := zM hB.size
 have HB := zM hB
 clear hB
 have H : ((spec_l1Below.f s0_0 s0_1 s0_2 20).bind fun bt553 => ((spec_l1Below.f s0_0 bt553.2.1 bt553.2.2 7).bind fun bt556 => ((spec_Min.f 20 (wrap64 ((wrap64 (bt553.1 + 1)) + bt556.1))).bind fun t559 => (if 0 ≤ bt553.1 then (if bt553.1 ≤ t559 then (if t559 ≤ 20 then (some (bt553.1, (⟨#[84, 104, 101, 32, 113, 117, 105, 99, 107, 32, 98, 114, 111, 119, 110, 32, 102, 111, 120, 46]⟩ : ByteArray).extract (bt553.1 : Int).toNat (t559 : Int).toNat, bt556.2.1, bt556.2.2)) else (none)) else (none)) else (none))))) = some (r1, r2, r3, r4) := h
 clear h
 replace H := Option.bind_eq_some_iff.mp H
 obtain ⟨⟨t553, t554, t555⟩, A20, H⟩ := H
 try dsimp only at H
 have A2 := zM A20
 clear A20
 replace H := Option.bind_eq_some_iff.mp H
 obtain ⟨⟨t556, t557, t558⟩, A30, H⟩ := H
 try dsimp only at H
 have A3 := zM A30
 clear A30
 replace H := Option.bind_eq_some_iff.mp H
 obtain ⟨t559, A40, H⟩ := H
 try dsimp only at H
 have A4 := zM A40
 clear A40
 by_cases c5 : 0 ≤ t553
 ·rw [if_pos c5] at H
  have c5b0 := eq_true c5
  have c5b1 : decide (0 ≤ t553) = true := decide_eq_true c5
  clear c5
  by_cases c6 : t553 ≤ t559
  ·rw [if_pos c6] at H
   have c6b0 := eq_true c6
   have c6b1 : decide (t553 ≤ t559) = true := decide_eq_true c6
   clear c6
   by_cases c7 : t559 ≤ 20
   ·rw [if_pos c7] at H
    have c7b0 := eq_true c7
    have c7b1 : decide (t559 ≤ 20) = true := decide_eq_true c7
    clear c7
    simp only [Option.some.injEq, Prod.mk.injEq] at H
    obtain ⟨rfl, rfl, rfl, rfl⟩ := H
    go_enter Try.func50, Try.ntmps50
    go_wp2_with (first | ((with_reducible refine gate_dst (N := 2) rfl ?_); refine box_event ?hg (N := 2) ?hd (cs := #[.int .i64 0, .string (⟨#[]⟩ : ByteArray)]) (t := 44) ?hr ?_; (case hd => rfl); (case hg => rfl); (case hr => first | (go_simp; done) | (go_simp; rfl)); intro gb552 hg w8 hbox hb; have n0_ := zM (IsS73.below (zI73 HI0.out) hb); have n1_ := zM (KeepBut.trans (zU HK.out) (KeepBut.of_below hb g none) (.inl rfl)); have n2_ := zM (below_step (zB1 (IsS73.ge HI0.out) HB.out) hb); have n3_ := zM (hbox); have n4_ := zM ((by rw [hg]; exact (keep_size (w := w) (g := g) (row := none) (zU HK.out)) : w.heap.size ≤ gb552)); have n5_ := zM ((Nat.le_trans HW0.out (by rw [hg]; exact (keep_size (w := w) (g := g) (row := none) (zU HK.out)) : w.heap.size ≤ gb552) : w0.heap.size ≤ gb552)); have n6_ := zM ((by rw [hg]; exact Nat.ne_of_lt (IsS73.lt (show IsS73 w0 _ g s0_0 s0_1 s0_2 from (zI73 HI0.out))) : g ≠ gb552)); have n7_ := zM ((by rw [hg]; exact Nat.ne_of_gt (IsS73.lt (show IsS73 w0 _ g s0_0 s0_1 s0_2 from (zI73 HI0.out))) : gb552 ≠ g)); clear HI0; clear HK; clear HB; have HI0 := n0_; have HK := n1_; have HB := n2_; have BK552 := n3_; have GW552 := n4_; have GE552 := n5_; have NB0_552 := n6_; have NB552_0 := n7_; clear n0_ n1_ n2_ n3_ n4_ n5_ n6_ n7_; clear hb hbox hg) | ((with_reducible refine gate_callee (f := 41) rfl ?_); refine zG (some 6) Try.func41 #[.pointer (some ⟨g, 0, none⟩), .int .i64 20] ?_; (with_reducible refine (spec_l1Below.calls g s0_0 s0_1 s0_2 20 t553 t554 t555 w0 _ ?side1 ?side2 A2.out).mono ?_); (case side1 => exact (zI73_1 NB0_552.out HI0.out)); (case side2 => exact (zB2 (IsS73.ge HI0.out) GE552.out HB.out)); rintro e w9 ⟨rfl, hi, hb, hk⟩; refine ⟨_, rfl, ?_⟩; have n0_ := zM (KeepBut.blk hk (g' := gb552) (o := .cells #[.int .i64 0, .string (⟨#[]⟩ : ByteArray)] 44 (0, 0)) (zP BK552.out) NB552_0.out (by simp)); have n1_ := zM (KeepBut.trans (zU1 GW552.out HK.out) hk (.inl rfl)); have n2_ := zM (hb); have n3_ := zM (hi); clear BK552; clear HK; clear HB; clear HI0; have BK552 := n0_; have HK := n1_; have HB := n2_; have HI0 := n3_; clear n0_ n1_ n2_ n3_; (try clear hb); (try clear hb2); (try clear hk); (try clear hi)) | ((with_reducible refine gate_callee (f := 41) rfl ?_); refine zG (some 10) Try.func41 #[.pointer (some ⟨g, 0, none⟩), .int .i64 7] ?_; (with_reducible refine (spec_l1Below.calls g s0_0 t554 t555 7 t556 t557 t558 w0 _ ?side1 ?side2 A3.out).mono ?_); (case side1 => exact (zI73_1 NB0_552.out HI0.out)); (case side2 => exact (zB2 (IsS73.ge HI0.out) GE552.out HB.out)); rintro e w10 ⟨rfl, hi, hb, hk⟩; refine ⟨_, rfl, ?_⟩; have n0_ := zM (KeepBut.blk hk (g' := gb552) (o := .cells #[.int .i64 0, .string (⟨#[]⟩ : ByteArray)] 44 (0, 0)) (zP BK552.out) NB552_0.out (by simp)); have n1_ := zM (KeepBut.trans (zU1 GW552.out HK.out) hk (.inl rfl)); have n2_ := zM (hb); have n3_ := zM (hi); clear BK552; clear HK; clear HB; clear HI0; have BK552 := n0_; have HK := n1_; have HB := n2_; have HI0 := n3_; clear n0_ n1_ n2_ n3_; (try clear hb); (try clear hb2); (try clear hk); (try clear hi)) | ((with_reducible refine gate_callee (f := 55) rfl ?_); refine zG (some 12) Try.func55 #[.int .i64 20, .int .i64 (wrap64 ((wrap64 (t553 + 1)) + t556))] ?_; (with_reducible refine (spec_Min.calls 20 (wrap64 ((wrap64 (t553 + 1)) + t556)) t559 _ A4.out).mono ?_); rintro e w' ⟨rfl, ⟨nd, rfl⟩⟩; refine ⟨_, rfl, ?_⟩; (try (rw [drewN_self w10]; generalize hq_ : World.drewN w10 _ = w10; have n0_ : Aside0 (w10.heap[gb552]? = some (.cells #[.int .i64 0, .string (⟨#[]⟩ : ByteArray)] 44 (0, 0))) := ⟨by rw [← hq_]; exact (zP BK552.out)⟩; have n1_ : Aside0 (IsS73 w0 w10 g s0_0 t557 t558) := ⟨by rw [← hq_]; exact (zI73_1 NB0_552.out HI0.out)⟩; have n2_ : Aside0 (KeepBut w w10 g none) := ⟨by rw [← hq_]; exact (zU1 GW552.out HK.out)⟩; have n3_ : Aside0 (Below w0.heap.size w0 w10) := ⟨by rw [← hq_]; exact (zB2 (IsS73.ge HI0.out) GE552.out HB.out)⟩; clear BK552 HI0 HK HB hq_; have BK552 := n0_; have HI0 := n1_; have HK := n2_; have HB := n3_; clear n0_ n1_ n2_ n3_)); have hnb11 := NB552_0.out; have hnc11 := NB0_552.out; have hcz12_0 : w10.cell? ⟨gb552, 0, none⟩ = some (.int .i64 0) := (blk_cell BK552.out 0).trans rfl; have hcz12_1 : w10.cell? ⟨gb552, 1, none⟩ = some (.string (⟨#[]⟩ : ByteArray)) := (blk_cell BK552.out 1).trans rfl; have hfz12_0 := blk_frozen BK552.out 0; have hfz12_1 := blk_frozen BK552.out 1))
    refine bodyPost_ret (results_cell_row rfl _ _ gb552 44 #[.int .i64 t553, .string ((⟨#[84, 104, 101, 32, 113, 117, 105, 99, 107, 32, 98, 114, 111, 119, 110, 32, 102, 111, 120, 46]⟩ : ByteArray).extract (t553 : Int).toNat (t559 : Int).toNat)] (0, 0) _ rfl (by (with_reducible repeat (first | refine blk_drewN ?_ _ | refine blk_drew ?_ | refine blk_alloc ?_ _)); refine blk_put (cs := #[.int .i64 t553, .string (⟨#[]⟩ : ByteArray)]) ?_ 1 _ rfl; (with_reducible repeat (first | refine blk_drewN ?_ _ | refine blk_drew ?_ | refine blk_alloc ?_ _)); refine blk_put (cs := #[.int .i64 0, .string (⟨#[]⟩ : ByteArray)]) ?_ 0 _ rfl; (with_reducible repeat (first | refine blk_drewN ?_ _ | refine blk_drew ?_ | refine blk_alloc ?_ _)); exact BK552.out) Try.underlying44 rfl (by kernel_rfl)) rfl ?_
    exact ⟨zE, (zI73_1 NB0_552.out HI0.out), (zB2 (IsS73.ge HI0.out) GE552.out HB.out), (zU1 GW552.out HK.out)⟩
   ·rw [if_neg c7] at H
    exact absurd H (by simp)
  ·rw [if_neg c6] at H
   exact absurd H (by simp)
 ·rw [if_neg c5] at H
  exact absurd H (by simp)

end Go.Proofs.Yteahdfibipalkaa.G

namespace Go.Proofs.Yteahdfibipalkaa.G
open Go.RowKit Go.Proofs.YteahdfibipalkaaW.PrintWords Go.Proofs.YteahdfibipalkaaW.PrintLast Go.Proofs.YteahdfibipalkaaW.PrintMore
attribute [local go_sem] max2_int min2_int max_two min_two max_three min_three max_four min_four   -- for this text's walks alone
set_option linter.unusedVariables false
set_option linter.unusedSimpArgs false

/-! ### spec_l1Once: function 36 -/
set_option maxHeartbeats 8000000 in
set_option maxRecDepth 100000 in
theorem spec_l1Once.calls (g : Nat) (s0_0 : List Int) (s0_1 : Int) (s0_2 : Int) (a1 : Int) (r1 : Bool) (r2 : Int) (r3 : Int) (w0 w : World) (hI : IsS73 w0 w g s0_0 s0_1 s0_2) (hB : Below w0.heap.size w0 w) (h : spec_l1Once.f s0_0 s0_1 s0_2 a1 = some (r1, r2, r3)) :
  Calls Try.prog 36 #[.pointer (some ⟨g, 0, none⟩), .int .i64 a1] w fun e w' => e = .returned (.bool r1) ∧ IsS73 w0 w' g s0_0 r2 r3 ∧ Below w0.heap.size w0 w' ∧ KeepBut w w' g none := by
 have HI0 := zM hI
 have HK := zM (KeepBut.refl w g none)
 have HL := zM hB.size
 clear hI
 have HW0 := zM hB.size
 have HB := zM hB
 clear hB
 have H : ((spec_l1Below.f s0_0 s0_1 s0_2 a1).bind fun bt124 => (some ((bt124.1 == 0), bt124.2.1, bt124.2.2))) = some (r1, r2, r3) := h
 clear h
 replace H := Option.bind_eq_some_iff.mp H
 obtain ⟨⟨t124, t125, t126⟩, A30, H⟩ := H
 try dsimp only at H
 have A3 := zM A30
 clear A30
 simp only [Option.some.injEq, Prod.mk.injEq] at H
 obtain ⟨rfl, rfl, rfl⟩ := H
 go_enter Try.func36, Try.ntmps36
 go_wp2_with (first | ((with_reducible refine gate_callee (f := 41) rfl ?_); refine zG (some 7) Try.func41 #[.pointer (some ⟨g, 0, none⟩), .int .i64 a1] ?_; (with_reducible refine (spec_l1Below.calls g s0_0 s0_1 s0_2 a1 t124 t125 t126 w0 _ ?side1 ?side2 A3.out).mono ?_); (case side1 => exact (zI73 HI0.out)); (case side2 => exact (zB1 (IsS73.ge HI0.out) HB.out)); rintro e w4 ⟨rfl, hi, hb, hk⟩; refine ⟨_, rfl, ?_⟩; have n0_ := zM (KeepBut.trans (zU HK.out) hk (.inl rfl)); have n1_ := zM (hb); have n2_ := zM (hi); clear HK; clear HB; clear HI0; have HK := n0_; have HB := n1_; have HI0 := n2_; clear n0_ n1_ n2_; (try clear hb); (try clear hb2); (try clear hk); (try clear hi)))
 go_ret
 exact ⟨zE, (zI73 HI0.out), (zB1 (IsS73.ge HI0.out) HB.out), (zU HK.out)⟩

end Go.Proofs.Yteahdfibipalkaa.G

namespace Go.Proofs.Yteahdfibipalkaa.G
open Go.RowKit Go.Proofs.YteahdfibipalkaaW.PrintWords Go.Proofs.YteahdfibipalkaaW.PrintLast Go.Proofs.YteahdfibipalkaaW.PrintMore
attribute [local go_sem] max2_int min2_int max_two min_two max_three min_three max_four min_four   -- for this text's walks alone
set_option linter.unusedVariables false
set_option linter.unusedSimpArgs false

/-! ### spec_Max: function 56 -/
set_option maxHeartbeats 8000000 in
set_option maxRecDepth 100000 in
theorem spec_Max.calls (a0 : Int) (a1 : Int) (r : Int) (w : World) (h : spec_Max.f a0 a1 = some r) :
  Calls Try.prog 56 #[.int .i64 a0, .int .i64 a1] w fun e w' => e = .returned (.int .i64 r) ∧ Drawn0 w w' := by
 have H : (if a1 > a0 then (some a1) else (some a0)) = some r := h
 clear h
 by_cases c3 : a1 > a0
 ·rw [if_pos c3] at H
  have c3b0 : decide (a0 < a1) = true := decide_eq_true c3
  clear c3
  obtain rfl := Option.some.inj H
  go_enter Try.func56, Try.ntmps56
  go_wp2
  go_ret
  exact ⟨zS, zW⟩
 ·rw [if_neg c3] at H
  have c3b0 : decide (a0 < a1) = false := decide_eq_false c3
  clear c3
  obtain rfl := Option.some.inj H
  go_enter Try.func56, Try.ntmps56
  go_wp2
  go_ret
  exact ⟨zS, zW⟩

end Go.Proofs.Yteahdfibipalkaa.G

namespace Go.Proofs.Yteahdfibipalkaa.G
open Go.RowKit Go.Proofs.YteahdfibipalkaaW.PrintWords Go.Proofs.YteahdfibipalkaaW.PrintLast Go.Proofs.YteahdfibipalkaaW.PrintMore
attribute [local go_sem] max2_int min2_int max_two min_two max_three min_three max_four min_four   -- for this text's walks alone
set_option linter.unusedVariables false
set_option linter.unusedSimpArgs false

/-! ### spec_AddSpan: function 43 -/
def spec_AddSpan.T7 : Bool × List (List Nat × List Nat) := (true, [([], []), ([], []), ([0, 1], [0, 1]), ([2], [2]), ([3], [3]), ([], []), ([5], [5]), ([4, 6], [4, 6])])
def spec_AddSpan.B7 : List Nat := [0, 0, 3, 7, 15, 0, 32, 127]
theorem spec_AddSpan.tab7 : rtab .any (opsOf Try.f43 7) = spec_AddSpan.T7 := by kernel_rfl
theorem spec_AddSpan.bits7 : waitsOk spec_AddSpan.T7.2 spec_AddSpan.B7 = true := by kernel_rfl
def spec_AddSpan.T12 : Bool × List (List Nat × List Nat) := (true, [([], []), ([], []), ([0, 1], [0, 1]), ([2], [2]), ([3], [3]), ([], []), ([5], [5]), ([4, 6], [4, 6]), ([7], [7]), ([8], [8]), ([8], [8]), ([9, 10, 8], [8, 9, 10]), ([11, 8], [8, 11]), ([12, 8], [8, 12]), ([8], [8]), ([14, 8], [8, 14]), ([13, 15, 8], [8, 13, 15]), ([8, 16], [8, 16])])
def spec_AddSpan.B12 : List Nat := [0, 0, 3, 7, 15, 0, 32, 127, 255, 511, 511, 2047, 4095, 8191, 511, 16895, 65535, 131071]
theorem spec_AddSpan.tab12 : rtab .any (opsOf Try.f43 12) = spec_AddSpan.T12 := by kernel_rfl
theorem spec_AddSpan.bits12 : waitsOk spec_AddSpan.T12.2 spec_AddSpan.B12 = true := by kernel_rfl
def spec_AddSpan.T13 : Bool × List (List Nat × List Nat) := (true, [([], []), ([0], [0]), ([], []), ([], []), ([2, 3], [2, 3]), ([4], [4]), ([5], [5]), ([1, 6], [1, 6]), ([], []), ([8], [8]), ([], []), ([], []), ([10, 11], [10, 11]), ([12], [12]), ([13], [13]), ([9, 14, 7], [9, 14]), ([7, 15], [7, 15]), ([16, 15, 0, 1, 2, 3, 4, 5, 6, 7, 8, 9, 10, 11, 12, 13, 14, 15, 16], [16])])
def spec_AddSpan.B13 : List Nat := [0, 1, 0, 0, 12, 28, 60, 127, 0, 256, 0, 0, 3072, 7168, 15360, 32767, 65535, 131071]
theorem spec_AddSpan.tab13 : rtab .any (opsOf Try.f43 13) = spec_AddSpan.T13 := by kernel_rfl
theorem spec_AddSpan.bits13 : waitsOk spec_AddSpan.T13.2 spec_AddSpan.B13 = true := by kernel_rfl
def spec_AddSpan.T18 : Bool × List (List Nat × List Nat) := (true, [([], []), ([], []), ([0, 1], [0, 1]), ([2], [2]), ([3], [3]), ([], []), ([5], [5]), ([4, 6], [4, 6])])
def spec_AddSpan.B18 : List Nat := [0, 0, 3, 7, 15, 0, 32, 127]
theorem spec_AddSpan.tab18 : rtab .any (opsOf Try.f43 18) = spec_AddSpan.T18 := by kernel_rfl
theorem spec_AddSpan.bits18 : waitsOk spec_AddSpan.T18.2 spec_AddSpan.B18 = true := by kernel_rfl
set_option maxHeartbeats 8000000 in
set_option maxRecDepth 100000 in
theorem spec_AddSpan.calls (k : Nat) (A0 : Option Addr) (c0 : Nat) (l0 : List (S26)) (a1_0 : Int) (a1_1 : Int) (r : List (S26)) (w : World) (hr0 : Kd.C k26 w A0 l0.length l0) (hc0 : l0.length ≤ c0) (h : spec_AddSpan.f k l0 a1_0 a1_1 = some r) :
  Calls Try.prog 43 #[.slice A0 l0.length c0, .agg #[.int .i64 a1_0, .int .i64 a1_1]] w fun e w' => ∃ v0_ : Value, e = .returned (v0_) ∧ Kd.R k26 26 w' w.heap.size (fun _ => True) v0_ r ∧ Below w.heap.size w w' := by
 have hu26 := Try.underlying26
 have HR0 := zM hr0
 have HC0 := zM hc0
 clear hr0 hc0
 have HB := zM (Below.refl w.heap.size w)
 have H : ((spec_IsSpanSet.f k l0).bind fun t134 => (if t134 = true then (if a1_0 < 0 then (spec_AddSpan.j0 k l0 true a1_0 a1_1) else (if a1_0 ≥ a1_1 then (spec_AddSpan.j0 k l0 true a1_0 a1_1) else (spec_AddSpan.j0 k l0 (decide (a1_1 > 1000000000000)) a1_0 a1_1))) else (spec_AddSpan.j0 k l0 true a1_0 a1_1))) = some r := h
 clear h
 have HC3 := zM H
 clear H
 go_enter Try.func43, Try.ntmps43
 go_upto_region 1 with (first | ((with_reducible refine gate_dst (N := 3) rfl ?_); refine box_event ?hg (N := 3) ?hd (cs := #[.int .i64 a1_0, .int .i64 a1_1]) (t := 26) ?hr ?_; (case hd => rfl); (case hg => rfl); (case hr => first | (go_simp; done) | (go_simp; rfl)); intro gb133 hg w4 hbox hb; have n0_ := zM (below_step (zB HB.out) hb); have n1_ := zM (hbox); have n2_ := zM ((by rw [hg]; exact (below_size (zB HB.out)) : w.heap.size ≤ gb133)); have n3_ := zM ((by rw [hg]; exact (below_size (zB HB.out)) : w.heap.size ≤ gb133)); clear HB; have HB := n0_; have BK133 := n1_; have GW133 := n2_; have GE133 := n3_; clear n0_ n1_ n2_ n3_; clear hb hbox hg))
 (try simp only [Act.put, List.setIfInBounds_toArray, List.set_cons_zero, List.set_cons_succ])
 go_cut [28] (fun v28 wc => ∃ (kq : Nat) (x28_2 : Bool), v28 = .bool x28_2 ∧ Aside0 (spec_AddSpan.j0 kq l0 x28_2 a1_0 a1_1 = some r) ∧ Aside0 (kq ≤ k) ∧ Aside0 (wc.heap[gb133]? = some (.cells #[.int .i64 a1_0, .int .i64 a1_1] 26 (0, 0))) ∧ Aside0 (Below w.heap.size w wc))
 case first =>
  have H := HC3.out
  clear HC3
  replace H := Option.bind_eq_some_iff.mp H
  obtain ⟨t134, A50, H⟩ := H
  try dsimp only at H
  have A5 := zM A50
  clear A50
  by_cases c6 : t134 = true
  ·subst c6
   rw [if_pos rfl] at H
   by_cases c7 : a1_0 < 0
   ·rw [if_pos c7] at H
    have c7b0 : decide (a1_0 < 0) = true := decide_eq_true c7
    clear c7
    (first | rw [c7b0] | (simp only [i64_w, i32_w]; rw [c7b0]) | skip)
    have H' := zM H
    clear H
    go_wp2_with (first | ((with_reducible refine gate_callee (f := 11) rfl ?_); refine zG (some 10) Try.func11 #[.slice A0 l0.length c0] ?_; (with_reducible refine (spec_IsSpanSet.calls k _ _ l0 true _ ?side1 ?side2 A5.out).mono ?_); (case side1 => exact (zC (Kd.C_below HR0.out HB.out))); (case side2 => exact HC0.out); rintro e w' ⟨rfl, ⟨nd, rfl⟩⟩; refine ⟨_, rfl, ?_⟩; have hcz8_0 : w4.cell? ⟨gb133, 0, none⟩ = some (.int .i64 a1_0) := (blk_cell BK133.out 0).trans rfl; have hcz8_1 : w4.cell? ⟨gb133, 1, none⟩ = some (.int .i64 a1_1) := (blk_cell BK133.out 1).trans rfl; have hfz8_0 := blk_frozen BK133.out 0; have hfz8_1 := blk_frozen BK133.out 1))
    go_meet
    case rel => exact ⟨_, (true), zS, H', ⟨by first | omega | exact Nat.le_refl _⟩, ⟨(zP BK133.out)⟩, ⟨(zB1 GE133.out HB.out)⟩⟩
   ·rw [if_neg c7] at H
    have c7b0 : decide (a1_0 < 0) = false := decide_eq_false c7
    clear c7
    (first | rw [c7b0] | (simp only [i64_w, i32_w]; rw [c7b0]) | skip)
    by_cases c9 : a1_0 ≥ a1_1
    ·rw [if_pos c9] at H
     have c9b0 : decide (a1_1 ≤ a1_0) = true := decide_eq_true c9
     clear c9
     have H' := zM H
     clear H
     go_wp2_with (first | ((with_reducible refine gate_callee (f := 11) rfl ?_); refine zG (some 10) Try.func11 #[.slice A0 l0.length c0] ?_; (with_reducible refine (spec_IsSpanSet.calls k _ _ l0 true _ ?side1 ?side2 A5.out).mono ?_); (case side1 => exact (zC (Kd.C_below HR0.out HB.out))); (case side2 => exact HC0.out); rintro e w' ⟨rfl, ⟨nd, rfl⟩⟩; refine ⟨_, rfl, ?_⟩; have hcz10_0 : w4.cell? ⟨gb133, 0, none⟩ = some (.int .i64 a1_0) := (blk_cell BK133.out 0).trans rfl; have hcz10_1 : w4.cell? ⟨gb133, 1, none⟩ = some (.int .i64 a1_1) := (blk_cell BK133.out 1).trans rfl; have hfz10_0 := blk_frozen BK133.out 0; have hfz10_1 := blk_frozen BK133.out 1))
     go_meet
     case rel => exact ⟨_, (true), zS, H', ⟨by first | omega | exact Nat.le_refl _⟩, ⟨(zP BK133.out)⟩, ⟨(zB1 GE133.out HB.out)⟩⟩
    ·rw [if_neg c9] at H
     have c9b0 : decide (a1_1 ≤ a1_0) = false := decide_eq_false c9
     clear c9
     have H' := zM H
     clear H
     go_wp2_with (first | ((with_reducible refine gate_callee (f := 11) rfl ?_); refine zG (some 10) Try.func11 #[.slice A0 l0.length c0] ?_; (with_reducible refine (spec_IsSpanSet.calls k _ _ l0 true _ ?side1 ?side2 A5.out).mono ?_); (case side1 => exact (zC (Kd.C_below HR0.out HB.out))); (case side2 => exact HC0.out); rintro e w' ⟨rfl, ⟨nd, rfl⟩⟩; refine ⟨_, rfl, ?_⟩; have hcz11_0 : w4.cell? ⟨gb133, 0, none⟩ = some (.int .i64 a1_0) := (blk_cell BK133.out 0).trans rfl; have hcz11_1 : w4.cell? ⟨gb133, 1, none⟩ = some (.int .i64 a1_1) := (blk_cell BK133.out 1).trans rfl; have hfz11_0 := blk_frozen BK133.out 0; have hfz11_1 := blk_frozen BK133.out 1))
     go_meet
     case rel => exact ⟨_, (decide (a1_1 > 1000000000000)), zS, H', ⟨by first | omega | exact Nat.le_refl _⟩, ⟨(zP BK133.out)⟩, ⟨(zB1 GE133.out HB.out)⟩⟩
  ·replace c6 := Bool.eq_false_iff.mpr c6
   subst c6
   rw [if_neg (show ¬ (false = true) by decide)] at H
   have H' := zM H
   clear H
   go_wp2_with (first | ((with_reducible refine gate_callee (f := 11) rfl ?_); refine zG (some 10) Try.func11 #[.slice A0 l0.length c0] ?_; (with_reducible refine (spec_IsSpanSet.calls k _ _ l0 false _ ?side1 ?side2 A5.out).mono ?_); (case side1 => exact (zC (Kd.C_below HR0.out HB.out))); (case side2 => exact HC0.out); rintro e w' ⟨rfl, ⟨nd, rfl⟩⟩; refine ⟨_, rfl, ?_⟩))
   go_meet
   case rel => exact ⟨_, (true), zS, H', ⟨by first | omega | exact Nat.le_refl _⟩, ⟨(zP BK133.out)⟩, ⟨(zB1 GE133.out HB.out)⟩⟩
 case rest =>
  clear HC3
  try clear c1
  try clear p2
  try clear c4
  try clear c6
  try clear c7
  try clear c7b0
  try clear c9
  try clear c9b0
  try clear c11
  try clear hcz10_0
  try clear hcz10_1
  try clear hcz11_0
  try clear hcz11_1
  try clear hcz8_0
  try clear hcz8_1
  try clear hfz10_0
  try clear hfz10_1
  try clear hfz11_0
  try clear hfz11_1
  try clear hfz8_0
  try clear hfz8_1
  obtain ⟨kq, x28_2, rfl, HA, HJ2, BK133, HB⟩ := hcut
  cases kq with
  | zero => exact absurd HA.out (by simp [spec_AddSpan.j0])
  | succ kj2 =>
   have H := HA.out
   clear HA
   simp only [spec_AddSpan.j0] at H
   by_cases c12 : x28_2 = true
   ·subst c12
    rw [if_pos rfl] at H
    obtain ⟨y135, hy135⟩ : ∃ y_ : List (S26), y_ = (([] : List (S26))) := ⟨_, rfl⟩
    replace H : (if y135.length + l0.length < 8796093022208 then (some (y135 ++ l0)) else (none)) = some r := zH hy135 H
    have Ny135 := zM hy135
    clear hy135
    by_cases c13 : y135.length + l0.length < 8796093022208
    ·rw [if_pos c13] at H
     have LMc13 := zM c13
     clear c13
     obtain ⟨y138, hy138⟩ : ∃ y_ : List (S26), y_ = (y135 ++ l0) := ⟨_, rfl⟩
     replace H : (some y138) = some r := zH hy138 H
     have Ny138 := zM hy138
     clear hy138
     obtain rfl := Option.some.inj H
     go_wp2_with (first | ((with_reducible refine gate_dst (N := 29) rfl ?_); refine Kd.R_lit k26 _ 26 ?hg (N := 29) ?hd (xs := ([] : List (S26))) (inner := []) (ok := fun _ => True) (okp := fun _ => True) ?hr ?hp (fun _ hk => hk) trivial (Below.refl _ _) (Nat.le_refl _) (by simp) ?_; (case hd => rfl); (case hg => rfl); (case hr => first | (go_simp; done) | (go_simp; rfl)); (case hp => exact (Reps.none _ _)); intro v136 w14 ho15 hb hg_ hnew_; clear hg_ hnew_; (first | rw [← Ny135.out] at ho15 | (simp only [Int.reduceToNat] at ho15; rw [← Ny135.out] at ho15)); have n0_ := zM (Kd.R_lower (Kd.R_newB ho15 (g := gb133) (o := .cells #[.int .i64 a1_0, .int .i64 a1_1] 26 (0, 0)) (zP BK133.out)) (below_size (zB1 GE133.out HB.out))); have n1_ := zM (blk_below (g := gb133) (o := .cells #[.int .i64 a1_0, .int .i64 a1_1] 26 (0, 0)) (zP BK133.out) hb); have n2_ := zM (below_step (zB1 GE133.out HB.out) hb); clear BK133; clear HB; have HO137 := n0_; have BK133 := n1_; have HB := n2_; clear n0_ n1_ n2_; clear hb ho15) | ((with_reducible refine gate_builtin (b := .append) (xs := #[.tmp 29, .tmp 30]) rfl ?_); at_builtin; refine Kd.R_append_rows k26 (w0 := w) w.heap.size rfl (.tmp 29) (.tmp 30) 24 26 (.agg #[(.int .i64 0), (.int .i64 0)]) 16 rfl Try.underlying24 info26 rfl (by decide) (by omega) v136 y135 l0 _ _ _ (fun k_ => k_ ≠ gb133) (fun _ => False) rfl rfl ?aO ?aR (fun _ _ h => h) (fun _ h => h.elim) ?aF ?aB ?aS ?aL ?_; (case aR => exact (zC (Kd.C_below HR0.out HB.out))); (case aB => exact (zB1 GE133.out HB.out)); (case aF => exact (fun k_ hk => Kd.freshB (g := gb133) (o := .cells #[.int .i64 a1_0, .int .i64 a1_1] 26 (0, 0)) (zP BK133.out) k_ hk)); (case aO => exact (zRm HO137.out (fun _ hk => hk.2))); (case aS => exact (below_size (zB1 GE133.out HB.out))); (case aL => have := LMc13.out; omega); intro v139 w16 ho hb hg hat; rw [← Ny138.out] at ho; have n0_ := zM (blk_grown (g := gb133) (o := .cells #[.int .i64 a1_0, .int .i64 a1_1] 26 (0, 0)) (zP BK133.out) hg (Kd.R_away HO137.out (fun _ hk => hk.2))); have n1_ := zM (hb); have n2_ := zM (ho); clear BK133; clear HB; clear HO137; have BK133 := n0_; have HB := n1_; have HO140 := n2_; clear n0_ n1_ n2_; clear ho hb hg hat))
     go_ret
     exact ⟨_, zE, (zRm HO140.out (fun _ hk => trivial)), (zB1 GE133.out HB.out)⟩
    ·rw [if_neg c13] at H
     exact absurd H (by simp)
   ·replace c12 := Bool.eq_false_iff.mpr c12
    subst c12
    rw [if_neg (show ¬ (false = true) by decide)] at H
    obtain ⟨y141, hy141⟩ : ∃ y_ : List (S26), y_ = (([] : List (S26))) := ⟨_, rfl⟩
    replace H : (spec_AddSpan.l0 kj2 l0 y141 0 a1_0 a1_1) = some r := zH hy141 H
    have Ny141 := zM hy141
    clear hy141
    have H' := zM H
    clear H
    go_wp2_with (first | ((with_reducible refine gate_dst (N := 32) rfl ?_); refine Kd.R_lit k26 _ 26 ?hg (N := 32) ?hd (xs := ([] : List (S26))) (inner := []) (ok := fun _ => True) (okp := fun _ => True) ?hr ?hp (fun _ hk => hk) trivial (Below.refl _ _) (Nat.le_refl _) (by simp) ?_; (case hd => rfl); (case hg => rfl); (case hr => first | (go_simp; done) | (go_simp; rfl)); (case hp => exact (Reps.none _ _)); intro v142 w17 ho18 hb hg_ hnew_; clear hg_ hnew_; (first | rw [← Ny141.out] at ho18 | (simp only [Int.reduceToNat] at ho18; rw [← Ny141.out] at ho18)); have n0_ := zM (Kd.R_lower (Kd.R_newB ho18 (g := gb133) (o := .cells #[.int .i64 a1_0, .int .i64 a1_1] 26 (0, 0)) (zP BK133.out)) (below_size (zB1 GE133.out HB.out))); have n1_ := zM (blk_below (g := gb133) (o := .cells #[.int .i64 a1_0, .int .i64 a1_1] 26 (0, 0)) (zP BK133.out) hb); have n2_ := zM (below_step (zB1 GE133.out HB.out) hb); clear BK133; clear HB; have HO143 := n0_; have BK133 := n1_; have HB := n2_; clear n0_ n1_ n2_; clear hb ho18))
    go_loopg [5, 6] kj2 (fun kq v5 v6 w' => ∃ (x5_2 : List (S26)) (x6_2 : Int), v6 = .int .i64 x6_2 ∧ Aside0 (spec_AddSpan.l0 kq l0 x5_2 x6_2 a1_0 a1_1 = some r) ∧ Aside0 (kq ≤ kj2) ∧ Aside0 (Kd.R k26 26 w' w.heap.size (fun k_ => k_ ≠ gb133) v5 x5_2) ∧ Aside0 (w'.heap[gb133]? = some (.cells #[.int .i64 a1_0, .int .i64 a1_1] 26 (0, 0))) ∧ Aside0 (Below w.heap.size w w'))
    case atStart => exact ⟨(y141), (0), zS, H', ⟨Nat.le_refl _⟩, ⟨(zRm HO143.out (fun _ hk => hk.2))⟩, ⟨(zP BK133.out)⟩, ⟨(zB1 GE133.out HB.out)⟩⟩
    case round =>
     clear H'
     try clear c1
     try clear p2
     try clear c4
     try clear c6
     try clear c7
     try clear c7b0
     try clear c9
     try clear c9b0
     try clear c11
     try clear c12
     try clear c13
     try clear hcz10_0
     try clear hcz10_1
     try clear hcz11_0
     try clear hcz11_1
     try clear hcz8_0
     try clear hcz8_1
     try clear hfz10_0
     try clear hfz10_1
     try clear hfz11_0
     try clear hfz11_1
     try clear hfz8_0
     try clear hfz8_1
     try clear p2
     obtain ⟨x5_2, x6_2, rfl, HA, HK2, HO_5, BK133, HB⟩ := hrel
     cases gk with
     | zero => exact absurd HA.out (by simp [spec_AddSpan.l0])
     | succ k2 =>
      have H := HA.out
      clear HA
      simp only [spec_AddSpan.l0] at H
      by_cases c19 : x6_2 < (l0.length : Int)
      ·rw [if_pos c19] at H
       have c19b0 : decide (x6_2 < (l0.length : Int)) = true := decide_eq_true c19
       clear c19
       by_cases c20 : 0 ≤ x6_2
       ·rw [if_pos c20] at H
        have c20b0 : decide (0 ≤ x6_2) = true := decide_eq_true c20
        clear c20
        by_cases c21 : ((rd_T26 l0 x6_2).f1) < a1_0
        ·rw [if_pos c21] at H
         have c21b0 : decide (((rd_T26 l0 x6_2).f1) < a1_0) = true := decide_eq_true c21
         clear c21
         by_cases c22 : x5_2.length < 8796093022208
         ·rw [if_pos c22] at H
          have LMc22 := zM c22
          clear c22
          obtain ⟨y146, hy146⟩ : ∃ y_ : List (S26), y_ = (x5_2 ++ [(⟨(rd_T26 l0 x6_2).f0, (rd_T26 l0 x6_2).f1⟩ : S26)]) := ⟨_, rfl⟩
          replace H : (spec_AddSpan.l0 k2 l0 y146 (wrap64 (x6_2 + 1)) a1_0 a1_1) = some r := zH hy146 H
          have Ny146 := zM hy146
          clear hy146
          have H' := zM H
          clear H
          try go_wp2
          have n0_ := zM (Kd.R_drew HO_5.out)
          have n1_ := zM (blk_drew BK133.out)
          have n2_ := zM (below_drew1 HB.out)
          clear HO_5
          clear BK133
          clear HB
          have HO_5 := n0_
          have BK133 := n1_
          have HB := n2_
          clear n0_ n1_ n2_
          have p144 : 0 ≤ (x6_2 : Int) := zD
          have q144 : x6_2 < (l0.length : Int) := zD
          obtain ⟨ad144, e144, hx144_0, hx144_1⟩ := at_T26 HR0.out x6_2 p144 q144
          have hw144_1 := hx144_1
          have hw144_0 := hx144_0
          cases e144
          replace hx144_0 := (HB.out.cell (World.block_lt_of_cell? w _ hx144_0)).trans hx144_0
          replace hx144_1 := (HB.out.cell (World.block_lt_of_cell? w _ hx144_1)).trans hx144_1
          replace p144 := eq_true p144
          replace q144 := eq_true q144
          refine start_ (n := 8) (S := fun w' => w'.cell? ⟨gb133, 0, none⟩ = some (.int .i64 a1_0) ∧ w'.cell? ⟨gb133, 1, none⟩ = some (.int .i64 a1_1) ∧ w'.cell? (ad144.add ((x6_2).toNat * 2)) = some (.int .i64 ((rd_T26 l0 x6_2).f0)) ∧ w'.cell? ⟨(ad144.add ((x6_2).toNat * 2)).block, (ad144.add ((x6_2).toNat * 2)).off + 1, none⟩ = some (.int .i64 ((rd_T26 l0 x6_2).f1))) (ds := []) (ba 8 0).toArray (by kernel_rfl) rfl rfl ⟨(blk_cell BK133.out 0).trans rfl, (blk_cell BK133.out 1).trans rfl, ((HB.out.cell (World.block_lt_of_cell? w _ hw144_0)).trans hw144_0), ((HB.out.cell (World.block_lt_of_cell? w _ hw144_1)).trans hw144_1)⟩ (fun hHeld => ?_); refine with_tabW spec_AddSpan.tab7 spec_AddSpan.bits7 (fun HT_ HW_ => ?_)
          generalize wr.drew = w23 at HO_5 BK133 HB hx144_0 hx144_1 hHeld ⊢
          refine zq 0 (some 39) (ba 8 1).toArray HT_ ?_
          refine zq 1 (some 40) (ba 8 3).toArray HT_ ?_
          refine zq 2 (some 41) (ba 8 7).toArray HT_ ?_
          refine zq 3 (some 42) (ba 8 15).toArray HT_ ?_
          refine zq 5 (some 44) (ba 8 47).toArray HT_ ?_
          refine zt4 4 (some 43) (ba 8 63).toArray HT_ HW_ hHeld ?_
          refine zt4 6 (some 45) (ba 8 127).toArray HT_ HW_ hHeld ?_
          refine zq 7 (some 46) (ba 8 255).toArray HT_ ?_
          refine done_ (done_of HT_.out (by kernel_rfl)) ?_
          have p145 : 0 ≤ (x6_2 : Int) := zD
          have q145 : x6_2 < (l0.length : Int) := zD
          obtain ⟨ad145, e145, hx145_0, hx145_1⟩ := at_T26 HR0.out x6_2 p145 q145
          obtain rfl : ad144 = ad145 := (by injection e145)
          replace hx145_0 := (HB.out.cell (World.block_lt_of_cell? w _ hx145_0)).trans hx145_0
          replace hx145_1 := (HB.out.cell (World.block_lt_of_cell? w _ hx145_1)).trans hx145_1
          replace p145 := eq_true p145
          replace q145 := eq_true q145
          try go_wp2_with (first | ((with_reducible refine gate_builtin (b := .append) (xs := #[.tmp 47, .tmp 52]) rfl ?_); at_builtin; refine Kd.R_append k26 (w0 := w) w.heap.size rfl (.tmp 47) (.tmp 52) 24 26 (.agg #[(.int .i64 0), (.int .i64 0)]) 16 rfl Try.underlying24 info26 rfl (by decide) (by omega) u5 x5_2 (⟨(rd_T26 l0 x6_2).f0, (rd_T26 l0 x6_2).f1⟩ : S26) [.int .i64 ((rd_T26 l0 x6_2).f0), .int .i64 ((rd_T26 l0 x6_2).f1)] (fun k_ => k_ ≠ gb133) (fun _ => False) rfl rfl ?aP (fun _ hk => hk.elim) ?aF ?aO ?aB ?aS ?aL ?_; (case aP => exact k26_mkM _ _ _ (⟨(rd_T26 l0 x6_2).f0, (rd_T26 l0 x6_2).f1⟩ : S26)); (case aB => exact (zB1 GE133.out HB.out)); (case aF => exact (fun k_ hk => Kd.freshB (g := gb133) (o := .cells #[.int .i64 a1_0, .int .i64 a1_1] 26 (0, 0)) (zP BK133.out) k_ hk)); (case aO => exact (zR HO_5.out)); (case aS => exact (below_size (zB1 GE133.out HB.out))); (case aL => have := LMc22.out; omega); intro v147 w24 ho hb hg hat; rw [← Ny146.out] at ho; have n0_ := zM (blk_grown (g := gb133) (o := .cells #[.int .i64 a1_0, .int .i64 a1_1] 26 (0, 0)) (zP BK133.out) hg (Kd.R_away HO_5.out (fun _ hk => hk))); have n1_ := zM (hb); have n2_ := zM (ho); clear BK133; clear HB; clear HO_5; have BK133 := n0_; have HB := n1_; have HO148 := n2_; clear n0_ n1_ n2_; clear ho hb hg hat))
          go_roundg k2
          case measure => have := HJ2.out; have := HK2.out; omega
          case rel => exact ⟨(y146), (wrap64 (x6_2 + 1)), zS, H', ⟨by have := HJ2.out; have := HK2.out; omega⟩, ⟨(zR HO148.out)⟩, ⟨(zP BK133.out)⟩, ⟨(zB1 GE133.out HB.out)⟩⟩
         ·rw [if_neg c22] at H
          exact absurd H (by simp)
        ·rw [if_neg c21] at H
         have c21b0 : decide (((rd_T26 l0 x6_2).f1) < a1_0) = false := decide_eq_false c21
         clear c21
         have H' := zM H
         clear H
         try go_wp2
         have n0_ := zM (Kd.R_drew HO_5.out)
         have n1_ := zM (blk_drew BK133.out)
         have n2_ := zM (below_drew1 HB.out)
         clear HO_5
         clear BK133
         clear HB
         have HO_5 := n0_
         have BK133 := n1_
         have HB := n2_
         clear n0_ n1_ n2_
         have p144 : 0 ≤ (x6_2 : Int) := zD
         have q144 : x6_2 < (l0.length : Int) := zD
         obtain ⟨ad144, e144, hx144_0, hx144_1⟩ := at_T26 HR0.out x6_2 p144 q144
         have hw144_1 := hx144_1
         have hw144_0 := hx144_0
         cases e144
         replace hx144_0 := (HB.out.cell (World.block_lt_of_cell? w _ hx144_0)).trans hx144_0
         replace hx144_1 := (HB.out.cell (World.block_lt_of_cell? w _ hx144_1)).trans hx144_1
         replace p144 := eq_true p144
         replace q144 := eq_true q144
         refine start_ (n := 8) (S := fun w' => w'.cell? ⟨gb133, 0, none⟩ = some (.int .i64 a1_0) ∧ w'.cell? ⟨gb133, 1, none⟩ = some (.int .i64 a1_1) ∧ w'.cell? (ad144.add ((x6_2).toNat * 2)) = some (.int .i64 ((rd_T26 l0 x6_2).f0)) ∧ w'.cell? ⟨(ad144.add ((x6_2).toNat * 2)).block, (ad144.add ((x6_2).toNat * 2)).off + 1, none⟩ = some (.int .i64 ((rd_T26 l0 x6_2).f1))) (ds := []) (ba 8 0).toArray (by kernel_rfl) rfl rfl ⟨(blk_cell BK133.out 0).trans rfl, (blk_cell BK133.out 1).trans rfl, ((HB.out.cell (World.block_lt_of_cell? w _ hw144_0)).trans hw144_0), ((HB.out.cell (World.block_lt_of_cell? w _ hw144_1)).trans hw144_1)⟩ (fun hHeld => ?_); refine with_tabW spec_AddSpan.tab7 spec_AddSpan.bits7 (fun HT_ HW_ => ?_)
         generalize wr.drew = w25 at HO_5 BK133 HB hx144_0 hx144_1 hHeld ⊢
         refine zq 0 (some 39) (ba 8 1).toArray HT_ ?_
         refine zq 1 (some 40) (ba 8 3).toArray HT_ ?_
         refine zq 2 (some 41) (ba 8 7).toArray HT_ ?_
         refine zq 3 (some 42) (ba 8 15).toArray HT_ ?_
         refine zq 5 (some 44) (ba 8 47).toArray HT_ ?_
         refine zt4 4 (some 43) (ba 8 63).toArray HT_ HW_ hHeld ?_
         refine zt4 6 (some 45) (ba 8 127).toArray HT_ HW_ hHeld ?_
         refine zq 7 (some 46) (ba 8 255).toArray HT_ ?_
         refine done_ (done_of HT_.out (by kernel_rfl)) ?_
         try go_wp2
         go_roundg k2
         case measure => have := HJ2.out; have := HK2.out; omega
         case rel => exact ⟨(x5_2), (wrap64 (x6_2 + 1)), zS, H', ⟨by have := HJ2.out; have := HK2.out; omega⟩, ⟨(zR HO_5.out)⟩, ⟨(zP BK133.out)⟩, ⟨(zB1 GE133.out HB.out)⟩⟩
       ·rw [if_neg c20] at H
        exact absurd H (by simp)
      ·rw [if_neg c19] at H
       have c19b0 : decide (x6_2 < (l0.length : Int)) = false := decide_eq_false c19
       clear c19
       have H' := zM H
       clear H
       go_wp2
       go_loopg [7] k2 (fun kq v7 w' => ∃ (x7_3 : Int) (x134000_3 : Int) (x134001_3 : Int), v7 = .int .i64 x7_3 ∧ Aside0 (spec_AddSpan.l1 kq l0 x5_2 x7_3 x134000_3 x134001_3 = some r) ∧ Aside0 (kq ≤ k2) ∧ Aside0 (Kd.R k26 26 w' w.heap.size (fun k_ => k_ ≠ gb133) u5 x5_2) ∧ Aside0 (w'.heap[gb133]? = some (.cells #[.int .i64 x134000_3, .int .i64 x134001_3] 26 (0, 0))) ∧ Aside0 (Below w.heap.size w w'))
       case atStart => exact ⟨(0), (a1_0), (a1_1), zS, H', ⟨Nat.le_refl _⟩, ⟨(zR HO_5.out)⟩, ⟨(zP BK133.out)⟩, ⟨(zB1 GE133.out HB.out)⟩⟩
       case round =>
        clear H'
        try clear c1
        try clear p1
        try clear q1
        try clear hx1
        try clear c2
        try clear p2
        try clear c4
        try clear c6
        try clear p6
        try clear c7
        try clear c7b0
        try clear c9
        try clear c9b0
        try clear c11
        try clear c12
        try clear c13
        try clear p14
        try clear q14
        try clear hx14
        try clear c19
        try clear c19b0
        try clear c20
        try clear c20b0
        try clear c21
        try clear c21b0
        try clear c22
        try clear hcz10_0
        try clear hcz10_1
        try clear hcz11_0
        try clear hcz11_1
        try clear hcz8_0
        try clear hcz8_1
        try clear hfz10_0
        try clear hfz10_1
        try clear hfz11_0
        try clear hfz11_1
        try clear hfz8_0
        try clear hfz8_1
        try clear hx144_0
        try clear hx144_1
        try clear hx145_0
        try clear hx145_1
        try clear p144
        try clear p145
        try clear p2
        try clear q144
        try clear q145
        obtain ⟨x7_3, x134000_3, x134001_3, rfl, HA, HK3, HO_5, BK133, HB⟩ := hrel
        cases gk with
        | zero => exact absurd HA.out (by simp [spec_AddSpan.l1])
        | succ k3 =>
         have H := HA.out
         clear HA
         simp only [spec_AddSpan.l1] at H
         by_cases c26 : x7_3 < (l0.length : Int)
         ·rw [if_pos c26] at H
          have c26b0 : decide (x7_3 < (l0.length : Int)) = true := decide_eq_true c26
          clear c26
          have HC27 := zM H
          clear H
          go_upto_region 12 with (fail)
          go_cut [77] (fun v77 wc => ∃ (kq : Nat) (x77_26 : Bool), v77 = .bool x77_26 ∧ Aside0 (spec_AddSpan.j3 kq l0 x5_2 x7_3 x77_26 x134000_3 x134001_3 = some r) ∧ Aside0 (kq ≤ k3) ∧ Aside0 (Kd.R k26 26 wc w.heap.size (fun k_ => k_ ≠ gb133) u5 x5_2) ∧ Aside0 (wc.heap[gb133]? = some (.cells #[.int .i64 x134000_3, .int .i64 x134001_3] 26 (0, 0))) ∧ Aside0 (Below w.heap.size w wc))
          case first =>
           have H := HC27.out
           clear HC27
           by_cases c28 : 0 ≤ x7_3
           ·rw [if_pos c28] at H
            have c28b0 : decide (0 ≤ x7_3) = true := decide_eq_true c28
            clear c28
            (first | rw [c28b0] | (simp only [i64_w, i32_w]; rw [c28b0]) | skip)
            by_cases c29 : ((rd_T26 l0 x7_3).f1) ≥ x134000_3
            ·rw [if_pos c29] at H
             have c29b0 : decide (x134000_3 ≤ ((rd_T26 l0 x7_3).f1)) = true := decide_eq_true c29
             clear c29
             have H' := zM H
             clear H
             try go_wp2
             have n0_ := zM (Kd.R_drew HO_5.out)
             have n1_ := zM (blk_drew BK133.out)
             have n2_ := zM (below_drew1 HB.out)
             clear HO_5
             clear BK133
             clear HB
             have HO_5 := n0_
             have BK133 := n1_
             have HB := n2_
             clear n0_ n1_ n2_
             have p149 : 0 ≤ (x7_3 : Int) := zD
             have q149 : x7_3 < (l0.length : Int) := zD
             obtain ⟨ad149, e149, hx149_0, hx149_1⟩ := at_T26 HR0.out x7_3 p149 q149
             have hw149_1 := hx149_1
             have hw149_0 := hx149_0
             cases e149
             replace hx149_0 := (HB.out.cell (World.block_lt_of_cell? w _ hx149_0)).trans hx149_0
             replace hx149_1 := (HB.out.cell (World.block_lt_of_cell? w _ hx149_1)).trans hx149_1
             replace p149 := eq_true p149
             replace q149 := eq_true q149
             have p150 : 0 ≤ (x7_3 : Int) := zD
             have q150 : x7_3 < (l0.length : Int) := zD
             obtain ⟨ad150, e150, hx150_0, hx150_1⟩ := at_T26 HR0.out x7_3 p150 q150
             have hw150_1 := hx150_1
             have hw150_0 := hx150_0
             obtain rfl : ad149 = ad150 := (by injection e150)
             replace hx150_0 := (HB.out.cell (World.block_lt_of_cell? w _ hx150_0)).trans hx150_0
             replace hx150_1 := (HB.out.cell (World.block_lt_of_cell? w _ hx150_1)).trans hx150_1
             replace p150 := eq_true p150
             replace q150 := eq_true q150
             refine start_ (n := 18) (S := fun w' => w'.cell? ⟨gb133, 0, none⟩ = some (.int .i64 x134000_3) ∧ w'.cell? ⟨gb133, 1, none⟩ = some (.int .i64 x134001_3) ∧ w'.cell? (ad149.add ((x7_3).toNat * 2)) = some (.int .i64 ((rd_T26 l0 x7_3).f0)) ∧ w'.cell? ⟨(ad149.add ((x7_3).toNat * 2)).block, (ad149.add ((x7_3).toNat * 2)).off + 1, none⟩ = some (.int .i64 ((rd_T26 l0 x7_3).f1)) ∧ w'.cell? (ad149.add ((x7_3).toNat * 2)) = some (.int .i64 ((rd_T26 l0 x7_3).f0)) ∧ w'.cell? ⟨(ad149.add ((x7_3).toNat * 2)).block, (ad149.add ((x7_3).toNat * 2)).off + 1, none⟩ = some (.int .i64 ((rd_T26 l0 x7_3).f1))) (ds := []) (ba 18 0).toArray (by kernel_rfl) rfl rfl ⟨(blk_cell BK133.out 0).trans rfl, (blk_cell BK133.out 1).trans rfl, ((HB.out.cell (World.block_lt_of_cell? w _ hw149_0)).trans hw149_0), ((HB.out.cell (World.block_lt_of_cell? w _ hw149_1)).trans hw149_1), ((HB.out.cell (World.block_lt_of_cell? w _ hw150_0)).trans hw150_0), ((HB.out.cell (World.block_lt_of_cell? w _ hw150_1)).trans hw150_1)⟩ (fun hHeld => ?_); refine with_tabW spec_AddSpan.tab12 spec_AddSpan.bits12 (fun HT_ HW_ => ?_)
             generalize wr.drew = w30 at HO_5 BK133 HB hx149_0 hx149_1 hx150_0 hx150_1 hHeld ⊢
             refine zq 0 (some 60) (ba 18 1).toArray HT_ ?_
             refine zq 1 (some 61) (ba 18 3).toArray HT_ ?_
             refine zq 2 (some 62) (ba 18 7).toArray HT_ ?_
             refine zq 3 (some 63) (ba 18 15).toArray HT_ ?_
             refine zq 5 (some 65) (ba 18 47).toArray HT_ ?_
             refine zt6 4 (some 64) (ba 18 63).toArray HT_ HW_ hHeld ?_
             refine zt6 6 (some 66) (ba 18 127).toArray HT_ HW_ hHeld ?_
             refine zq 7 (some 67) (ba 18 255).toArray HT_ ?_
             refine zq 8 (some 68) (ba 18 511).toArray HT_ ?_
             refine zq 9 (some 69) (ba 18 1023).toArray HT_ ?_
             refine zq 10 (some 70) (ba 18 2047).toArray HT_ ?_
             refine zq 11 (some 71) (ba 18 4095).toArray HT_ ?_
             refine zq 12 (some 72) (ba 18 8191).toArray HT_ ?_
             refine zq 14 (some 74) (ba 18 24575).toArray HT_ ?_
             refine zt6 13 (some 73) (ba 18 32767).toArray HT_ HW_ hHeld ?_
             refine zt6 15 (some 75) (ba 18 65535).toArray HT_ HW_ hHeld ?_
             refine zq 16 (some 76) (ba 18 131071).toArray HT_ ?_
             refine zq 17 (some 77) (ba 18 262143).toArray HT_ ?_
             refine done_ (done_of HT_.out (by kernel_rfl)) ?_
             try go_wp2
             go_meet
             case rel => exact ⟨_, (decide (((rd_T26 l0 x7_3).f0) ≤ x134001_3)), zS, H', ⟨by have := HJ2.out; have := HK2.out; have := HK3.out; first | omega | exact Nat.le_refl _⟩, ⟨(zR HO_5.out)⟩, ⟨(zP BK133.out)⟩, ⟨(zB1 GE133.out HB.out)⟩⟩
            ·rw [if_neg c29] at H
             have c29b0 : decide (x134000_3 ≤ ((rd_T26 l0 x7_3).f1)) = false := decide_eq_false c29
             clear c29
             have H' := zM H
             clear H
             try go_wp2
             have n0_ := zM (Kd.R_drew HO_5.out)
             have n1_ := zM (blk_drew BK133.out)
             have n2_ := zM (below_drew1 HB.out)
             clear HO_5
             clear BK133
             clear HB
             have HO_5 := n0_
             have BK133 := n1_
             have HB := n2_
             clear n0_ n1_ n2_
             have p149 : 0 ≤ (x7_3 : Int) := zD
             have q149 : x7_3 < (l0.length : Int) := zD
             obtain ⟨ad149, e149, hx149_0, hx149_1⟩ := at_T26 HR0.out x7_3 p149 q149
             have hw149_1 := hx149_1
             have hw149_0 := hx149_0
             cases e149
             replace hx149_0 := (HB.out.cell (World.block_lt_of_cell? w _ hx149_0)).trans hx149_0
             replace hx149_1 := (HB.out.cell (World.block_lt_of_cell? w _ hx149_1)).trans hx149_1
             replace p149 := eq_true p149
             replace q149 := eq_true q149
             refine start_ (n := 18) (S := fun w' => w'.cell? ⟨gb133, 0, none⟩ = some (.int .i64 x134000_3) ∧ w'.cell? ⟨gb133, 1, none⟩ = some (.int .i64 x134001_3) ∧ w'.cell? (ad149.add ((x7_3).toNat * 2)) = some (.int .i64 ((rd_T26 l0 x7_3).f0)) ∧ w'.cell? ⟨(ad149.add ((x7_3).toNat * 2)).block, (ad149.add ((x7_3).toNat * 2)).off + 1, none⟩ = some (.int .i64 ((rd_T26 l0 x7_3).f1))) (ds := []) (ba 18 0).toArray (by kernel_rfl) rfl rfl ⟨(blk_cell BK133.out 0).trans rfl, (blk_cell BK133.out 1).trans rfl, ((HB.out.cell (World.block_lt_of_cell? w _ hw149_0)).trans hw149_0), ((HB.out.cell (World.block_lt_of_cell? w _ hw149_1)).trans hw149_1)⟩ (fun hHeld => ?_); refine with_tabW spec_AddSpan.tab12 spec_AddSpan.bits12 (fun HT_ HW_ => ?_)
             generalize wr.drew = w31 at HO_5 BK133 HB hx149_0 hx149_1 hHeld ⊢
             refine zq 0 (some 60) (ba 18 1).toArray HT_ ?_
             refine zq 1 (some 61) (ba 18 3).toArray HT_ ?_
             refine zq 2 (some 62) (ba 18 7).toArray HT_ ?_
             refine zq 3 (some 63) (ba 18 15).toArray HT_ ?_
             refine zq 5 (some 65) (ba 18 47).toArray HT_ ?_
             refine zt4 4 (some 64) (ba 18 63).toArray HT_ HW_ hHeld ?_
             refine zt4 6 (some 66) (ba 18 127).toArray HT_ HW_ hHeld ?_
             refine zq 7 (some 67) (ba 18 255).toArray HT_ ?_
             refine zq 8 (some 68) (ba 18 511).toArray HT_ ?_
             refine zu 9 (some 69) (ba 18 1023).toArray HT_ ?_
             refine zu 10 (some 70) (ba 18 2047).toArray HT_ ?_
             refine zu 11 (some 71) (ba 18 4095).toArray HT_ ?_
             refine zu 12 (some 72) (ba 18 8191).toArray HT_ ?_
             refine zu 13 (some 73) (ba 18 16383).toArray HT_ ?_
             refine zu 14 (some 74) (ba 18 32767).toArray HT_ ?_
             refine zu 15 (some 75) (ba 18 65535).toArray HT_ ?_
             refine zu 16 (some 76) (ba 18 131071).toArray HT_ ?_
             refine zq 17 (some 77) (ba 18 262143).toArray HT_ ?_
             refine done_ (done_of HT_.out (by kernel_rfl)) ?_
             try go_wp2
             go_meet
             case rel => exact ⟨_, (false), zS, H', ⟨by have := HJ2.out; have := HK2.out; have := HK3.out; first | omega | exact Nat.le_refl _⟩, ⟨(zR HO_5.out)⟩, ⟨(zP BK133.out)⟩, ⟨(zB1 GE133.out HB.out)⟩⟩
           ·rw [if_neg c28] at H
            exact absurd H (by simp)
          case rest =>
           clear HC27
           try clear c1
           try clear p1
           try clear q1
           try clear hx1
           try clear c2
           try clear p2
           try clear c4
           try clear c6
           try clear p6
           try clear c7
           try clear c7b0
           try clear c9
           try clear c9b0
           try clear c11
           try clear c12
           try clear c13
           try clear p14
           try clear q14
           try clear hx14
           try clear p15
           try clear q15
           try clear hx15
           try clear c19
           try clear c19b0
           try clear c20
           try clear c20b0
           try clear c21
           try clear c21b0
           try clear c22
           try clear c26
           try clear c26b0
           try clear c28
           try clear c28b0
           try clear c29
           try clear c29b0
           try clear hcz10_0
           try clear hcz10_1
           try clear hcz11_0
           try clear hcz11_1
           try clear hcz8_0
           try clear hcz8_1
           try clear hfz10_0
           try clear hfz10_1
           try clear hfz11_0
           try clear hfz11_1
           try clear hfz8_0
           try clear hfz8_1
           try clear hx144_0
           try clear hx144_1
           try clear hx145_0
           try clear hx145_1
           try clear hx149_0
           try clear hx149_1
           try clear hx150_0
           try clear hx150_1
           try clear p1
           try clear p14
           try clear p144
           try clear p145
           try clear p149
           try clear p150
           try clear p2
           try clear p6
           try clear q1
           try clear q14
           try clear q144
           try clear q145
           try clear q149
           try clear q150
           obtain ⟨kq, x77_26, rfl, HA, HJ26, HO_5, BK133, HB⟩ := hcut
           cases kq with
           | zero => exact absurd HA.out (by simp [spec_AddSpan.j3])
           | succ kj26 =>
            have H := HA.out
            clear HA
            simp only [spec_AddSpan.j3] at H
            by_cases c32 : x77_26 = true
            ·subst c32
             rw [if_pos rfl] at H
             by_cases c33 : 0 ≤ x7_3
             ·rw [if_pos c33] at H
              have c33b0 : decide (0 ≤ x7_3) = true := decide_eq_true c33
              clear c33
              by_cases c34 : x7_3 < (l0.length : Int)
              ·rw [if_pos c34] at H
               have c34b0 : decide (x7_3 < (l0.length : Int)) = true := decide_eq_true c34
               clear c34
               replace H := Option.bind_eq_some_iff.mp H
               obtain ⟨t152, A350, H⟩ := H
               try dsimp only at H
               have A35 := zM A350
               clear A350
               replace H := Option.bind_eq_some_iff.mp H
               obtain ⟨t154, A360, H⟩ := H
               try dsimp only at H
               have A36 := zM A360
               clear A360
               have H' := zM H
               clear H
               try go_wp2
               have n0_ := zM (Kd.R_drew HO_5.out)
               have n1_ := zM (blk_drew BK133.out)
               have n2_ := zM (below_drew1 HB.out)
               clear HO_5
               clear BK133
               clear HB
               have HO_5 := n0_
               have BK133 := n1_
               have HB := n2_
               clear n0_ n1_ n2_
               have p151 : 0 ≤ (x7_3 : Int) := zD
               have q151 : x7_3 < (l0.length : Int) := zD
               obtain ⟨ad151, e151, hx151_0, hx151_1⟩ := at_T26 HR0.out x7_3 p151 q151
               have hw151_1 := hx151_1
               have hw151_0 := hx151_0
               cases e151
               replace hx151_0 := (HB.out.cell (World.block_lt_of_cell? w _ hx151_0)).trans hx151_0
               replace hx151_1 := (HB.out.cell (World.block_lt_of_cell? w _ hx151_1)).trans hx151_1
               replace p151 := eq_true p151
               replace q151 := eq_true q151
               have p153 : 0 ≤ (x7_3 : Int) := zD
               have q153 : x7_3 < (l0.length : Int) := zD
               obtain ⟨ad153, e153, hx153_0, hx153_1⟩ := at_T26 HR0.out x7_3 p153 q153
               have hw153_1 := hx153_1
               have hw153_0 := hx153_0
               obtain rfl : ad151 = ad153 := (by injection e153)
               replace hx153_0 := (HB.out.cell (World.block_lt_of_cell? w _ hx153_0)).trans hx153_0
               replace hx153_1 := (HB.out.cell (World.block_lt_of_cell? w _ hx153_1)).trans hx153_1
               replace p153 := eq_true p153
               replace q153 := eq_true q153
               refine start_ (n := 18) (S := fun w' => w'.cell? ⟨gb133, 0, none⟩ = some (.int .i64 x134000_3) ∧ w'.cell? ⟨gb133, 1, none⟩ = some (.int .i64 x134001_3) ∧ w'.cell? (ad151.add ((x7_3).toNat * 2)) = some (.int .i64 ((rd_T26 l0 x7_3).f0)) ∧ w'.cell? ⟨(ad151.add ((x7_3).toNat * 2)).block, (ad151.add ((x7_3).toNat * 2)).off + 1, none⟩ = some (.int .i64 ((rd_T26 l0 x7_3).f1)) ∧ w'.cell? (ad151.add ((x7_3).toNat * 2)) = some (.int .i64 ((rd_T26 l0 x7_3).f0)) ∧ w'.cell? ⟨(ad151.add ((x7_3).toNat * 2)).block, (ad151.add ((x7_3).toNat * 2)).off + 1, none⟩ = some (.int .i64 ((rd_T26 l0 x7_3).f1))) (ds := [17]) (ba 18 0).toArray (by kernel_rfl) rfl rfl ⟨(blk_cell BK133.out 0).trans rfl, (blk_cell BK133.out 1).trans rfl, ((HB.out.cell (World.block_lt_of_cell? w _ hw151_0)).trans hw151_0), ((HB.out.cell (World.block_lt_of_cell? w _ hw151_1)).trans hw151_1), ((HB.out.cell (World.block_lt_of_cell? w _ hw153_0)).trans hw153_0), ((HB.out.cell (World.block_lt_of_cell? w _ hw153_1)).trans hw153_1)⟩ (fun hHeld => ?_); refine with_tabW spec_AddSpan.tab13 spec_AddSpan.bits13 (fun HT_ HW_ => ?_)
               generalize wc.drew = w37 at HO_5 BK133 HB hx151_0 hx151_1 hx153_0 hx153_1 hHeld ⊢
               refine zq 0 (some 78) (ba 18 1).toArray HT_ ?_
               refine zq 2 (some 80) (ba 18 5).toArray HT_ ?_
               refine zq 3 (some 81) (ba 18 13).toArray HT_ ?_
               refine zq 4 (some 82) (ba 18 29).toArray HT_ ?_
               refine zq 5 (some 83) (ba 18 61).toArray HT_ ?_
               refine zq 8 (some 86) (ba 18 317).toArray HT_ ?_
               refine zq 10 (some 88) (ba 18 1341).toArray HT_ ?_
               refine zq 11 (some 89) (ba 18 3389).toArray HT_ ?_
               refine zq 12 (some 90) (ba 18 7485).toArray HT_ ?_
               refine zq 13 (some 91) (ba 18 15677).toArray HT_ ?_
               refine zt6 1 (some 79) (ba 18 15679).toArray HT_ HW_ hHeld ?_
               refine zt6 6 (some 84) (ba 18 15743).toArray HT_ HW_ hHeld ?_
               refine zt6 9 (some 87) (ba 18 16255).toArray HT_ HW_ hHeld ?_
               refine zt6 14 (some 92) (ba 18 32639).toArray HT_ HW_ hHeld ?_
               refine one_ (i := 7) (N := some 85) (ba 18 32767).toArray rfl rfl (one_of HT_.out (by kernel_rfl)) (by decide) (fun K hK => ?_)
               refine goes_ Try.func55 (by kernel_rfl) rfl #[.int .i64 x134000_3, .int .i64 ((rd_T26 l0 x7_3).f0)] (by rfl) rfl rfl (by (try simp only [List.map_toArray, List.map_cons, List.map_nil]); first | done | rfl | (simp only [List.length_drop, List.length_take]; rfl)) ?_
               with_reducible refine (spec_Min.calls x134000_3 ((rd_T26 l0 x7_3).f0) t152 _ A35.out).mono ?_
               rintro e w' ⟨rfl, ⟨nd, rfl⟩⟩
               refine ⟨_, rfl, ?_⟩
               refine hK.out _ _ ⟨(blk_cell BK133.out 0).trans rfl, (blk_cell BK133.out 1).trans rfl, ((HB.out.cell (World.block_lt_of_cell? w _ hw151_0)).trans hw151_0), ((HB.out.cell (World.block_lt_of_cell? w _ hw151_1)).trans hw151_1), ((HB.out.cell (World.block_lt_of_cell? w _ hw153_0)).trans hw153_0), ((HB.out.cell (World.block_lt_of_cell? w _ hw153_1)).trans hw153_1)⟩ (fun hHeld => ?_)
               clear hK K
               refine norm_ (a' := ?_) ?_ ?_
               rotate_left
               ·show Act.put _ (some 85) _ = _
                simp only [Act.put, List.setIfInBounds_toArray, List.set_cons_zero, List.set_cons_succ, i64_w, i32_w]
                rfl
               refine one_ (i := 15) (N := some 93) (ba 18 65535).toArray rfl rfl (one_of HT_.out (by kernel_rfl)) (by decide) (fun K hK => ?_)
               refine goes_ Try.func56 (by kernel_rfl) rfl #[.int .i64 x134001_3, .int .i64 ((rd_T26 l0 x7_3).f1)] (by rfl) rfl rfl (by (try simp only [List.map_toArray, List.map_cons, List.map_nil]); first | done | rfl | (simp only [List.length_drop, List.length_take]; rfl)) ?_
               with_reducible refine (spec_Max.calls x134001_3 ((rd_T26 l0 x7_3).f1) t154 _ A36.out).mono ?_
               rintro e w' ⟨rfl, ⟨nd, rfl⟩⟩
               refine ⟨_, rfl, ?_⟩
               refine hK.out _ _ ⟨(blk_cell BK133.out 0).trans rfl, (blk_cell BK133.out 1).trans rfl, ((HB.out.cell (World.block_lt_of_cell? w _ hw151_0)).trans hw151_0), ((HB.out.cell (World.block_lt_of_cell? w _ hw151_1)).trans hw151_1), ((HB.out.cell (World.block_lt_of_cell? w _ hw153_0)).trans hw153_0), ((HB.out.cell (World.block_lt_of_cell? w _ hw153_1)).trans hw153_1)⟩ (fun hHeld => ?_)
               clear hK K
               refine norm_ (a' := ?_) ?_ ?_
               rotate_left
               ·show Act.put _ (some 93) _ = _
                simp only [Act.put, List.setIfInBounds_toArray, List.set_cons_zero, List.set_cons_succ, i64_w, i32_w]
                rfl
               refine zq 16 (some 94) (ba 18 131071).toArray HT_ ?_
               refine last_ (i := 17) (N := none) (ba 18 262143).toArray rfl rfl (one_of HT_.out (by kernel_rfl)) (by decide) (fun K hK => ?_)
               have hs38 : w37.cell? ⟨gb133, 0, none⟩ = some (.int .i64 x134000_3) := (blk_cell BK133.out 0).trans rfl
               have hfs38 := blk_frozen BK133.out 0
               have hs39 : w37.cell? ⟨gb133, 1, none⟩ = some (.int .i64 x134001_3) := (blk_cell BK133.out 1).trans rfl
               have hfs39 := blk_frozen BK133.out 1
               refine skip_ (w1 := ?_) (by rfl) rfl ?_ ?_
               rotate_left
               ·go_simp
                rfl
               refine hK.out _ _ ?_
               clear hK K
               refine done_ (done_of HT_.out (by kernel_rfl)) ?_
               try go_wp2
               go_roundg kj26
               case measure => have := HJ2.out; have := HK2.out; have := HK3.out; have := HJ26.out; omega
               case rel => exact ⟨(wrap64 (x7_3 + 1)), (t152), (t154), zS, H', ⟨by have := HJ2.out; have := HK2.out; have := HK3.out; have := HJ26.out; omega⟩, ⟨by (with_reducible repeat (first | apply Kd.R_alloc | apply Kd.R_drewN | apply Kd.R_drew)); exact Kd.R_mono (Kd.R_far (p := ⟨gb133, 1, none⟩) (Kd.R_far (p := ⟨gb133, 0, none⟩) (Kd.R_mono HO_5.out (fun k_ hk => (⟨hk, hk⟩ : _ ∧ k_ ≠ gb133))) (fun _ hk => hk.2) (.int .i64 t152)) (fun _ hk => hk.2) (.int .i64 t154)) (fun _ hk => hk.1)⟩, ⟨by (with_reducible repeat (first | refine blk_drewN ?_ _ | refine blk_drew ?_ | refine blk_alloc ?_ _)); refine blk_put (cs := #[.int .i64 t152, .int .i64 x134001_3]) ?_ 1 _ rfl; (with_reducible repeat (first | refine blk_drewN ?_ _ | refine blk_drew ?_ | refine blk_alloc ?_ _)); refine blk_put (cs := #[.int .i64 x134000_3, .int .i64 x134001_3]) ?_ 0 _ rfl; (with_reducible repeat (first | refine blk_drewN ?_ _ | refine blk_drew ?_ | refine blk_alloc ?_ _)); exact BK133.out⟩, ⟨(zB1 GE133.out HB.out)⟩⟩
              ·rw [if_neg c34] at H
               exact absurd H (by simp)
             ·rw [if_neg c33] at H
              exact absurd H (by simp)
            ·replace c32 := Bool.eq_false_iff.mpr c32
             subst c32
             rw [if_neg (show ¬ (false = true) by decide)] at H
             have H' := zM H
             clear H
             go_wp2
             go_roundg kj26
             case measure => have := HJ2.out; have := HK2.out; have := HK3.out; have := HJ26.out; omega
             case rel => exact ⟨(wrap64 (x7_3 + 1)), (x134000_3), (x134001_3), zS, H', ⟨by have := HJ2.out; have := HK2.out; have := HK3.out; have := HJ26.out; omega⟩, ⟨(zR HO_5.out)⟩, ⟨(zP BK133.out)⟩, ⟨(zB1 GE133.out HB.out)⟩⟩
         ·rw [if_neg c26] at H
          have c26b0 : decide (x7_3 < (l0.length : Int)) = false := decide_eq_false c26
          clear c26
          by_cases c40 : x5_2.length < 8796093022208
          ·rw [if_pos c40] at H
           have LMc40 := zM c40
           clear c40
           obtain ⟨y155, hy155⟩ : ∃ y_ : List (S26), y_ = (x5_2 ++ [(⟨x134000_3, x134001_3⟩ : S26)]) := ⟨_, rfl⟩
           replace H : (spec_AddSpan.l2 k3 l0 y155 0 x134000_3 x134001_3) = some r := zH hy155 H
           have Ny155 := zM hy155
           clear hy155
           have H' := zM H
           clear H
           have hcz41_0 : wr.cell? ⟨gb133, 0, none⟩ = some (.int .i64 x134000_3) := (blk_cell BK133.out 0).trans rfl
           have hcz41_1 : wr.cell? ⟨gb133, 1, none⟩ = some (.int .i64 x134001_3) := (blk_cell BK133.out 1).trans rfl
           have hfz41_0 := blk_frozen BK133.out 0
           have hfz41_1 := blk_frozen BK133.out 1
           go_wp2_with (first | ((with_reducible refine gate_builtin (b := .append) (xs := #[.tmp 95, .tmp 97]) rfl ?_); at_builtin; refine Kd.R_append k26 (w0 := w) w.heap.size rfl (.tmp 95) (.tmp 97) 24 26 (.agg #[(.int .i64 0), (.int .i64 0)]) 16 rfl Try.underlying24 info26 rfl (by decide) (by omega) u5 x5_2 (⟨x134000_3, x134001_3⟩ : S26) [.int .i64 x134000_3, .int .i64 x134001_3] (fun k_ => k_ ≠ gb133) (fun _ => False) rfl rfl ?aP (fun _ hk => hk.elim) ?aF ?aO ?aB ?aS ?aL ?_; (case aP => exact k26_mkM _ _ _ (⟨x134000_3, x134001_3⟩ : S26)); (case aB => exact (zB1 GE133.out HB.out)); (case aF => exact (fun k_ hk => Kd.freshB (g := gb133) (o := .cells #[.int .i64 x134000_3, .int .i64 x134001_3] 26 (0, 0)) (zP BK133.out) k_ hk)); (case aO => exact (zR HO_5.out)); (case aS => exact (below_size (zB1 GE133.out HB.out))); (case aL => have := LMc40.out; omega); intro v156 w42 ho hb hg hat; rw [← Ny155.out] at ho; have n0_ := zM (blk_grown (g := gb133) (o := .cells #[.int .i64 x134000_3, .int .i64 x134001_3] 26 (0, 0)) (zP BK133.out) hg (Kd.R_away HO_5.out (fun _ hk => hk))); have n1_ := zM (hb); have n2_ := zM (ho); clear BK133; clear HB; clear HO_5; have BK133 := n0_; have HB := n1_; have HO157 := n2_; clear n0_ n1_ n2_; clear ho hb hg hat))
           go_loopg [5, 8] k3 (fun kq v5 v8 w' => ∃ (x5_4 : List (S26)) (x8_4 : Int), v8 = .int .i64 x8_4 ∧ Aside0 (spec_AddSpan.l2 kq l0 x5_4 x8_4 x134000_3 x134001_3 = some r) ∧ Aside0 (kq ≤ k3) ∧ Aside0 (Kd.R k26 26 w' w.heap.size (fun k_ => k_ ≠ gb133) v5 x5_4) ∧ Aside0 (w'.heap[gb133]? = some (.cells #[.int .i64 x134000_3, .int .i64 x134001_3] 26 (0, 0))) ∧ Aside0 (Below w.heap.size w w'))
           case atStart => exact ⟨(y155), (0), zS, H', ⟨Nat.le_refl _⟩, ⟨(zR HO157.out)⟩, ⟨(zP BK133.out)⟩, ⟨(zB1 GE133.out HB.out)⟩⟩
           case round =>
            clear H'
            try clear c1
            try clear p1
            try clear q1
            try clear hx1
            try clear c2
            try clear p2
            try clear c3
            try clear c4
            try clear c5
            try clear c6
            try clear p6
            try clear c7
            try clear c7b0
            try clear c9
            try clear c9b0
            try clear c11
            try clear c12
            try clear c13
            try clear p14
            try clear q14
            try clear hx14
            try clear p15
            try clear q15
            try clear hx15
            try clear c19
            try clear c19b0
            try clear c20
            try clear c20b0
            try clear c21
            try clear c21b0
            try clear c22
            try clear c26
            try clear c26b0
            try clear c28
            try clear c28b0
            try clear c29
            try clear c29b0
            try clear c32
            try clear c33
            try clear c33b0
            try clear c34
            try clear c34b0
            try clear c40
            try clear hcz10_0
            try clear hcz10_1
            try clear hcz11_0
            try clear hcz11_1
            try clear hcz41_0
            try clear hcz41_1
            try clear hcz8_0
            try clear hcz8_1
            try clear hfz10_0
            try clear hfz10_1
            try clear hfz11_0
            try clear hfz11_1
            try clear hfz41_0
            try clear hfz41_1
            try clear hfz8_0
            try clear hfz8_1
            try clear hx144_0
            try clear hx144_1
            try clear hx145_0
            try clear hx145_1
            try clear hx149_0
            try clear hx149_1
            try clear hx150_0
            try clear hx150_1
            try clear hx151_0
            try clear hx151_1
            try clear hx153_0
            try clear hx153_1
            try clear p1
            try clear p14
            try clear p144
            try clear p145
            try clear p149
            try clear p15
            try clear p150
            try clear p151
            try clear p153
            try clear p2
            try clear p6
            try clear q1
            try clear q14
            try clear q144
            try clear q145
            try clear q149
            try clear q15
            try clear q150
            try clear q151
            try clear q153
            obtain ⟨x5_4, x8_4, rfl, HA, HK4, HO_5, BK133, HB⟩ := hrel
            cases gk with
            | zero => exact absurd HA.out (by simp [spec_AddSpan.l2])
            | succ k4 =>
             have H := HA.out
             clear HA
             simp only [spec_AddSpan.l2] at H
             by_cases c43 : x8_4 < (l0.length : Int)
             ·rw [if_pos c43] at H
              have c43b0 : decide (x8_4 < (l0.length : Int)) = true := decide_eq_true c43
              clear c43
              by_cases c44 : 0 ≤ x8_4
              ·rw [if_pos c44] at H
               have c44b0 : decide (0 ≤ x8_4) = true := decide_eq_true c44
               clear c44
               by_cases c45 : ((rd_T26 l0 x8_4).f0) > x134001_3
               ·rw [if_pos c45] at H
                have c45b0 : decide (x134001_3 < ((rd_T26 l0 x8_4).f0)) = true := decide_eq_true c45
                clear c45
                by_cases c46 : x5_4.length < 8796093022208
                ·rw [if_pos c46] at H
                 have LMc46 := zM c46
                 clear c46
                 obtain ⟨y160, hy160⟩ : ∃ y_ : List (S26), y_ = (x5_4 ++ [(⟨(rd_T26 l0 x8_4).f0, (rd_T26 l0 x8_4).f1⟩ : S26)]) := ⟨_, rfl⟩
                 replace H : (spec_AddSpan.l2 k4 l0 y160 (wrap64 (x8_4 + 1)) x134000_3 x134001_3) = some r := zH hy160 H
                 have Ny160 := zM hy160
                 clear hy160
                 have H' := zM H
                 clear H
                 try go_wp2
                 have n0_ := zM (Kd.R_drew HO_5.out)
                 have n1_ := zM (blk_drew BK133.out)
                 have n2_ := zM (below_drew1 HB.out)
                 clear HO_5
                 clear BK133
                 clear HB
                 have HO_5 := n0_
                 have BK133 := n1_
                 have HB := n2_
                 clear n0_ n1_ n2_
                 have p158 : 0 ≤ (x8_4 : Int) := zD
                 have q158 : x8_4 < (l0.length : Int) := zD
                 obtain ⟨ad158, e158, hx158_0, hx158_1⟩ := at_T26 HR0.out x8_4 p158 q158
                 have hw158_1 := hx158_1
                 have hw158_0 := hx158_0
                 cases e158
                 replace hx158_0 := (HB.out.cell (World.block_lt_of_cell? w _ hx158_0)).trans hx158_0
                 replace hx158_1 := (HB.out.cell (World.block_lt_of_cell? w _ hx158_1)).trans hx158_1
                 replace p158 := eq_true p158
                 replace q158 := eq_true q158
                 refine start_ (n := 8) (S := fun w' => w'.cell? ⟨gb133, 0, none⟩ = some (.int .i64 x134000_3) ∧ w'.cell? ⟨gb133, 1, none⟩ = some (.int .i64 x134001_3) ∧ w'.cell? (ad158.add ((x8_4).toNat * 2)) = some (.int .i64 ((rd_T26 l0 x8_4).f0)) ∧ w'.cell? ⟨(ad158.add ((x8_4).toNat * 2)).block, (ad158.add ((x8_4).toNat * 2)).off + 1, none⟩ = some (.int .i64 ((rd_T26 l0 x8_4).f1))) (ds := []) (ba 8 0).toArray (by kernel_rfl) rfl rfl ⟨(blk_cell BK133.out 0).trans rfl, (blk_cell BK133.out 1).trans rfl, ((HB.out.cell (World.block_lt_of_cell? w _ hw158_0)).trans hw158_0), ((HB.out.cell (World.block_lt_of_cell? w _ hw158_1)).trans hw158_1)⟩ (fun hHeld => ?_); refine with_tabW spec_AddSpan.tab18 spec_AddSpan.bits18 (fun HT_ HW_ => ?_)
                 generalize wr.drew = w47 at HO_5 BK133 HB hx158_0 hx158_1 hHeld ⊢
                 refine zq 0 (some 105) (ba 8 1).toArray HT_ ?_
                 refine zq 1 (some 106) (ba 8 3).toArray HT_ ?_
                 refine zq 2 (some 107) (ba 8 7).toArray HT_ ?_
                 refine zq 3 (some 108) (ba 8 15).toArray HT_ ?_
                 refine zq 5 (some 110) (ba 8 47).toArray HT_ ?_
                 refine zt4 4 (some 109) (ba 8 63).toArray HT_ HW_ hHeld ?_
                 refine zt4 6 (some 111) (ba 8 127).toArray HT_ HW_ hHeld ?_
                 refine zq 7 (some 112) (ba 8 255).toArray HT_ ?_
                 refine done_ (done_of HT_.out (by kernel_rfl)) ?_
                 have p159 : 0 ≤ (x8_4 : Int) := zD
                 have q159 : x8_4 < (l0.length : Int) := zD
                 obtain ⟨ad159, e159, hx159_0, hx159_1⟩ := at_T26 HR0.out x8_4 p159 q159
                 obtain rfl : ad158 = ad159 := (by injection e159)
                 replace hx159_0 := (HB.out.cell (World.block_lt_of_cell? w _ hx159_0)).trans hx159_0
                 replace hx159_1 := (HB.out.cell (World.block_lt_of_cell? w _ hx159_1)).trans hx159_1
                 replace p159 := eq_true p159
                 replace q159 := eq_true q159
                 try go_wp2_with (first | ((with_reducible refine gate_builtin (b := .append) (xs := #[.tmp 113, .tmp 118]) rfl ?_); at_builtin; refine Kd.R_append k26 (w0 := w) w.heap.size rfl (.tmp 113) (.tmp 118) 24 26 (.agg #[(.int .i64 0), (.int .i64 0)]) 16 rfl Try.underlying24 info26 rfl (by decide) (by omega) u5 x5_4 (⟨(rd_T26 l0 x8_4).f0, (rd_T26 l0 x8_4).f1⟩ : S26) [.int .i64 ((rd_T26 l0 x8_4).f0), .int .i64 ((rd_T26 l0 x8_4).f1)] (fun k_ => k_ ≠ gb133) (fun _ => False) rfl rfl ?aP (fun _ hk => hk.elim) ?aF ?aO ?aB ?aS ?aL ?_; (case aP => exact k26_mkM _ _ _ (⟨(rd_T26 l0 x8_4).f0, (rd_T26 l0 x8_4).f1⟩ : S26)); (case aB => exact (zB1 GE133.out HB.out)); (case aF => exact (fun k_ hk => Kd.freshB (g := gb133) (o := .cells #[.int .i64 x134000_3, .int .i64 x134001_3] 26 (0, 0)) (zP BK133.out) k_ hk)); (case aO => exact (zR HO_5.out)); (case aS => exact (below_size (zB1 GE133.out HB.out))); (case aL => have := LMc46.out; omega); intro v161 w48 ho hb hg hat; rw [← Ny160.out] at ho; have n0_ := zM (blk_grown (g := gb133) (o := .cells #[.int .i64 x134000_3, .int .i64 x134001_3] 26 (0, 0)) (zP BK133.out) hg (Kd.R_away HO_5.out (fun _ hk => hk))); have n1_ := zM (hb); have n2_ := zM (ho); clear BK133; clear HB; clear HO_5; have BK133 := n0_; have HB := n1_; have HO162 := n2_; clear n0_ n1_ n2_; clear ho hb hg hat))
                 go_roundg k4
                 case measure => have := HJ2.out; have := HK2.out; have := HK3.out; have := HK4.out; omega
                 case rel => exact ⟨(y160), (wrap64 (x8_4 + 1)), zS, H', ⟨by have := HJ2.out; have := HK2.out; have := HK3.out; have := HK4.out; omega⟩, ⟨(zR HO162.out)⟩, ⟨(zP BK133.out)⟩, ⟨(zB1 GE133.out HB.out)⟩⟩
                ·rw [if_neg c46] at H
                 exact absurd H (by simp)
               ·rw [if_neg c45] at H
                have c45b0 : decide (x134001_3 < ((rd_T26 l0 x8_4).f0)) = false := decide_eq_false c45
                clear c45
                have H' := zM H
                clear H
                try go_wp2
                have n0_ := zM (Kd.R_drew HO_5.out)
                have n1_ := zM (blk_drew BK133.out)
                have n2_ := zM (below_drew1 HB.out)
                clear HO_5
                clear BK133
                clear HB
                have HO_5 := n0_
                have BK133 := n1_
                have HB := n2_
                clear n0_ n1_ n2_
                have p158 : 0 ≤ (x8_4 : Int) := zD
                have q158 : x8_4 < (l0.length : Int) := zD
                obtain ⟨ad158, e158, hx158_0, hx158_1⟩ := at_T26 HR0.out x8_4 p158 q158
                have hw158_1 := hx158_1
                have hw158_0 := hx158_0
                cases e158
                replace hx158_0 := (HB.out.cell (World.block_lt_of_cell? w _ hx158_0)).trans hx158_0
                replace hx158_1 := (HB.out.cell (World.block_lt_of_cell? w _ hx158_1)).trans hx158_1
                replace p158 := eq_true p158
                replace q158 := eq_true q158
                refine start_ (n := 8) (S := fun w' => w'.cell? ⟨gb133, 0, none⟩ = some (.int .i64 x134000_3) ∧ w'.cell? ⟨gb133, 1, none⟩ = some (.int .i64 x134001_3) ∧ w'.cell? (ad158.add ((x8_4).toNat * 2)) = some (.int .i64 ((rd_T26 l0 x8_4).f0)) ∧ w'.cell? ⟨(ad158.add ((x8_4).toNat * 2)).block, (ad158.add ((x8_4).toNat * 2)).off + 1, none⟩ = some (.int .i64 ((rd_T26 l0 x8_4).f1))) (ds := []) (ba 8 0).toArray (by kernel_rfl) rfl rfl ⟨(blk_cell BK133.out 0).trans rfl, (blk_cell BK133.out 1).trans rfl, ((HB.out.cell (World.block_lt_of_cell? w _ hw158_0)).trans hw158_0), ((HB.out.cell (World.block_lt_of_cell? w _ hw158_1)).trans hw158_1)⟩ (fun hHeld => ?_); refine with_tabW spec_AddSpan.tab18 spec_AddSpan.bits18 (fun HT_ HW_ => ?_)
                generalize wr.drew = w49 at HO_5 BK133 HB hx158_0 hx158_1 hHeld ⊢
                refine zq 0 (some 105) (ba 8 1).toArray HT_ ?_
                refine zq 1 (some 106) (ba 8 3).toArray HT_ ?_
                refine zq 2 (some 107) (ba 8 7).toArray HT_ ?_
                refine zq 3 (some 108) (ba 8 15).toArray HT_ ?_
                refine zq 5 (some 110) (ba 8 47).toArray HT_ ?_
                refine zt4 4 (some 109) (ba 8 63).toArray HT_ HW_ hHeld ?_
                refine zt4 6 (some 111) (ba 8 127).toArray HT_ HW_ hHeld ?_
                refine zq 7 (some 112) (ba 8 255).toArray HT_ ?_
                refine done_ (done_of HT_.out (by kernel_rfl)) ?_
                try go_wp2
                go_roundg k4
                case measure => have := HJ2.out; have := HK2.out; have := HK3.out; have := HK4.out; omega
                case rel => exact ⟨(x5_4), (wrap64 (x8_4 + 1)), zS, H', ⟨by have := HJ2.out; have := HK2.out; have := HK3.out; have := HK4.out; omega⟩, ⟨(zR HO_5.out)⟩, ⟨(zP BK133.out)⟩, ⟨(zB1 GE133.out HB.out)⟩⟩
              ·rw [if_neg c44] at H
               exact absurd H (by simp)
             ·rw [if_neg c43] at H
              have c43b0 : decide (x8_4 < (l0.length : Int)) = false := decide_eq_false c43
              clear c43
              obtain rfl := Option.some.inj H
              go_wp2
              go_ret
              exact ⟨_, zE, (zRm HO_5.out (fun _ hk => trivial)), (zB1 GE133.out HB.out)⟩
          ·rw [if_neg c40] at H
           exact absurd H (by simp)

end Go.Proofs.Yteahdfibipalkaa.G

namespace Go.Proofs.Yteahdfibipalkaa.G
open Go.RowKit Go.Proofs.YteahdfibipalkaaW.PrintWords Go.Proofs.YteahdfibipalkaaW.PrintLast Go.Proofs.YteahdfibipalkaaW.PrintMore
attribute [local go_sem] max2_int min2_int max_two min_two max_three min_three max_four min_four   -- for this text's walks alone
set_option linter.unusedVariables false
set_option linter.unusedSimpArgs false

/-! ### spec_l10Byte: function 42 -/
set_option maxHeartbeats 8000000 in
set_option maxRecDepth 100000 in
theorem spec_l10Byte.calls (k : Nat) (A0 : Option Addr) (c0 : Nat) (l0 : List (S44)) (a1 : Int) (r : Int) (w : World) (hr0 : Kd.C k44 w A0 l0.length l0) (hc0 : l0.length ≤ c0) (h : spec_l10Byte.f k l0 a1 = some r) :
  Calls Try.prog 42 #[.slice A0 l0.length c0, .int .i64 a1] w fun e w' => e = .returned (.int .i64 r) ∧ Drawn0 w w' := by
 have HR0 := zM hr0
 have HC0 := zM hc0
 clear hr0 hc0
 have H : (spec_l10Byte.l0 k l0 a1 0) = some r := h
 clear h
 have H' := zM H
 clear H
 go_enter Try.func42, Try.ntmps42
 go_wp2
 repeat (go_quiet (fail); try go_wp2)
 go_loopg [5] k (fun kq v5 w' => ∃ (x5_1 : Int), v5 = .int .i64 x5_1 ∧ Aside0 (spec_l10Byte.l0 kq l0 a1 x5_1 = some r) ∧ Aside0 (kq ≤ k) ∧ Drawn0 w w')
 case atStart => exact ⟨(0), zS, H', ⟨Nat.le_refl _⟩, zW⟩
 case round =>
  clear H'
  try clear p2
  obtain ⟨x5_1, rfl, HA, HK1, ⟨m1, rfl⟩⟩ := hrel
  cases gk with
  | zero => exact absurd HA.out (by simp [spec_l10Byte.l0])
  | succ k1 =>
   have H := HA.out
   clear HA
   simp only [spec_l10Byte.l0] at H
   by_cases c3 : x5_1 < (l0.length : Int)
   ·rw [if_pos c3] at H
    have c3b0 : decide (x5_1 < (l0.length : Int)) = true := decide_eq_true c3
    clear c3
    by_cases c4 : 0 ≤ x5_1
    ·rw [if_pos c4] at H
     have c4b0 : decide (0 ≤ x5_1) = true := decide_eq_true c4
     clear c4
     by_cases c5 : ((rd_T44 l0 x5_1).f0) ≤ a1
     ·rw [if_pos c5] at H
      have c5b0 : decide (((rd_T44 l0 x5_1).f0) ≤ a1) = true := decide_eq_true c5
      clear c5
      by_cases c6 : a1 < (wrap64 (((rd_T44 l0 x5_1).f0) + (((rd_T44 l0 x5_1).f1).size : Int)))
      ·rw [if_pos c6] at H
       have c6b0 : decide (a1 < (wrap64 (((rd_T44 l0 x5_1).f0) + (((rd_T44 l0 x5_1).f1).size : Int)))) = true := decide_eq_true c6
       clear c6
       obtain ⟨ji7, hji7⟩ : ∃ j_ : Int, (wrap64 (a1 - ((rd_T44 l0 x5_1).f0))) = j_ := ⟨_, rfl⟩
       replace H : (if 0 ≤ (ji7) then (if (ji7) < (((rd_T44 l0 x5_1).f1).size : Int) then (some (wrap64 (bt ((rd_T44 l0 x5_1).f1) (ji7)))) else (none)) else (none)) = some r := by first | (rw [hji7] at H; exact H) | (simp only [hji7] at H ⊢; exact H)
       have hji7w : (IntKind.i64.wrap (a1 - ((rd_T44 l0 x5_1).f0))) = ji7 := (i64_w _).trans hji7
       by_cases c8 : 0 ≤ (ji7)
       ·rw [if_pos c8] at H
        have c8b0 : decide (0 ≤ (ji7)) = true := decide_eq_true c8
        clear c8
        by_cases c9 : (ji7) < (((rd_T44 l0 x5_1).f1).size : Int)
        ·rw [if_pos c9] at H
         have c9b0 : decide ((ji7) < (((rd_T44 l0 x5_1).f1).size : Int)) = true := decide_eq_true c9
         clear c9
         obtain rfl := Option.some.inj H
         have p384 : 0 ≤ (x5_1 : Int) := zD
         have q384 : x5_1 < (l0.length : Int) := zD
         obtain ⟨ad384, e384, hx384_0, hx384_1⟩ := at_T44 HR0.out x5_1 p384 q384
         cases e384
         replace p384 := eq_true p384
         replace q384 := eq_true q384
         have p385 : 0 ≤ (x5_1 : Int) := zD
         have q385 : x5_1 < (l0.length : Int) := zD
         obtain ⟨ad385, e385, hx385_0, hx385_1⟩ := at_T44 HR0.out x5_1 p385 q385
         obtain rfl : ad384 = ad385 := (by injection e385)
         replace p385 := eq_true p385
         replace q385 := eq_true q385
         have p386 : 0 ≤ (x5_1 : Int) := zD
         have q386 : x5_1 < (l0.length : Int) := zD
         obtain ⟨ad386, e386, hx386_0, hx386_1⟩ := at_T44 HR0.out x5_1 p386 q386
         obtain rfl : ad384 = ad386 := (by injection e386)
         replace p386 := eq_true p386
         replace q386 := eq_true q386
         have p387 : 0 ≤ (x5_1 : Int) := zD
         have q387 : x5_1 < (l0.length : Int) := zD
         obtain ⟨ad387, e387, hx387_0, hx387_1⟩ := at_T44 HR0.out x5_1 p387 q387
         obtain rfl : ad384 = ad387 := (by injection e387)
         replace p387 := eq_true p387
         replace q387 := eq_true q387
         have p388 : 0 ≤ (x5_1 : Int) := zD
         have q388 : x5_1 < (l0.length : Int) := zD
         obtain ⟨ad388, e388, hx388_0, hx388_1⟩ := at_T44 HR0.out x5_1 p388 q388
         obtain rfl : ad384 = ad388 := (by injection e388)
         replace p388 := eq_true p388
         replace q388 := eq_true q388
         have p10 : 0 ≤ ((ji7) : Int) := zD
         have q10 : (ji7) < (((rd_T44 l0 x5_1).f1).size : Int) := zD
         have hx10 := bt_at ((rd_T44 l0 x5_1).f1) (ji7)
         replace p10 := eq_true p10
         replace q10 := eq_true q10
         go_wp2
         repeat (go_quiet (fail); try go_wp2)
         go_ret
         exact ⟨by first | rfl | (simp; done) | (simp only [← hji7] <;> (first | rfl | simp)) | (simp [*]; done), zW⟩
        ·rw [if_neg c9] at H
         exact absurd H (by simp)
       ·rw [if_neg c8] at H
        exact absurd H (by simp)
      ·rw [if_neg c6] at H
       have c6b0 : decide (a1 < (wrap64 (((rd_T44 l0 x5_1).f0) + (((rd_T44 l0 x5_1).f1).size : Int)))) = false := decide_eq_false c6
       clear c6
       have H' := zM H
       clear H
       have p384 : 0 ≤ (x5_1 : Int) := zD
       have q384 : x5_1 < (l0.length : Int) := zD
       obtain ⟨ad384, e384, hx384_0, hx384_1⟩ := at_T44 HR0.out x5_1 p384 q384
       cases e384
       replace p384 := eq_true p384
       replace q384 := eq_true q384
       have p385 : 0 ≤ (x5_1 : Int) := zD
       have q385 : x5_1 < (l0.length : Int) := zD
       obtain ⟨ad385, e385, hx385_0, hx385_1⟩ := at_T44 HR0.out x5_1 p385 q385
       obtain rfl : ad384 = ad385 := (by injection e385)
       replace p385 := eq_true p385
       replace q385 := eq_true q385
       have p386 : 0 ≤ (x5_1 : Int) := zD
       have q386 : x5_1 < (l0.length : Int) := zD
       obtain ⟨ad386, e386, hx386_0, hx386_1⟩ := at_T44 HR0.out x5_1 p386 q386
       obtain rfl : ad384 = ad386 := (by injection e386)
       replace p386 := eq_true p386
       replace q386 := eq_true q386
       go_wp2
       repeat (go_quiet (fail); try go_wp2)
       go_roundg k1
       case measure => have := HK1.out; omega
       case rel => exact ⟨(wrap64 (x5_1 + 1)), zS, H', ⟨by have := HK1.out; omega⟩, zW⟩
     ·rw [if_neg c5] at H
      have c5b0 : decide (((rd_T44 l0 x5_1).f0) ≤ a1) = false := decide_eq_false c5
      clear c5
      have H' := zM H
      clear H
      have p384 : 0 ≤ (x5_1 : Int) := zD
      have q384 : x5_1 < (l0.length : Int) := zD
      obtain ⟨ad384, e384, hx384_0, hx384_1⟩ := at_T44 HR0.out x5_1 p384 q384
      cases e384
      replace p384 := eq_true p384
      replace q384 := eq_true q384
      go_wp2
      repeat (go_quiet (fail); try go_wp2)
      go_roundg k1
      case measure => have := HK1.out; omega
      case rel => exact ⟨(wrap64 (x5_1 + 1)), zS, H', ⟨by have := HK1.out; omega⟩, zW⟩
    ·rw [if_neg c4] at H
     exact absurd H (by simp)
   ·rw [if_neg c3] at H
    have c3b0 : decide (x5_1 < (l0.length : Int)) = false := decide_eq_false c3
    clear c3
    obtain rfl := Option.some.inj H
    go_wp2
    repeat (go_quiet (fail); try go_wp2)
    go_ret
    exact ⟨zS, zW⟩

end Go.Proofs.Yteahdfibipalkaa.G
