/- Texts for: FnExactAddPiece: the program's law on adding a piece returns true, whatever the input. -/
import Derived.Test.YteahdfibipalkaaKFnExactAddPiece0

namespace Go.Proofs.Yteahdfibipalkaa.G
open Go.RowKit Go.Proofs.YteahdfibipalkaaW.PrintWords Go.Proofs.YteahdfibipalkaaW.PrintLast Go.Proofs.YteahdfibipalkaaW.PrintMore
attribute [local go_sem] max2_int min2_int max_two min_two max_three min_three max_four min_four   -- for this text's walks alone
set_option linter.unusedVariables false
set_option linter.unusedSimpArgs false

/-! ### laws_toPiece: function 22 -/
set_option maxHeartbeats 8000000 in
set_option maxRecDepth 100000 in
theorem laws_toPiece.calls (a0_0 : Int) (a0_1 : ByteArray) (r1 : Int) (r2 : ByteArray) (w : World) (h : laws_toPiece.f a0_0 a0_1 = some (r1, r2)) :
  Calls Try.prog 22 #[.agg #[.int .i64 a0_0, .string a0_1]] w fun e w' => e = .returned (.agg #[.int .i64 r1, .string r2]) ∧ Below w.heap.size w w' := by
 have hu37 := Try.underlying37
 have hu44 := Try.underlying44
 have HB := zM (Below.refl w.heap.size w)
 have H : (some (a0_0, a0_1)) = some (r1, r2) := h
 clear h
 simp only [Option.some.injEq, Prod.mk.injEq] at H
 obtain ⟨rfl, rfl⟩ := H
 go_enter Try.func22, Try.ntmps22
 go_wp2_with (first | ((with_reducible refine gate_dst (N := 1) rfl ?_); refine box_event ?hg (N := 1) ?hd (cs := #[.int .i64 a0_0, .string a0_1]) (t := 37) ?hr ?_; (case hd => rfl); (case hg => rfl); (case hr => first | (go_simp; done) | (go_simp; rfl)); intro gb423 hg w2 hbox hb; have n0_ := zM (below_step (zB HB.out) hb); have n1_ := zM (hbox); have n2_ := zM ((by rw [hg]; exact (below_size (zB HB.out)) : w.heap.size ≤ gb423)); have n3_ := zM ((by rw [hg]; exact (below_size (zB HB.out)) : w.heap.size ≤ gb423)); clear HB; have HB := n0_; have BK423 := n1_; have GW423 := n2_; have GE423 := n3_; clear n0_ n1_ n2_ n3_; clear hb hbox hg) | ((with_reducible refine gate_dst (N := 2) rfl ?_); refine box_event ?hg (N := 2) ?hd (cs := #[.int .i64 0, .string (⟨#[]⟩ : ByteArray)]) (t := 44) ?hr ?_; (case hd => rfl); (case hg => rfl); (case hr => first | (go_simp; done) | (go_simp; rfl)); intro gb424 hg w3 hbox hb; have n0_ := zM (blk_below (g := gb423) (o := .cells #[.int .i64 a0_0, .string a0_1] 37 (0, 0)) (zP BK423.out) hb); have n1_ := zM (below_step (zB1 GE423.out HB.out) hb); have n2_ := zM (hbox); have n3_ := zM ((by rw [hg]; exact (below_size (zB1 GE423.out HB.out)) : w.heap.size ≤ gb424)); have n4_ := zM ((by rw [hg]; exact (below_size (zB1 GE423.out HB.out)) : w.heap.size ≤ gb424)); have n5_ := zM ((by rw [hg]; exact Nat.ne_of_lt (blk_lt (g := gb423) (o := .cells #[.int .i64 a0_0, .string a0_1] 37 (0, 0)) (zP BK423.out)) : gb423 ≠ gb424)); have n6_ := zM ((by rw [hg]; exact Nat.ne_of_gt (blk_lt (g := gb423) (o := .cells #[.int .i64 a0_0, .string a0_1] 37 (0, 0)) (zP BK423.out)) : gb424 ≠ gb423)); clear BK423; clear HB; have BK423 := n0_; have HB := n1_; have BK424 := n2_; have GW424 := n3_; have GE424 := n4_; have NB423_424 := n5_; have NB424_423 := n6_; clear n0_ n1_ n2_ n3_ n4_ n5_ n6_; clear hb hbox hg) | ((with_reducible refine gate_dst (N := 3) rfl ?_); refine box_event ?hg (N := 3) ?hd (cs := #[.int .i64 0, .string (⟨#[]⟩ : ByteArray)]) (t := 44) ?hr ?_; (case hd => rfl); (case hg => rfl); (case hr => first | (go_simp; done) | (go_simp; rfl)); intro gb425 hg w4 hbox hb; have n0_ := zM (blk_below (g := gb423) (o := .cells #[.int .i64 a0_0, .string a0_1] 37 (0, 0)) (zP BK423.out) hb); have n1_ := zM (blk_below (g := gb424) (o := .cells #[.int .i64 0, .string (⟨#[]⟩ : ByteArray)] 44 (0, 0)) (zP BK424.out) hb); have n2_ := zM (below_step (zB2 GE423.out GE424.out HB.out) hb); have n3_ := zM (hbox); have n4_ := zM ((by rw [hg]; exact (below_size (zB2 GE423.out GE424.out HB.out)) : w.heap.size ≤ gb425)); have n5_ := zM ((by rw [hg]; exact (below_size (zB2 GE423.out GE424.out HB.out)) : w.heap.size ≤ gb425)); have n6_ := zM ((by rw [hg]; exact Nat.ne_of_lt (blk_lt (g := gb423) (o := .cells #[.int .i64 a0_0, .string a0_1] 37 (0, 0)) (zP BK423.out)) : gb423 ≠ gb425)); have n7_ := zM ((by rw [hg]; exact Nat.ne_of_gt (blk_lt (g := gb423) (o := .cells #[.int .i64 a0_0, .string a0_1] 37 (0, 0)) (zP BK423.out)) : gb425 ≠ gb423)); have n8_ := zM ((by rw [hg]; exact Nat.ne_of_lt (blk_lt (g := gb424) (o := .cells #[.int .i64 0, .string (⟨#[]⟩ : ByteArray)] 44 (0, 0)) (zP BK424.out)) : gb424 ≠ gb425)); have n9_ := zM ((by rw [hg]; exact Nat.ne_of_gt (blk_lt (g := gb424) (o := .cells #[.int .i64 0, .string (⟨#[]⟩ : ByteArray)] 44 (0, 0)) (zP BK424.out)) : gb425 ≠ gb424)); clear BK423; clear BK424; clear HB; have BK423 := n0_; have BK424 := n1_; have HB := n2_; have BK425 := n3_; have GW425 := n4_; have GE425 := n5_; have NB423_425 := n6_; have NB425_423 := n7_; have NB424_425 := n8_; have NB425_424 := n9_; clear n0_ n1_ n2_ n3_ n4_ n5_ n6_ n7_ n8_ n9_; clear hb hbox hg; have hnb5 := NB423_424.out; have hnc5 := NB424_423.out; have hnb6 := NB423_425.out; have hnc6 := NB425_423.out; have hcz7_0 : w4.cell? ⟨gb423, 0, none⟩ = some (.int .i64 a0_0) := (blk_cell BK423.out 0).trans rfl; have hcz7_1 : w4.cell? ⟨gb423, 1, none⟩ = some (.string a0_1) := (blk_cell BK423.out 1).trans rfl; have hfz7_0 := blk_frozen BK423.out 0; have hfz7_1 := blk_frozen BK423.out 1; have hnb8 := NB425_424.out; have hnc8 := NB424_425.out; have hcz9_0 : w4.cell? ⟨gb425, 0, none⟩ = some (.int .i64 0) := (blk_cell BK425.out 0).trans rfl; have hcz9_1 : w4.cell? ⟨gb425, 1, none⟩ = some (.string (⟨#[]⟩ : ByteArray)) := (blk_cell BK425.out 1).trans rfl; have hfz9_0 := blk_frozen BK425.out 0; have hfz9_1 := blk_frozen BK425.out 1; have hcz10_0 : w4.cell? ⟨gb424, 0, none⟩ = some (.int .i64 0) := (blk_cell BK424.out 0).trans rfl; have hcz10_1 : w4.cell? ⟨gb424, 1, none⟩ = some (.string (⟨#[]⟩ : ByteArray)) := (blk_cell BK424.out 1).trans rfl; have hfz10_0 := blk_frozen BK424.out 0; have hfz10_1 := blk_frozen BK424.out 1))
 refine bodyPost_ret (results_cell_row rfl _ _ gb424 44 #[.int .i64 a0_0, .string a0_1] (0, 0) _ rfl (by (with_reducible repeat (first | refine blk_drewN ?_ _ | refine blk_drew ?_ | refine blk_alloc ?_ _)); refine blk_put (cs := #[.int .i64 a0_0, .string (⟨#[]⟩ : ByteArray)]) ?_ 1 _ rfl; (with_reducible repeat (first | refine blk_drewN ?_ _ | refine blk_drew ?_ | refine blk_alloc ?_ _)); refine blk_put (cs := #[.int .i64 0, .string (⟨#[]⟩ : ByteArray)]) ?_ 0 _ rfl; (with_reducible repeat (first | refine blk_drewN ?_ _ | refine blk_drew ?_ | refine blk_alloc ?_ _)); refine blk_far ?_ NB424_425.out _; (with_reducible repeat (first | refine blk_drewN ?_ _ | refine blk_drew ?_ | refine blk_alloc ?_ _)); refine blk_far ?_ NB424_425.out _; (with_reducible repeat (first | refine blk_drewN ?_ _ | refine blk_drew ?_ | refine blk_alloc ?_ _)); exact BK424.out) Try.underlying44 rfl (by kernel_rfl)) rfl ?_
 exact ⟨zE, (zB3 GE423.out GE424.out GE425.out HB.out)⟩

end Go.Proofs.Yteahdfibipalkaa.G

namespace Go.Proofs.Yteahdfibipalkaa.G
open Go.RowKit Go.Proofs.YteahdfibipalkaaW.PrintWords Go.Proofs.YteahdfibipalkaaW.PrintLast Go.Proofs.YteahdfibipalkaaW.PrintMore
attribute [local go_sem] max2_int min2_int max_two min_two max_three min_three max_four min_four   -- for this text's walks alone
set_option linter.unusedVariables false
set_option linter.unusedSimpArgs false

/-! ### laws_toPieceS: function 21 -/
set_option maxHeartbeats 8000000 in
set_option maxRecDepth 100000 in
theorem laws_toPieceS.calls (k : Nat) (A0 : Option Addr) (c0 : Nat) (l0 : List (S37)) (r : List (S44)) (w : World) (hr0 : Kd.C k37 w A0 l0.length l0) (hc0 : l0.length ≤ c0) (h : laws_toPieceS.f k l0 = some r) :
  Calls Try.prog 21 #[.slice A0 l0.length c0] w fun e w' => ∃ v0_ : Value, e = .returned (v0_) ∧ Kd.R k44 44 w' w.heap.size (fun _ => True) v0_ r ∧ Below w.heap.size w w' := by
 have hu37 := Try.underlying37
 have hu44 := Try.underlying44
 have HR0 := zM hr0
 have HC0 := zM hc0
 clear hr0 hc0
 have HB := zM (Below.refl w.heap.size w)
 have H : (if 0 ≤ (l0.length : Int) then (if ((l0.length : Int) : Int).toNat ≤ 11728124029610 then (laws_toPieceS.l0 k l0 (List.replicate ((l0.length : Int) : Int).toNat z44) 0) else (none)) else (none)) = some r := h
 clear h
 by_cases c2 : 0 ≤ (l0.length : Int)
 ·rw [if_pos c2] at H
  have c2b0 := eq_true c2
  have c2b1 : decide (0 ≤ (l0.length : Int)) = true := decide_eq_true c2
  clear c2
  by_cases c3 : ((l0.length : Int) : Int).toNat ≤ 11728124029610
  ·rw [if_pos c3] at H
   have c3b0 := eq_true c3
   have c3b1 : decide (((l0.length : Int) : Int).toNat ≤ 11728124029610) = true := decide_eq_true c3
   clear c3
   obtain ⟨y426, hy426⟩ : ∃ y_ : List (S44), y_ = (List.replicate ((l0.length : Int) : Int).toNat z44) := ⟨_, rfl⟩
   replace H : (laws_toPieceS.l0 k l0 y426 0) = some r := zH hy426 H
   have Ny426 := zM hy426
   clear hy426
   have H' := zM H
   clear H
   go_enter Try.func21, Try.ntmps21
   go_wp2_with (first | ((with_reducible refine gate_dst (N := 7) rfl ?_); refine Kd.R_make k44 _ 44 rfl (N := 7) rfl 40 _ _ rfl (l0.length : Int) rfl rfl Try.underlying40 (.agg #[(.int .i64 0), (.string ⟨#[]⟩)]) 24 info44 rfl (by decide) (by omega) z44 (ok := fun _ => True) (okp := fun _ => True) (k44_mkM _ _ _ z44 ) (fun _ hk => hk) trivial (zD) (Nat.le_trans (Nat.mul_le_mul_right _ (zD : (l0.length : Int).toNat ≤ 11728124029610)) (by omega)) (Below.refl _ _) (Nat.le_refl _) ?_; intro v427 w4 ho5 hb hg_ hnew_; clear hg_ hnew_; (first | rw [← Ny426.out] at ho5 | (simp only [Int.reduceToNat] at ho5; rw [← Ny426.out] at ho5)); have n0_ := zM (Kd.R_lower ho5 (below_size (zB HB.out))); have n1_ := zM (below_step (zB HB.out) hb); clear HB; have HO428 := n0_; have HB := n1_; clear n0_ n1_; clear hb ho5))
   go_loopg [4] k (fun kq v4 w' => ∃ (x3_1 : List (S44)) (x4_1 : Int), v4 = .int .i64 x4_1 ∧ Aside0 (laws_toPieceS.l0 kq l0 x3_1 x4_1 = some r) ∧ Aside0 (kq ≤ k) ∧ Aside0 (Kd.R k44 44 w' w.heap.size (fun _ => True) v427 x3_1) ∧ Aside0 (Below w.heap.size w w'))
   case atStart => exact ⟨(y426), (0), zS, H', ⟨Nat.le_refl _⟩, ⟨(zR HO428.out)⟩, ⟨(zB HB.out)⟩⟩
   case round =>
    clear H'
    try clear c2
    try clear c2b0
    try clear c2b1
    try clear p2
    try clear c3
    try clear c3b0
    try clear c3b1
    obtain ⟨x3_1, x4_1, rfl, HA, HK1, HO_3, HB⟩ := hrel
    cases gk with
    | zero => exact absurd HA.out (by simp [laws_toPieceS.l0])
    | succ k1 =>
     have H := HA.out
     clear HA
     simp only [laws_toPieceS.l0] at H
     by_cases c6 : x4_1 < (l0.length : Int)
     ·rw [if_pos c6] at H
      have c6b0 : decide (x4_1 < (l0.length : Int)) = true := decide_eq_true c6
      clear c6
      by_cases c7 : 0 ≤ x4_1
      ·rw [if_pos c7] at H
       have c7b0 : decide (0 ≤ x4_1) = true := decide_eq_true c7
       clear c7
       replace H := Option.bind_eq_some_iff.mp H
       obtain ⟨⟨t430, t431⟩, A80, H⟩ := H
       try dsimp only at H
       have A8 := zM A80
       clear A80
       by_cases c9 : x4_1 < (x3_1.length : Int)
       ·rw [if_pos c9] at H
        have c9b0 : decide (x4_1 < (x3_1.length : Int)) = true := decide_eq_true c9
        clear c9
        obtain ⟨y432, hy432⟩ : ∃ y_ : List (S44), y_ = (x3_1.set (x4_1 : Int).toNat (⟨t430, t431⟩ : S44)) := ⟨_, rfl⟩
        replace H : (laws_toPieceS.l0 k1 l0 y432 (wrap64 (x4_1 + 1))) = some r := zH hy432 H
        have Ny432 := zM hy432
        clear hy432
        have H' := zM H
        clear H
        have p429 : 0 ≤ (x4_1 : Int) := zD
        have q429 : x4_1 < (l0.length : Int) := zD
        obtain ⟨ad429, e429, hx429_0, hx429_1⟩ := at_T37 HR0.out x4_1 p429 q429
        cases e429
        replace hx429_0 := (HB.out.cell (World.block_lt_of_cell? w _ hx429_0)).trans hx429_0
        replace hx429_1 := (HB.out.cell (World.block_lt_of_cell? w _ hx429_1)).trans hx429_1
        replace p429 := eq_true p429
        replace q429 := eq_true q429
        go_wp2_with (first | ((with_reducible refine gate_callee (f := 22) rfl ?_); refine zG (some 20) Try.func22 #[.agg #[.int .i64 ((rd_T37 l0 x4_1).f0), .string ((rd_T37 l0 x4_1).f1)]] ?_; (with_reducible refine (laws_toPiece.calls ((rd_T37 l0 x4_1).f0) ((rd_T37 l0 x4_1).f1) t430 t431 _ A8.out).mono ?_); rintro e w11 ⟨rfl, hb⟩; refine ⟨_, rfl, ?_⟩; have n0_ := zM (Kd.R_below (zR HO_3.out) hb); have n1_ := zM (below_step (zB HB.out) hb); clear HO_3; clear HB; have HO_3 := n0_; have HB := n1_; clear n0_ n1_; (try clear hb); (try clear hb2); (try clear hk); (try clear hi); have p10 : 0 ≤ (x4_1 : Int) := zD; have q10 : (x4_1 : Int) < ((x3_1.length : Int) : Int) := zD; obtain ⟨go10, co10, eo10, gb10, gl10, cl10, HG10⟩ := Kd.R_form HO_3.out (by omega); (first | cases eo10 | (injection eo10 with ea_ en_ ec_; (first | subst ea_ | (injection ea_ with ea_; subst ea_)); subst ec_; clear en_)); have GB10 := zM gb10; have GG10 := zM HG10; clear gb10 gl10 HG10; obtain ⟨ce10, hcl10, hM10, hcc10, hfr10⟩ := Kd.R_elem HO_3.out z44 (x4_1 : Int) p10 q10; obtain rfl := k44_openM hM10; have hx10_0 : w11.cell? ⟨go10, (x4_1 : Int).toNat * 2, none⟩ = some (.int .i64 ((rd_T44 x3_1 x4_1).f0)) := hcc10 0 _ rfl; have hx10_1 : w11.cell? ⟨go10, (x4_1 : Int).toNat * 2 + 1, none⟩ = some (.string ((rd_T44 x3_1 x4_1).f1)) := hcc10 1 _ rfl; have hf10_0 : w11.frozen? ⟨go10, (x4_1 : Int).toNat * 2, none⟩ = false := hfr10 0; have hf10_1 : w11.frozen? ⟨go10, (x4_1 : Int).toNat * 2 + 1, none⟩ = false := hfr10 1; clear hcl10 hcc10 hfr10 hM10; replace p10 := eq_true p10; replace q10 := eq_true q10; have HX12 := zM (show Kd.R k44 44 w11 w.heap.size (fun _ => True) (.slice (some ⟨go10, 0, none⟩) x3_1.length co10) x3_1 from (zR HO_3.out)); obtain ⟨ce12, hcl12, hM12, hcc12, hfr12⟩ := Kd.R_elem HX12.out z44 (x4_1 : Int) (zD) (by have h_ : (x4_1 : Int) < ((x3_1.length : Int) : Int) := zD; first | exact h_ | (have e_ := (Kd.R_reads' HO_3.out).1; omega) | simpa using h_); obtain rfl := k44_openM hM12; have HP12 := Kd.R_seg HX12.out (x4_1 : Int) (zD) (by have h_ : (x4_1 : Int) < ((x3_1.length : Int) : Int) := zD; first | exact h_ | (have e_ := (Kd.R_reads' HO_3.out).1; omega) | simpa using h_) (seg := [.int .i64 t430, .string t431]) (j := 0) hcl12 hcc12 (show 2 ≤ 2 from by decide) (x' := (⟨t430, t431⟩ : S44)) (k44_mkM _ _ _ (⟨t430, t431⟩ : S44) ) (fun _ hk => hk); have hx12_0 := hcc12 0 _ rfl; (try simp only [show (k44).sz = 2 from rfl, Nat.mul_one, Nat.add_zero] at hx12_0); have hf12_0 := hfr12 0; (try simp only [show (k44).sz = 2 from rfl, Nat.mul_one, Nat.add_zero] at hf12_0); have hx12_1 := hcc12 1 _ rfl; (try simp only [show (k44).sz = 2 from rfl, Nat.mul_one, Nat.add_zero] at hx12_1); have hf12_1 := hfr12 1; (try simp only [show (k44).sz = 2 from rfl, Nat.mul_one, Nat.add_zero] at hf12_1); clear hcl12 hcc12 hfr12 hM12) | ((with_reducible refine gate_store (t := 44) (p := 21) rfl ?_); refine store_event (t := 44) (p := 21) (v := ?vo_w13) (w1 := ((w11.setCell ⟨go10, (x4_1 : Int).toNat * 2, none⟩ (.int .i64 t430)).setCell ⟨go10, (x4_1 : Int).toNat * 2 + 1, none⟩ (.string t431))) ?hg ?ho ?hn ?hr ?_; (case ho => rfl); (case hg => rfl); (case hn => rfl); (case hr => first | (go_simp; done) | (go_simp; rfl)); intro w13 hw; have hg : w11.grownBy w13 (some go10) := (by rw [hw]; exact HP12.2); have hp_ : Kd.R k44 44 w13 w.heap.size (fun _ => True) (.slice (some ⟨go10, 0, none⟩) x3_1.length co10) y432 := (by rw [hw, Ny432.out]; exact HP12.1); clear HP12; have n0_ := zM (hp_); have n1_ := zM ((by rw [hw]; exact below_set (below_set (HB.out) GB10.out) GB10.out : Below w.heap.size w w13)); clear HO_3; clear HB; have HO_3 := n0_; have HB := n1_; clear n0_ n1_; clear hg hw hp_))
        go_roundg k1
        case measure => have := HK1.out; omega
        case rel => exact ⟨(y432), (wrap64 (x4_1 + 1)), zS, H', ⟨by have := HK1.out; omega⟩, ⟨(zR HO_3.out)⟩, ⟨(zB HB.out)⟩⟩
       ·rw [if_neg c9] at H
        exact absurd H (by simp)
      ·rw [if_neg c7] at H
       exact absurd H (by simp)
     ·rw [if_neg c6] at H
      have c6b0 : decide (x4_1 < (l0.length : Int)) = false := decide_eq_false c6
      clear c6
      obtain rfl := Option.some.inj H
      go_wp2
      go_ret
      exact ⟨_, zE, (zR HO_3.out), (zB HB.out)⟩
  ·rw [if_neg c3] at H
   exact absurd H (by simp)
 ·rw [if_neg c2] at H
  exact absurd H (by simp)

end Go.Proofs.Yteahdfibipalkaa.G

namespace Go.Proofs.Yteahdfibipalkaa.G
open Go.RowKit Go.Proofs.YteahdfibipalkaaW.PrintWords Go.Proofs.YteahdfibipalkaaW.PrintLast Go.Proofs.YteahdfibipalkaaW.PrintMore
attribute [local go_sem] max2_int min2_int max_two min_two max_three min_three max_four min_four   -- for this text's walks alone
set_option linter.unusedVariables false
set_option linter.unusedSimpArgs false

/-! ### impl_IsSpanSet: function 16 -/
set_option maxHeartbeats 8000000 in
set_option maxRecDepth 100000 in
theorem impl_IsSpanSet.calls (k : Nat) (A0 : Option Addr) (c0 : Nat) (l0 : List (S26)) (r : Bool) (w : World) (hr0 : Kd.C k26 w A0 l0.length l0) (hc0 : l0.length ≤ c0) (h : impl_IsSpanSet.f k l0 = some r) :
  Calls Try.prog 16 #[.slice A0 l0.length c0] w fun e w' => e = .returned (.bool r) ∧ Below w.heap.size w w' := by
 have hu26 := Try.underlying26
 have HR0 := zM hr0
 have HC0 := zM hc0
 clear hr0 hc0
 have HB := zM (Below.refl w.heap.size w)
 have H : (impl_IsSpanSet.l0 k l0 l0 (l0.length : Int) 0) = some r := h
 clear h
 have H' := zM H
 clear H
 go_enter Try.func16, Try.ntmps16
 go_wp2
 repeat (go_quiet (fail); try go_wp2)
 go_loopg [7] k (fun kq v7 w' => ∃ (x7_1 : Int), v7 = .int .i64 x7_1 ∧ Aside0 (impl_IsSpanSet.l0 kq l0 l0 (l0.length : Int) x7_1 = some r) ∧ Aside0 (kq ≤ k) ∧ Aside0 (Below w.heap.size w w'))
 case atStart => exact ⟨(0), zS, H', ⟨Nat.le_refl _⟩, ⟨(zB HB.out)⟩⟩
 case round =>
  clear H'
  try clear c1
  obtain ⟨x7_1, rfl, HA, HK1, HB⟩ := hrel
  cases gk with
  | zero => exact absurd HA.out (by simp [impl_IsSpanSet.l0])
  | succ k1 =>
   have H := HA.out
   clear HA
   simp only [impl_IsSpanSet.l0] at H
   by_cases c2 : x7_1 < (l0.length : Int)
   ·rw [if_pos c2] at H
    have c2b0 : decide (x7_1 < (l0.length : Int)) = true := decide_eq_true c2
    clear c2
    by_cases c3 : 0 ≤ x7_1
    ·rw [if_pos c3] at H
     have c3b0 : decide (0 ≤ x7_1) = true := decide_eq_true c3
     clear c3
     by_cases c4 : x7_1 < (l0.length : Int)
     ·rw [if_pos c4] at H
      have c4b0 : decide (x7_1 < (l0.length : Int)) = true := decide_eq_true c4
      clear c4
      by_cases c5 : ((rd_T26 l0 x7_1).f0) < 0
      ·rw [if_pos c5] at H
       have c5b0 : decide (((rd_T26 l0 x7_1).f0) < 0) = true := decide_eq_true c5
       clear c5
       obtain rfl := Option.some.inj H
       have p217 : 0 ≤ (x7_1 : Int) := zD
       have q217 : x7_1 < (l0.length : Int) := zD
       obtain ⟨ad217, e217, hx217_0, hx217_1⟩ := at_T26 HR0.out x7_1 p217 q217
       cases e217
       replace hx217_0 := (HB.out.cell (World.block_lt_of_cell? w _ hx217_0)).trans hx217_0
       replace hx217_1 := (HB.out.cell (World.block_lt_of_cell? w _ hx217_1)).trans hx217_1
       replace p217 := eq_true p217
       replace q217 := eq_true q217
       go_wp2_with (first | ((with_reducible refine gate_dst (N := 4) rfl ?_); refine box_event ?hg (N := 4) ?hd (cs := #[.int .i64 0, .int .i64 0]) (t := 26) ?hr ?_; (case hd => rfl); (case hg => rfl); (case hr => first | (go_simp; done) | (go_simp; rfl)); intro gb218 hg w6 hbox hb; have n0_ := zM (below_step (zB HB.out) hb); have n1_ := zM (hbox); have n2_ := zM ((by rw [hg]; exact (below_size (zB HB.out)) : w.heap.size ≤ gb218)); have n3_ := zM ((by rw [hg]; exact (below_size (zB HB.out)) : w.heap.size ≤ gb218)); clear HB; have HB := n0_; have BK218 := n1_; have GW218 := n2_; have GE218 := n3_; clear n0_ n1_ n2_ n3_; clear hb hbox hg; have hcz7_0 : w6.cell? ⟨gb218, 0, none⟩ = some (.int .i64 0) := (blk_cell BK218.out 0).trans rfl; have hcz7_1 : w6.cell? ⟨gb218, 1, none⟩ = some (.int .i64 0) := (blk_cell BK218.out 1).trans rfl; have hfz7_0 := blk_frozen BK218.out 0; have hfz7_1 := blk_frozen BK218.out 1))
       repeat (go_quiet (first | ((with_reducible refine gate_dst (N := 4) rfl ?_); refine box_event ?hg (N := 4) ?hd (cs := #[.int .i64 0, .int .i64 0]) (t := 26) ?hr ?_; (case hd => rfl); (case hg => rfl); (case hr => first | (go_simp; done) | (go_simp; rfl)); intro gb218 hg w6 hbox hb; have n0_ := zM (below_step (zB HB.out) hb); have n1_ := zM (hbox); have n2_ := zM ((by rw [hg]; exact (below_size (zB HB.out)) : w.heap.size ≤ gb218)); have n3_ := zM ((by rw [hg]; exact (below_size (zB HB.out)) : w.heap.size ≤ gb218)); clear HB; have HB := n0_; have BK218 := n1_; have GW218 := n2_; have GE218 := n3_; clear n0_ n1_ n2_ n3_; clear hb hbox hg; have hcz7_0 : w6.cell? ⟨gb218, 0, none⟩ = some (.int .i64 0) := (blk_cell BK218.out 0).trans rfl; have hcz7_1 : w6.cell? ⟨gb218, 1, none⟩ = some (.int .i64 0) := (blk_cell BK218.out 1).trans rfl; have hfz7_0 := blk_frozen BK218.out 0; have hfz7_1 := blk_frozen BK218.out 1)); try go_wp2_with (first | ((with_reducible refine gate_dst (N := 4) rfl ?_); refine box_event ?hg (N := 4) ?hd (cs := #[.int .i64 0, .int .i64 0]) (t := 26) ?hr ?_; (case hd => rfl); (case hg => rfl); (case hr => first | (go_simp; done) | (go_simp; rfl)); intro gb218 hg w6 hbox hb; have n0_ := zM (below_step (zB HB.out) hb); have n1_ := zM (hbox); have n2_ := zM ((by rw [hg]; exact (below_size (zB HB.out)) : w.heap.size ≤ gb218)); have n3_ := zM ((by rw [hg]; exact (below_size (zB HB.out)) : w.heap.size ≤ gb218)); clear HB; have HB := n0_; have BK218 := n1_; have GW218 := n2_; have GE218 := n3_; clear n0_ n1_ n2_ n3_; clear hb hbox hg; have hcz7_0 : w6.cell? ⟨gb218, 0, none⟩ = some (.int .i64 0) := (blk_cell BK218.out 0).trans rfl; have hcz7_1 : w6.cell? ⟨gb218, 1, none⟩ = some (.int .i64 0) := (blk_cell BK218.out 1).trans rfl; have hfz7_0 := blk_frozen BK218.out 0; have hfz7_1 := blk_frozen BK218.out 1)))
       go_ret
       exact ⟨zE, (zB1 GE218.out HB.out)⟩
      ·rw [if_neg c5] at H
       have c5b0 : decide (((rd_T26 l0 x7_1).f0) < 0) = false := decide_eq_false c5
       clear c5
       by_cases c8 : ((rd_T26 l0 x7_1).f0) ≥ ((rd_T26 l0 x7_1).f1)
       ·rw [if_pos c8] at H
        have c8b0 : decide (((rd_T26 l0 x7_1).f1) ≤ ((rd_T26 l0 x7_1).f0)) = true := decide_eq_true c8
        clear c8
        obtain rfl := Option.some.inj H
        have p217 : 0 ≤ (x7_1 : Int) := zD
        have q217 : x7_1 < (l0.length : Int) := zD
        obtain ⟨ad217, e217, hx217_0, hx217_1⟩ := at_T26 HR0.out x7_1 p217 q217
        cases e217
        replace hx217_0 := (HB.out.cell (World.block_lt_of_cell? w _ hx217_0)).trans hx217_0
        replace hx217_1 := (HB.out.cell (World.block_lt_of_cell? w _ hx217_1)).trans hx217_1
        replace p217 := eq_true p217
        replace q217 := eq_true q217
        go_wp2_with (first | ((with_reducible refine gate_dst (N := 4) rfl ?_); refine box_event ?hg (N := 4) ?hd (cs := #[.int .i64 0, .int .i64 0]) (t := 26) ?hr ?_; (case hd => rfl); (case hg => rfl); (case hr => first | (go_simp; done) | (go_simp; rfl)); intro gb218 hg w9 hbox hb; have n0_ := zM (below_step (zB HB.out) hb); have n1_ := zM (hbox); have n2_ := zM ((by rw [hg]; exact (below_size (zB HB.out)) : w.heap.size ≤ gb218)); have n3_ := zM ((by rw [hg]; exact (below_size (zB HB.out)) : w.heap.size ≤ gb218)); clear HB; have HB := n0_; have BK218 := n1_; have GW218 := n2_; have GE218 := n3_; clear n0_ n1_ n2_ n3_; clear hb hbox hg; have hcz10_0 : w9.cell? ⟨gb218, 0, none⟩ = some (.int .i64 0) := (blk_cell BK218.out 0).trans rfl; have hcz10_1 : w9.cell? ⟨gb218, 1, none⟩ = some (.int .i64 0) := (blk_cell BK218.out 1).trans rfl; have hfz10_0 := blk_frozen BK218.out 0; have hfz10_1 := blk_frozen BK218.out 1))
        repeat (go_quiet (first | ((with_reducible refine gate_dst (N := 4) rfl ?_); refine box_event ?hg (N := 4) ?hd (cs := #[.int .i64 0, .int .i64 0]) (t := 26) ?hr ?_; (case hd => rfl); (case hg => rfl); (case hr => first | (go_simp; done) | (go_simp; rfl)); intro gb218 hg w9 hbox hb; have n0_ := zM (below_step (zB HB.out) hb); have n1_ := zM (hbox); have n2_ := zM ((by rw [hg]; exact (below_size (zB HB.out)) : w.heap.size ≤ gb218)); have n3_ := zM ((by rw [hg]; exact (below_size (zB HB.out)) : w.heap.size ≤ gb218)); clear HB; have HB := n0_; have BK218 := n1_; have GW218 := n2_; have GE218 := n3_; clear n0_ n1_ n2_ n3_; clear hb hbox hg; have hcz10_0 : w9.cell? ⟨gb218, 0, none⟩ = some (.int .i64 0) := (blk_cell BK218.out 0).trans rfl; have hcz10_1 : w9.cell? ⟨gb218, 1, none⟩ = some (.int .i64 0) := (blk_cell BK218.out 1).trans rfl; have hfz10_0 := blk_frozen BK218.out 0; have hfz10_1 := blk_frozen BK218.out 1)); try go_wp2_with (first | ((with_reducible refine gate_dst (N := 4) rfl ?_); refine box_event ?hg (N := 4) ?hd (cs := #[.int .i64 0, .int .i64 0]) (t := 26) ?hr ?_; (case hd => rfl); (case hg => rfl); (case hr => first | (go_simp; done) | (go_simp; rfl)); intro gb218 hg w9 hbox hb; have n0_ := zM (below_step (zB HB.out) hb); have n1_ := zM (hbox); have n2_ := zM ((by rw [hg]; exact (below_size (zB HB.out)) : w.heap.size ≤ gb218)); have n3_ := zM ((by rw [hg]; exact (below_size (zB HB.out)) : w.heap.size ≤ gb218)); clear HB; have HB := n0_; have BK218 := n1_; have GW218 := n2_; have GE218 := n3_; clear n0_ n1_ n2_ n3_; clear hb hbox hg; have hcz10_0 : w9.cell? ⟨gb218, 0, none⟩ = some (.int .i64 0) := (blk_cell BK218.out 0).trans rfl; have hcz10_1 : w9.cell? ⟨gb218, 1, none⟩ = some (.int .i64 0) := (blk_cell BK218.out 1).trans rfl; have hfz10_0 := blk_frozen BK218.out 0; have hfz10_1 := blk_frozen BK218.out 1)))
        go_ret
        exact ⟨zE, (zB1 GE218.out HB.out)⟩
       ·rw [if_neg c8] at H
        have c8b0 : decide (((rd_T26 l0 x7_1).f1) ≤ ((rd_T26 l0 x7_1).f0)) = false := decide_eq_false c8
        clear c8
        by_cases c11 : ((rd_T26 l0 x7_1).f1) > 1000000000000
        ·rw [if_pos c11] at H
         have c11b0 : decide (1000000000000 < ((rd_T26 l0 x7_1).f1)) = true := decide_eq_true c11
         clear c11
         obtain rfl := Option.some.inj H
         have p217 : 0 ≤ (x7_1 : Int) := zD
         have q217 : x7_1 < (l0.length : Int) := zD
         obtain ⟨ad217, e217, hx217_0, hx217_1⟩ := at_T26 HR0.out x7_1 p217 q217
         cases e217
         replace hx217_0 := (HB.out.cell (World.block_lt_of_cell? w _ hx217_0)).trans hx217_0
         replace hx217_1 := (HB.out.cell (World.block_lt_of_cell? w _ hx217_1)).trans hx217_1
         replace p217 := eq_true p217
         replace q217 := eq_true q217
         go_wp2_with (first | ((with_reducible refine gate_dst (N := 4) rfl ?_); refine box_event ?hg (N := 4) ?hd (cs := #[.int .i64 0, .int .i64 0]) (t := 26) ?hr ?_; (case hd => rfl); (case hg => rfl); (case hr => first | (go_simp; done) | (go_simp; rfl)); intro gb218 hg w12 hbox hb; have n0_ := zM (below_step (zB HB.out) hb); have n1_ := zM (hbox); have n2_ := zM ((by rw [hg]; exact (below_size (zB HB.out)) : w.heap.size ≤ gb218)); have n3_ := zM ((by rw [hg]; exact (below_size (zB HB.out)) : w.heap.size ≤ gb218)); clear HB; have HB := n0_; have BK218 := n1_; have GW218 := n2_; have GE218 := n3_; clear n0_ n1_ n2_ n3_; clear hb hbox hg; have hcz13_0 : w12.cell? ⟨gb218, 0, none⟩ = some (.int .i64 0) := (blk_cell BK218.out 0).trans rfl; have hcz13_1 : w12.cell? ⟨gb218, 1, none⟩ = some (.int .i64 0) := (blk_cell BK218.out 1).trans rfl; have hfz13_0 := blk_frozen BK218.out 0; have hfz13_1 := blk_frozen BK218.out 1))
         repeat (go_quiet (first | ((with_reducible refine gate_dst (N := 4) rfl ?_); refine box_event ?hg (N := 4) ?hd (cs := #[.int .i64 0, .int .i64 0]) (t := 26) ?hr ?_; (case hd => rfl); (case hg => rfl); (case hr => first | (go_simp; done) | (go_simp; rfl)); intro gb218 hg w12 hbox hb; have n0_ := zM (below_step (zB HB.out) hb); have n1_ := zM (hbox); have n2_ := zM ((by rw [hg]; exact (below_size (zB HB.out)) : w.heap.size ≤ gb218)); have n3_ := zM ((by rw [hg]; exact (below_size (zB HB.out)) : w.heap.size ≤ gb218)); clear HB; have HB := n0_; have BK218 := n1_; have GW218 := n2_; have GE218 := n3_; clear n0_ n1_ n2_ n3_; clear hb hbox hg; have hcz13_0 : w12.cell? ⟨gb218, 0, none⟩ = some (.int .i64 0) := (blk_cell BK218.out 0).trans rfl; have hcz13_1 : w12.cell? ⟨gb218, 1, none⟩ = some (.int .i64 0) := (blk_cell BK218.out 1).trans rfl; have hfz13_0 := blk_frozen BK218.out 0; have hfz13_1 := blk_frozen BK218.out 1)); try go_wp2_with (first | ((with_reducible refine gate_dst (N := 4) rfl ?_); refine box_event ?hg (N := 4) ?hd (cs := #[.int .i64 0, .int .i64 0]) (t := 26) ?hr ?_; (case hd => rfl); (case hg => rfl); (case hr => first | (go_simp; done) | (go_simp; rfl)); intro gb218 hg w12 hbox hb; have n0_ := zM (below_step (zB HB.out) hb); have n1_ := zM (hbox); have n2_ := zM ((by rw [hg]; exact (below_size (zB HB.out)) : w.heap.size ≤ gb218)); have n3_ := zM ((by rw [hg]; exact (below_size (zB HB.out)) : w.heap.size ≤ gb218)); clear HB; have HB := n0_; have BK218 := n1_; have GW218 := n2_; have GE218 := n3_; clear n0_ n1_ n2_ n3_; clear hb hbox hg; have hcz13_0 : w12.cell? ⟨gb218, 0, none⟩ = some (.int .i64 0) := (blk_cell BK218.out 0).trans rfl; have hcz13_1 : w12.cell? ⟨gb218, 1, none⟩ = some (.int .i64 0) := (blk_cell BK218.out 1).trans rfl; have hfz13_0 := blk_frozen BK218.out 0; have hfz13_1 := blk_frozen BK218.out 1)))
         go_ret
         exact ⟨zE, (zB1 GE218.out HB.out)⟩
        ·rw [if_neg c11] at H
         have c11b0 : decide (1000000000000 < ((rd_T26 l0 x7_1).f1)) = false := decide_eq_false c11
         clear c11
         by_cases c14 : x7_1 > 0
         ·rw [if_pos c14] at H
          have c14b0 : decide (0 < x7_1) = true := decide_eq_true c14
          clear c14
          obtain ⟨ji15, hji15⟩ : ∃ j_ : Int, (wrap64 (x7_1 - 1)) = j_ := ⟨_, rfl⟩
          replace H : (if 0 ≤ (ji15) then (if (ji15) < (l0.length : Int) then (if ((rd_T26 l0 (ji15)).f1) ≥ ((rd_T26 l0 x7_1).f0) then (some false) else (impl_IsSpanSet.l0 k1 l0 l0 (l0.length : Int) (wrap64 (x7_1 + 1)))) else (none)) else (none)) = some r := by first | (rw [hji15] at H; exact H) | (simp only [hji15] at H ⊢; exact H)
          have hji15w : (IntKind.i64.wrap (x7_1 - 1)) = ji15 := (i64_w _).trans hji15
          by_cases c16 : 0 ≤ (ji15)
          ·rw [if_pos c16] at H
           have c16b0 : decide (0 ≤ (ji15)) = true := decide_eq_true c16
           clear c16
           by_cases c17 : (ji15) < (l0.length : Int)
           ·rw [if_pos c17] at H
            have c17b0 : decide ((ji15) < (l0.length : Int)) = true := decide_eq_true c17
            clear c17
            by_cases c18 : ((rd_T26 l0 (ji15)).f1) ≥ ((rd_T26 l0 x7_1).f0)
            ·rw [if_pos c18] at H
             have c18b0 : decide (((rd_T26 l0 x7_1).f0) ≤ ((rd_T26 l0 (ji15)).f1)) = true := decide_eq_true c18
             clear c18
             obtain rfl := Option.some.inj H
             have p217 : 0 ≤ (x7_1 : Int) := zD
             have q217 : x7_1 < (l0.length : Int) := zD
             obtain ⟨ad217, e217, hx217_0, hx217_1⟩ := at_T26 HR0.out x7_1 p217 q217
             cases e217
             replace hx217_0 := (HB.out.cell (World.block_lt_of_cell? w _ hx217_0)).trans hx217_0
             replace hx217_1 := (HB.out.cell (World.block_lt_of_cell? w _ hx217_1)).trans hx217_1
             replace p217 := eq_true p217
             replace q217 := eq_true q217
             go_wp2_with (first | ((with_reducible refine gate_dst (N := 4) rfl ?_); refine box_event ?hg (N := 4) ?hd (cs := #[.int .i64 0, .int .i64 0]) (t := 26) ?hr ?_; (case hd => rfl); (case hg => rfl); (case hr => first | (go_simp; done) | (go_simp; rfl)); intro gb218 hg w19 hbox hb; have n0_ := zM (below_step (zB HB.out) hb); have n1_ := zM (hbox); have n2_ := zM ((by rw [hg]; exact (below_size (zB HB.out)) : w.heap.size ≤ gb218)); have n3_ := zM ((by rw [hg]; exact (below_size (zB HB.out)) : w.heap.size ≤ gb218)); clear HB; have HB := n0_; have BK218 := n1_; have GW218 := n2_; have GE218 := n3_; clear n0_ n1_ n2_ n3_; clear hb hbox hg; have hcz20_0 : w19.cell? ⟨gb218, 0, none⟩ = some (.int .i64 0) := (blk_cell BK218.out 0).trans rfl; have hcz20_1 : w19.cell? ⟨gb218, 1, none⟩ = some (.int .i64 0) := (blk_cell BK218.out 1).trans rfl; have hfz20_0 := blk_frozen BK218.out 0; have hfz20_1 := blk_frozen BK218.out 1; have p219 : 0 ≤ ((ji15) : Int) := zD; have q219 : (ji15) < (l0.length : Int) := zD; obtain ⟨ad219, e219, hx219_0, hx219_1⟩ := at_T26 HR0.out (ji15) p219 q219; obtain rfl : ad217 = ad219 := (by injection e219); have hn219_0 : ad217.block ≠ gb218 := Nat.ne_of_lt (Nat.lt_of_lt_of_le (by have := World.block_lt_of_cell? _ _ hx219_0; first | rwa [add_block] at this | exact this) GW218.out); have hn219_1 : ad217.block ≠ gb218 := Nat.ne_of_lt (Nat.lt_of_lt_of_le (by have := World.block_lt_of_cell? _ _ hx219_0; first | rwa [add_block] at this | exact this) GW218.out); replace hx219_0 := (HB.out.cell (World.block_lt_of_cell? w _ hx219_0)).trans hx219_0; replace hx219_1 := (HB.out.cell (World.block_lt_of_cell? w _ hx219_1)).trans hx219_1; replace hx219_0 := (cell_far (p := ⟨gb218, 0, none⟩) (by first | (rw [add_block]; exact hn219_0) | (show (Addr.add _ _).block ≠ _; rw [add_block]; exact hn219_0) | exact hn219_0) (.int .i64 ((rd_T26 l0 x7_1).f0))).trans hx219_0; replace hx219_1 := (cell_far (p := ⟨gb218, 0, none⟩) (by first | (rw [add_block]; exact hn219_0) | (show (Addr.add _ _).block ≠ _; rw [add_block]; exact hn219_0) | exact hn219_0) (.int .i64 ((rd_T26 l0 x7_1).f0))).trans hx219_1; replace hx219_0 := (cell_far (p := ⟨gb218, 1, none⟩) (by first | (rw [add_block]; exact hn219_1) | (show (Addr.add _ _).block ≠ _; rw [add_block]; exact hn219_1) | exact hn219_1) (.int .i64 ((rd_T26 l0 x7_1).f1))).trans hx219_0; replace hx219_1 := (cell_far (p := ⟨gb218, 1, none⟩) (by first | (rw [add_block]; exact hn219_1) | (show (Addr.add _ _).block ≠ _; rw [add_block]; exact hn219_1) | exact hn219_1) (.int .i64 ((rd_T26 l0 x7_1).f1))).trans hx219_1; (try have hy219_0 := fun (n_ : Nat) => (show ((((w19.drewN n_).setCell ⟨gb218, 0, none⟩ (.int .i64 ((rd_T26 l0 x7_1).f0))).setCell ⟨gb218, 1, none⟩ (.int .i64 ((rd_T26 l0 x7_1).f1)))).cell? _ = some _ from hx219_0)); (try have hy219_1 := fun (n_ : Nat) => (show ((((w19.drewN n_).setCell ⟨gb218, 0, none⟩ (.int .i64 ((rd_T26 l0 x7_1).f0))).setCell ⟨gb218, 1, none⟩ (.int .i64 ((rd_T26 l0 x7_1).f1)))).cell? _ = some _ from hx219_1)); clear hn219_0; clear hn219_1; replace p219 := eq_true p219; replace q219 := eq_true q219))
             repeat (go_quiet (first | ((with_reducible refine gate_dst (N := 4) rfl ?_); refine box_event ?hg (N := 4) ?hd (cs := #[.int .i64 0, .int .i64 0]) (t := 26) ?hr ?_; (case hd => rfl); (case hg => rfl); (case hr => first | (go_simp; done) | (go_simp; rfl)); intro gb218 hg w19 hbox hb; have n0_ := zM (below_step (zB HB.out) hb); have n1_ := zM (hbox); have n2_ := zM ((by rw [hg]; exact (below_size (zB HB.out)) : w.heap.size ≤ gb218)); have n3_ := zM ((by rw [hg]; exact (below_size (zB HB.out)) : w.heap.size ≤ gb218)); clear HB; have HB := n0_; have BK218 := n1_; have GW218 := n2_; have GE218 := n3_; clear n0_ n1_ n2_ n3_; clear hb hbox hg; have hcz20_0 : w19.cell? ⟨gb218, 0, none⟩ = some (.int .i64 0) := (blk_cell BK218.out 0).trans rfl; have hcz20_1 : w19.cell? ⟨gb218, 1, none⟩ = some (.int .i64 0) := (blk_cell BK218.out 1).trans rfl; have hfz20_0 := blk_frozen BK218.out 0; have hfz20_1 := blk_frozen BK218.out 1; have p219 : 0 ≤ ((ji15) : Int) := zD; have q219 : (ji15) < (l0.length : Int) := zD; obtain ⟨ad219, e219, hx219_0, hx219_1⟩ := at_T26 HR0.out (ji15) p219 q219; obtain rfl : ad217 = ad219 := (by injection e219); have hn219_0 : ad217.block ≠ gb218 := Nat.ne_of_lt (Nat.lt_of_lt_of_le (by have := World.block_lt_of_cell? _ _ hx219_0; first | rwa [add_block] at this | exact this) GW218.out); have hn219_1 : ad217.block ≠ gb218 := Nat.ne_of_lt (Nat.lt_of_lt_of_le (by have := World.block_lt_of_cell? _ _ hx219_0; first | rwa [add_block] at this | exact this) GW218.out); replace hx219_0 := (HB.out.cell (World.block_lt_of_cell? w _ hx219_0)).trans hx219_0; replace hx219_1 := (HB.out.cell (World.block_lt_of_cell? w _ hx219_1)).trans hx219_1; replace hx219_0 := (cell_far (p := ⟨gb218, 0, none⟩) (by first | (rw [add_block]; exact hn219_0) | (show (Addr.add _ _).block ≠ _; rw [add_block]; exact hn219_0) | exact hn219_0) (.int .i64 ((rd_T26 l0 x7_1).f0))).trans hx219_0; replace hx219_1 := (cell_far (p := ⟨gb218, 0, none⟩) (by first | (rw [add_block]; exact hn219_0) | (show (Addr.add _ _).block ≠ _; rw [add_block]; exact hn219_0) | exact hn219_0) (.int .i64 ((rd_T26 l0 x7_1).f0))).trans hx219_1; replace hx219_0 := (cell_far (p := ⟨gb218, 1, none⟩) (by first | (rw [add_block]; exact hn219_1) | (show (Addr.add _ _).block ≠ _; rw [add_block]; exact hn219_1) | exact hn219_1) (.int .i64 ((rd_T26 l0 x7_1).f1))).trans hx219_0; replace hx219_1 := (cell_far (p := ⟨gb218, 1, none⟩) (by first | (rw [add_block]; exact hn219_1) | (show (Addr.add _ _).block ≠ _; rw [add_block]; exact hn219_1) | exact hn219_1) (.int .i64 ((rd_T26 l0 x7_1).f1))).trans hx219_1; (try have hy219_0 := fun (n_ : Nat) => (show ((((w19.drewN n_).setCell ⟨gb218, 0, none⟩ (.int .i64 ((rd_T26 l0 x7_1).f0))).setCell ⟨gb218, 1, none⟩ (.int .i64 ((rd_T26 l0 x7_1).f1)))).cell? _ = some _ from hx219_0)); (try have hy219_1 := fun (n_ : Nat) => (show ((((w19.drewN n_).setCell ⟨gb218, 0, none⟩ (.int .i64 ((rd_T26 l0 x7_1).f0))).setCell ⟨gb218, 1, none⟩ (.int .i64 ((rd_T26 l0 x7_1).f1)))).cell? _ = some _ from hx219_1)); clear hn219_0; clear hn219_1; replace p219 := eq_true p219; replace q219 := eq_true q219)); try go_wp2_with (first | ((with_reducible refine gate_dst (N := 4) rfl ?_); refine box_event ?hg (N := 4) ?hd (cs := #[.int .i64 0, .int .i64 0]) (t := 26) ?hr ?_; (case hd => rfl); (case hg => rfl); (case hr => first | (go_simp; done) | (go_simp; rfl)); intro gb218 hg w19 hbox hb; have n0_ := zM (below_step (zB HB.out) hb); have n1_ := zM (hbox); have n2_ := zM ((by rw [hg]; exact (below_size (zB HB.out)) : w.heap.size ≤ gb218)); have n3_ := zM ((by rw [hg]; exact (below_size (zB HB.out)) : w.heap.size ≤ gb218)); clear HB; have HB := n0_; have BK218 := n1_; have GW218 := n2_; have GE218 := n3_; clear n0_ n1_ n2_ n3_; clear hb hbox hg; have hcz20_0 : w19.cell? ⟨gb218, 0, none⟩ = some (.int .i64 0) := (blk_cell BK218.out 0).trans rfl; have hcz20_1 : w19.cell? ⟨gb218, 1, none⟩ = some (.int .i64 0) := (blk_cell BK218.out 1).trans rfl; have hfz20_0 := blk_frozen BK218.out 0; have hfz20_1 := blk_frozen BK218.out 1; have p219 : 0 ≤ ((ji15) : Int) := zD; have q219 : (ji15) < (l0.length : Int) := zD; obtain ⟨ad219, e219, hx219_0, hx219_1⟩ := at_T26 HR0.out (ji15) p219 q219; obtain rfl : ad217 = ad219 := (by injection e219); have hn219_0 : ad217.block ≠ gb218 := Nat.ne_of_lt (Nat.lt_of_lt_of_le (by have := World.block_lt_of_cell? _ _ hx219_0; first | rwa [add_block] at this | exact this) GW218.out); have hn219_1 : ad217.block ≠ gb218 := Nat.ne_of_lt (Nat.lt_of_lt_of_le (by have := World.block_lt_of_cell? _ _ hx219_0; first | rwa [add_block] at this | exact this) GW218.out); replace hx219_0 := (HB.out.cell (World.block_lt_of_cell? w _ hx219_0)).trans hx219_0; replace hx219_1 := (HB.out.cell (World.block_lt_of_cell? w _ hx219_1)).trans hx219_1; replace hx219_0 := (cell_far (p := ⟨gb218, 0, none⟩) (by first | (rw [add_block]; exact hn219_0) | (show (Addr.add _ _).block ≠ _; rw [add_block]; exact hn219_0) | exact hn219_0) (.int .i64 ((rd_T26 l0 x7_1).f0))).trans hx219_0; replace hx219_1 := (cell_far (p := ⟨gb218, 0, none⟩) (by first | (rw [add_block]; exact hn219_0) | (show (Addr.add _ _).block ≠ _; rw [add_block]; exact hn219_0) | exact hn219_0) (.int .i64 ((rd_T26 l0 x7_1).f0))).trans hx219_1; replace hx219_0 := (cell_far (p := ⟨gb218, 1, none⟩) (by first | (rw [add_block]; exact hn219_1) | (show (Addr.add _ _).block ≠ _; rw [add_block]; exact hn219_1) | exact hn219_1) (.int .i64 ((rd_T26 l0 x7_1).f1))).trans hx219_0; replace hx219_1 := (cell_far (p := ⟨gb218, 1, none⟩) (by first | (rw [add_block]; exact hn219_1) | (show (Addr.add _ _).block ≠ _; rw [add_block]; exact hn219_1) | exact hn219_1) (.int .i64 ((rd_T26 l0 x7_1).f1))).trans hx219_1; (try have hy219_0 := fun (n_ : Nat) => (show ((((w19.drewN n_).setCell ⟨gb218, 0, none⟩ (.int .i64 ((rd_T26 l0 x7_1).f0))).setCell ⟨gb218, 1, none⟩ (.int .i64 ((rd_T26 l0 x7_1).f1)))).cell? _ = some _ from hx219_0)); (try have hy219_1 := fun (n_ : Nat) => (show ((((w19.drewN n_).setCell ⟨gb218, 0, none⟩ (.int .i64 ((rd_T26 l0 x7_1).f0))).setCell ⟨gb218, 1, none⟩ (.int .i64 ((rd_T26 l0 x7_1).f1)))).cell? _ = some _ from hx219_1)); clear hn219_0; clear hn219_1; replace p219 := eq_true p219; replace q219 := eq_true q219)))
             go_ret
             exact ⟨by first | rfl | (simp [errW_none, errW_some] <;> rfl) | (simp only [← hji15]; first | rfl | (simp [errW_none, errW_some] <;> rfl)) | (simp [*, errW_none, errW_some] <;> rfl), (zB1 GE218.out HB.out)⟩
            ·rw [if_neg c18] at H
             have c18b0 : decide (((rd_T26 l0 x7_1).f0) ≤ ((rd_T26 l0 (ji15)).f1)) = false := decide_eq_false c18
             clear c18
             have H' := zM H
             clear H
             have p217 : 0 ≤ (x7_1 : Int) := zD
             have q217 : x7_1 < (l0.length : Int) := zD
             obtain ⟨ad217, e217, hx217_0, hx217_1⟩ := at_T26 HR0.out x7_1 p217 q217
             cases e217
             replace hx217_0 := (HB.out.cell (World.block_lt_of_cell? w _ hx217_0)).trans hx217_0
             replace hx217_1 := (HB.out.cell (World.block_lt_of_cell? w _ hx217_1)).trans hx217_1
             replace p217 := eq_true p217
             replace q217 := eq_true q217
             go_wp2_with (first | ((with_reducible refine gate_dst (N := 4) rfl ?_); refine box_event ?hg (N := 4) ?hd (cs := #[.int .i64 0, .int .i64 0]) (t := 26) ?hr ?_; (case hd => rfl); (case hg => rfl); (case hr => first | (go_simp; done) | (go_simp; rfl)); intro gb218 hg w21 hbox hb; have n0_ := zM (below_step (zB HB.out) hb); have n1_ := zM (hbox); have n2_ := zM ((by rw [hg]; exact (below_size (zB HB.out)) : w.heap.size ≤ gb218)); have n3_ := zM ((by rw [hg]; exact (below_size (zB HB.out)) : w.heap.size ≤ gb218)); clear HB; have HB := n0_; have BK218 := n1_; have GW218 := n2_; have GE218 := n3_; clear n0_ n1_ n2_ n3_; clear hb hbox hg; have hcz22_0 : w21.cell? ⟨gb218, 0, none⟩ = some (.int .i64 0) := (blk_cell BK218.out 0).trans rfl; have hcz22_1 : w21.cell? ⟨gb218, 1, none⟩ = some (.int .i64 0) := (blk_cell BK218.out 1).trans rfl; have hfz22_0 := blk_frozen BK218.out 0; have hfz22_1 := blk_frozen BK218.out 1; have p219 : 0 ≤ ((ji15) : Int) := zD; have q219 : (ji15) < (l0.length : Int) := zD; obtain ⟨ad219, e219, hx219_0, hx219_1⟩ := at_T26 HR0.out (ji15) p219 q219; obtain rfl : ad217 = ad219 := (by injection e219); have hn219_0 : ad217.block ≠ gb218 := Nat.ne_of_lt (Nat.lt_of_lt_of_le (by have := World.block_lt_of_cell? _ _ hx219_0; first | rwa [add_block] at this | exact this) GW218.out); have hn219_1 : ad217.block ≠ gb218 := Nat.ne_of_lt (Nat.lt_of_lt_of_le (by have := World.block_lt_of_cell? _ _ hx219_0; first | rwa [add_block] at this | exact this) GW218.out); replace hx219_0 := (HB.out.cell (World.block_lt_of_cell? w _ hx219_0)).trans hx219_0; replace hx219_1 := (HB.out.cell (World.block_lt_of_cell? w _ hx219_1)).trans hx219_1; replace hx219_0 := (cell_far (p := ⟨gb218, 0, none⟩) (by first | (rw [add_block]; exact hn219_0) | (show (Addr.add _ _).block ≠ _; rw [add_block]; exact hn219_0) | exact hn219_0) (.int .i64 ((rd_T26 l0 x7_1).f0))).trans hx219_0; replace hx219_1 := (cell_far (p := ⟨gb218, 0, none⟩) (by first | (rw [add_block]; exact hn219_0) | (show (Addr.add _ _).block ≠ _; rw [add_block]; exact hn219_0) | exact hn219_0) (.int .i64 ((rd_T26 l0 x7_1).f0))).trans hx219_1; replace hx219_0 := (cell_far (p := ⟨gb218, 1, none⟩) (by first | (rw [add_block]; exact hn219_1) | (show (Addr.add _ _).block ≠ _; rw [add_block]; exact hn219_1) | exact hn219_1) (.int .i64 ((rd_T26 l0 x7_1).f1))).trans hx219_0; replace hx219_1 := (cell_far (p := ⟨gb218, 1, none⟩) (by first | (rw [add_block]; exact hn219_1) | (show (Addr.add _ _).block ≠ _; rw [add_block]; exact hn219_1) | exact hn219_1) (.int .i64 ((rd_T26 l0 x7_1).f1))).trans hx219_1; (try have hy219_0 := fun (n_ : Nat) => (show ((((w21.drewN n_).setCell ⟨gb218, 0, none⟩ (.int .i64 ((rd_T26 l0 x7_1).f0))).setCell ⟨gb218, 1, none⟩ (.int .i64 ((rd_T26 l0 x7_1).f1)))).cell? _ = some _ from hx219_0)); (try have hy219_1 := fun (n_ : Nat) => (show ((((w21.drewN n_).setCell ⟨gb218, 0, none⟩ (.int .i64 ((rd_T26 l0 x7_1).f0))).setCell ⟨gb218, 1, none⟩ (.int .i64 ((rd_T26 l0 x7_1).f1)))).cell? _ = some _ from hx219_1)); clear hn219_0; clear hn219_1; replace p219 := eq_true p219; replace q219 := eq_true q219))
             repeat (go_quiet (first | ((with_reducible refine gate_dst (N := 4) rfl ?_); refine box_event ?hg (N := 4) ?hd (cs := #[.int .i64 0, .int .i64 0]) (t := 26) ?hr ?_; (case hd => rfl); (case hg => rfl); (case hr => first | (go_simp; done) | (go_simp; rfl)); intro gb218 hg w21 hbox hb; have n0_ := zM (below_step (zB HB.out) hb); have n1_ := zM (hbox); have n2_ := zM ((by rw [hg]; exact (below_size (zB HB.out)) : w.heap.size ≤ gb218)); have n3_ := zM ((by rw [hg]; exact (below_size (zB HB.out)) : w.heap.size ≤ gb218)); clear HB; have HB := n0_; have BK218 := n1_; have GW218 := n2_; have GE218 := n3_; clear n0_ n1_ n2_ n3_; clear hb hbox hg; have hcz22_0 : w21.cell? ⟨gb218, 0, none⟩ = some (.int .i64 0) := (blk_cell BK218.out 0).trans rfl; have hcz22_1 : w21.cell? ⟨gb218, 1, none⟩ = some (.int .i64 0) := (blk_cell BK218.out 1).trans rfl; have hfz22_0 := blk_frozen BK218.out 0; have hfz22_1 := blk_frozen BK218.out 1; have p219 : 0 ≤ ((ji15) : Int) := zD; have q219 : (ji15) < (l0.length : Int) := zD; obtain ⟨ad219, e219, hx219_0, hx219_1⟩ := at_T26 HR0.out (ji15) p219 q219; obtain rfl : ad217 = ad219 := (by injection e219); have hn219_0 : ad217.block ≠ gb218 := Nat.ne_of_lt (Nat.lt_of_lt_of_le (by have := World.block_lt_of_cell? _ _ hx219_0; first | rwa [add_block] at this | exact this) GW218.out); have hn219_1 : ad217.block ≠ gb218 := Nat.ne_of_lt (Nat.lt_of_lt_of_le (by have := World.block_lt_of_cell? _ _ hx219_0; first | rwa [add_block] at this | exact this) GW218.out); replace hx219_0 := (HB.out.cell (World.block_lt_of_cell? w _ hx219_0)).trans hx219_0; replace hx219_1 := (HB.out.cell (World.block_lt_of_cell? w _ hx219_1)).trans hx219_1; replace hx219_0 := (cell_far (p := ⟨gb218, 0, none⟩) (by first | (rw [add_block]; exact hn219_0) | (show (Addr.add _ _).block ≠ _; rw [add_block]; exact hn219_0) | exact hn219_0) (.int .i64 ((rd_T26 l0 x7_1).f0))).trans hx219_0; replace hx219_1 := (cell_far (p := ⟨gb218, 0, none⟩) (by first | (rw [add_block]; exact hn219_0) | (show (Addr.add _ _).block ≠ _; rw [add_block]; exact hn219_0) | exact hn219_0) (.int .i64 ((rd_T26 l0 x7_1).f0))).trans hx219_1; replace hx219_0 := (cell_far (p := ⟨gb218, 1, none⟩) (by first | (rw [add_block]; exact hn219_1) | (show (Addr.add _ _).block ≠ _; rw [add_block]; exact hn219_1) | exact hn219_1) (.int .i64 ((rd_T26 l0 x7_1).f1))).trans hx219_0; replace hx219_1 := (cell_far (p := ⟨gb218, 1, none⟩) (by first | (rw [add_block]; exact hn219_1) | (show (Addr.add _ _).block ≠ _; rw [add_block]; exact hn219_1) | exact hn219_1) (.int .i64 ((rd_T26 l0 x7_1).f1))).trans hx219_1; (try have hy219_0 := fun (n_ : Nat) => (show ((((w21.drewN n_).setCell ⟨gb218, 0, none⟩ (.int .i64 ((rd_T26 l0 x7_1).f0))).setCell ⟨gb218, 1, none⟩ (.int .i64 ((rd_T26 l0 x7_1).f1)))).cell? _ = some _ from hx219_0)); (try have hy219_1 := fun (n_ : Nat) => (show ((((w21.drewN n_).setCell ⟨gb218, 0, none⟩ (.int .i64 ((rd_T26 l0 x7_1).f0))).setCell ⟨gb218, 1, none⟩ (.int .i64 ((rd_T26 l0 x7_1).f1)))).cell? _ = some _ from hx219_1)); clear hn219_0; clear hn219_1; replace p219 := eq_true p219; replace q219 := eq_true q219)); try go_wp2_with (first | ((with_reducible refine gate_dst (N := 4) rfl ?_); refine box_event ?hg (N := 4) ?hd (cs := #[.int .i64 0, .int .i64 0]) (t := 26) ?hr ?_; (case hd => rfl); (case hg => rfl); (case hr => first | (go_simp; done) | (go_simp; rfl)); intro gb218 hg w21 hbox hb; have n0_ := zM (below_step (zB HB.out) hb); have n1_ := zM (hbox); have n2_ := zM ((by rw [hg]; exact (below_size (zB HB.out)) : w.heap.size ≤ gb218)); have n3_ := zM ((by rw [hg]; exact (below_size (zB HB.out)) : w.heap.size ≤ gb218)); clear HB; have HB := n0_; have BK218 := n1_; have GW218 := n2_; have GE218 := n3_; clear n0_ n1_ n2_ n3_; clear hb hbox hg; have hcz22_0 : w21.cell? ⟨gb218, 0, none⟩ = some (.int .i64 0) := (blk_cell BK218.out 0).trans rfl; have hcz22_1 : w21.cell? ⟨gb218, 1, none⟩ = some (.int .i64 0) := (blk_cell BK218.out 1).trans rfl; have hfz22_0 := blk_frozen BK218.out 0; have hfz22_1 := blk_frozen BK218.out 1; have p219 : 0 ≤ ((ji15) : Int) := zD; have q219 : (ji15) < (l0.length : Int) := zD; obtain ⟨ad219, e219, hx219_0, hx219_1⟩ := at_T26 HR0.out (ji15) p219 q219; obtain rfl : ad217 = ad219 := (by injection e219); have hn219_0 : ad217.block ≠ gb218 := Nat.ne_of_lt (Nat.lt_of_lt_of_le (by have := World.block_lt_of_cell? _ _ hx219_0; first | rwa [add_block] at this | exact this) GW218.out); have hn219_1 : ad217.block ≠ gb218 := Nat.ne_of_lt (Nat.lt_of_lt_of_le (by have := World.block_lt_of_cell? _ _ hx219_0; first | rwa [add_block] at this | exact this) GW218.out); replace hx219_0 := (HB.out.cell (World.block_lt_of_cell? w _ hx219_0)).trans hx219_0; replace hx219_1 := (HB.out.cell (World.block_lt_of_cell? w _ hx219_1)).trans hx219_1; replace hx219_0 := (cell_far (p := ⟨gb218, 0, none⟩) (by first | (rw [add_block]; exact hn219_0) | (show (Addr.add _ _).block ≠ _; rw [add_block]; exact hn219_0) | exact hn219_0) (.int .i64 ((rd_T26 l0 x7_1).f0))).trans hx219_0; replace hx219_1 := (cell_far (p := ⟨gb218, 0, none⟩) (by first | (rw [add_block]; exact hn219_0) | (show (Addr.add _ _).block ≠ _; rw [add_block]; exact hn219_0) | exact hn219_0) (.int .i64 ((rd_T26 l0 x7_1).f0))).trans hx219_1; replace hx219_0 := (cell_far (p := ⟨gb218, 1, none⟩) (by first | (rw [add_block]; exact hn219_1) | (show (Addr.add _ _).block ≠ _; rw [add_block]; exact hn219_1) | exact hn219_1) (.int .i64 ((rd_T26 l0 x7_1).f1))).trans hx219_0; replace hx219_1 := (cell_far (p := ⟨gb218, 1, none⟩) (by first | (rw [add_block]; exact hn219_1) | (show (Addr.add _ _).block ≠ _; rw [add_block]; exact hn219_1) | exact hn219_1) (.int .i64 ((rd_T26 l0 x7_1).f1))).trans hx219_1; (try have hy219_0 := fun (n_ : Nat) => (show ((((w21.drewN n_).setCell ⟨gb218, 0, none⟩ (.int .i64 ((rd_T26 l0 x7_1).f0))).setCell ⟨gb218, 1, none⟩ (.int .i64 ((rd_T26 l0 x7_1).f1)))).cell? _ = some _ from hx219_0)); (try have hy219_1 := fun (n_ : Nat) => (show ((((w21.drewN n_).setCell ⟨gb218, 0, none⟩ (.int .i64 ((rd_T26 l0 x7_1).f0))).setCell ⟨gb218, 1, none⟩ (.int .i64 ((rd_T26 l0 x7_1).f1)))).cell? _ = some _ from hx219_1)); clear hn219_0; clear hn219_1; replace p219 := eq_true p219; replace q219 := eq_true q219)))
             go_roundg k1
             case measure => have := HK1.out; omega
             case rel => exact ⟨(wrap64 (x7_1 + 1)), zS, H', ⟨by have := HK1.out; omega⟩, ⟨(zB1 GE218.out HB.out)⟩⟩
           ·rw [if_neg c17] at H
            exact absurd H (by simp)
          ·rw [if_neg c16] at H
           exact absurd H (by simp)
         ·rw [if_neg c14] at H
          have c14b0 : decide (0 < x7_1) = false := decide_eq_false c14
          clear c14
          have H' := zM H
          clear H
          have p217 : 0 ≤ (x7_1 : Int) := zD
          have q217 : x7_1 < (l0.length : Int) := zD
          obtain ⟨ad217, e217, hx217_0, hx217_1⟩ := at_T26 HR0.out x7_1 p217 q217
          cases e217
          replace hx217_0 := (HB.out.cell (World.block_lt_of_cell? w _ hx217_0)).trans hx217_0
          replace hx217_1 := (HB.out.cell (World.block_lt_of_cell? w _ hx217_1)).trans hx217_1
          replace p217 := eq_true p217
          replace q217 := eq_true q217
          go_wp2_with (first | ((with_reducible refine gate_dst (N := 4) rfl ?_); refine box_event ?hg (N := 4) ?hd (cs := #[.int .i64 0, .int .i64 0]) (t := 26) ?hr ?_; (case hd => rfl); (case hg => rfl); (case hr => first | (go_simp; done) | (go_simp; rfl)); intro gb218 hg w23 hbox hb; have n0_ := zM (below_step (zB HB.out) hb); have n1_ := zM (hbox); have n2_ := zM ((by rw [hg]; exact (below_size (zB HB.out)) : w.heap.size ≤ gb218)); have n3_ := zM ((by rw [hg]; exact (below_size (zB HB.out)) : w.heap.size ≤ gb218)); clear HB; have HB := n0_; have BK218 := n1_; have GW218 := n2_; have GE218 := n3_; clear n0_ n1_ n2_ n3_; clear hb hbox hg; have hcz24_0 : w23.cell? ⟨gb218, 0, none⟩ = some (.int .i64 0) := (blk_cell BK218.out 0).trans rfl; have hcz24_1 : w23.cell? ⟨gb218, 1, none⟩ = some (.int .i64 0) := (blk_cell BK218.out 1).trans rfl; have hfz24_0 := blk_frozen BK218.out 0; have hfz24_1 := blk_frozen BK218.out 1))
          repeat (go_quiet (first | ((with_reducible refine gate_dst (N := 4) rfl ?_); refine box_event ?hg (N := 4) ?hd (cs := #[.int .i64 0, .int .i64 0]) (t := 26) ?hr ?_; (case hd => rfl); (case hg => rfl); (case hr => first | (go_simp; done) | (go_simp; rfl)); intro gb218 hg w23 hbox hb; have n0_ := zM (below_step (zB HB.out) hb); have n1_ := zM (hbox); have n2_ := zM ((by rw [hg]; exact (below_size (zB HB.out)) : w.heap.size ≤ gb218)); have n3_ := zM ((by rw [hg]; exact (below_size (zB HB.out)) : w.heap.size ≤ gb218)); clear HB; have HB := n0_; have BK218 := n1_; have GW218 := n2_; have GE218 := n3_; clear n0_ n1_ n2_ n3_; clear hb hbox hg; have hcz24_0 : w23.cell? ⟨gb218, 0, none⟩ = some (.int .i64 0) := (blk_cell BK218.out 0).trans rfl; have hcz24_1 : w23.cell? ⟨gb218, 1, none⟩ = some (.int .i64 0) := (blk_cell BK218.out 1).trans rfl; have hfz24_0 := blk_frozen BK218.out 0; have hfz24_1 := blk_frozen BK218.out 1)); try go_wp2_with (first | ((with_reducible refine gate_dst (N := 4) rfl ?_); refine box_event ?hg (N := 4) ?hd (cs := #[.int .i64 0, .int .i64 0]) (t := 26) ?hr ?_; (case hd => rfl); (case hg => rfl); (case hr => first | (go_simp; done) | (go_simp; rfl)); intro gb218 hg w23 hbox hb; have n0_ := zM (below_step (zB HB.out) hb); have n1_ := zM (hbox); have n2_ := zM ((by rw [hg]; exact (below_size (zB HB.out)) : w.heap.size ≤ gb218)); have n3_ := zM ((by rw [hg]; exact (below_size (zB HB.out)) : w.heap.size ≤ gb218)); clear HB; have HB := n0_; have BK218 := n1_; have GW218 := n2_; have GE218 := n3_; clear n0_ n1_ n2_ n3_; clear hb hbox hg; have hcz24_0 : w23.cell? ⟨gb218, 0, none⟩ = some (.int .i64 0) := (blk_cell BK218.out 0).trans rfl; have hcz24_1 : w23.cell? ⟨gb218, 1, none⟩ = some (.int .i64 0) := (blk_cell BK218.out 1).trans rfl; have hfz24_0 := blk_frozen BK218.out 0; have hfz24_1 := blk_frozen BK218.out 1)))
          go_roundg k1
          case measure => have := HK1.out; omega
          case rel => exact ⟨(wrap64 (x7_1 + 1)), zS, H', ⟨by have := HK1.out; omega⟩, ⟨(zB1 GE218.out HB.out)⟩⟩
     ·rw [if_neg c4] at H
      exact absurd H (by simp)
    ·rw [if_neg c3] at H
     exact absurd H (by simp)
   ·rw [if_neg c2] at H
    have c2b0 : decide (x7_1 < (l0.length : Int)) = false := decide_eq_false c2
    clear c2
    obtain rfl := Option.some.inj H
    go_wp2
    repeat (go_quiet (fail); try go_wp2)
    go_ret
    exact ⟨zE, (zB HB.out)⟩

end Go.Proofs.Yteahdfibipalkaa.G

namespace Go.Proofs.Yteahdfibipalkaa.G
open Go.RowKit Go.Proofs.YteahdfibipalkaaW.PrintWords Go.Proofs.YteahdfibipalkaaW.PrintLast Go.Proofs.YteahdfibipalkaaW.PrintMore
attribute [local go_sem] max2_int min2_int max_two min_two max_three min_three max_four min_four   -- for this text's walks alone
set_option linter.unusedVariables false
set_option linter.unusedSimpArgs false

/-! ### impl_Span_38: function 38 -/
set_option maxHeartbeats 8000000 in
set_option maxRecDepth 100000 in
theorem impl_Span_38.calls (A0 : Option Addr) (c0 : Nat) (l0 : List (S26)) (r : List (S26)) (w : World) (hr0 : Kd.C k26 w A0 l0.length l0) (hc0 : l0.length ≤ c0) (h : impl_Span_38.f l0 = some r) :
  Calls Try.prog 38 #[.slice A0 l0.length c0] w fun e w' => ∃ v0_ : Value, e = .returned (v0_) ∧ Kd.R k26 26 w' w.heap.size (fun _ => True) v0_ r ∧ Below w.heap.size w w' := by
 have q_ : ∀ (w : World) (a : Option Addr) (n c n' c' : Nat), (binOp .eql 24 (.slice a n c) (.slice none n' c')).run Try.prog w = .ok (.bool a.isNone) w := fun w a n c n' c' => Lib.run_eql_slice_nil w _ _ a n c n' c' Try.underlying24
 by_cases hA : A0 = none
 ·subst hA
  obtain rfl : l0 = [] := by
   rcases l0 with _ | ⟨x, t⟩
   ·rfl
   ·obtain ⟨ad, e, _⟩ := hr0.2.2 (by simp)
    cases e
  obtain rfl : r = [] := by simpa [impl_Span_38.f] using h.symm
  clear hr0 hc0 h
  go_enter Try.func38, Try.ntmps38
  go_wp2
  go_ret
  exact ⟨_, rfl, Kd.R_nil _ _ _ _ _, Below.refl _ _⟩
 have hA' : A0.isNone = false := by cases A0 <;> simp_all
 clear hA
 have HR0 := zM hr0
 have HC0 := zM hc0
 clear hr0 hc0
 have HB := zM (Below.refl w.heap.size w)
 have H : ((some (([] : List (S26)) : List (S26))).bind fun y220 => (if y220.length + l0.length < 8796093022208 then (some (y220 ++ l0)) else (none))) = some r := h
 clear h
 obtain ⟨y220, hy220⟩ : ∃ y_ : List (S26), y_ = (([] : List (S26))) := ⟨_, rfl⟩
 replace H : (if y220.length + l0.length < 8796093022208 then (some (y220 ++ l0)) else (none)) = some r := zH hy220 H
 have Ny220 := zM hy220
 clear hy220
 by_cases c2 : y220.length + l0.length < 8796093022208
 ·rw [if_pos c2] at H
  have LMc2 := zM c2
  clear c2
  obtain ⟨y223, hy223⟩ : ∃ y_ : List (S26), y_ = (y220 ++ l0) := ⟨_, rfl⟩
  replace H : (some y223) = some r := zH hy223 H
  have Ny223 := zM hy223
  clear hy223
  obtain rfl := Option.some.inj H
  go_enter Try.func38, Try.ntmps38
  go_wp2_with (first | ((with_reducible refine gate_dst (N := 5) rfl ?_); refine Kd.R_lit k26 _ 26 ?hg (N := 5) ?hd (xs := ([] : List (S26))) (inner := []) (ok := fun _ => True) (okp := fun _ => True) ?hr ?hp (fun _ hk => hk) trivial (Below.refl _ _) (Nat.le_refl _) (by simp) ?_; (case hd => rfl); (case hg => rfl); (case hr => first | (go_simp; done) | (go_simp; rfl)); (case hp => exact (Reps.none _ _)); intro v221 w3 ho4 hb hg_ hnew_; clear hg_ hnew_; (first | rw [← Ny220.out] at ho4 | (simp only [Int.reduceToNat] at ho4; rw [← Ny220.out] at ho4)); have n0_ := zM (Kd.R_lower ho4 (below_size (zB HB.out))); have n1_ := zM (below_step (zB HB.out) hb); clear HB; have HO222 := n0_; have HB := n1_; clear n0_ n1_; clear hb ho4) | ((with_reducible refine gate_builtin (b := .append) (xs := #[.tmp 5, .tmp 6]) rfl ?_); at_builtin; refine Kd.R_append_rows k26 (w0 := w) w.heap.size rfl (.tmp 5) (.tmp 6) 24 26 (.agg #[(.int .i64 0), (.int .i64 0)]) 16 rfl Try.underlying24 info26 rfl (by decide) (by omega) v221 y220 l0 _ _ _ (fun _ => True) (fun _ => False) rfl rfl ?aO ?aR (fun _ _ h => h) (fun _ h => h.elim) ?aF ?aB ?aS ?aL ?_; (case aR => exact (zC (Kd.C_below HR0.out HB.out))); (case aB => exact (zB HB.out)); (case aF => exact (fun _ _ => trivial)); (case aO => exact (zR HO222.out)); (case aS => exact (below_size (zB HB.out))); (case aL => have := LMc2.out; omega); intro v224 w5 ho hb hg hat; rw [← Ny223.out] at ho; have n0_ := zM (hb); have n1_ := zM (ho); clear HB; clear HO222; have HB := n0_; have HO225 := n1_; clear n0_ n1_; clear ho hb hg hat))
  go_ret
  exact ⟨_, zE, (zR HO225.out), (zB HB.out)⟩
 ·rw [if_neg c2] at H
  exact absurd H (by simp)

end Go.Proofs.Yteahdfibipalkaa.G

namespace Go.Proofs.Yteahdfibipalkaa.G
open Go.RowKit Go.Proofs.YteahdfibipalkaaW.PrintWords Go.Proofs.YteahdfibipalkaaW.PrintLast Go.Proofs.YteahdfibipalkaaW.PrintMore
attribute [local go_sem] max2_int min2_int max_two min_two max_three min_three max_four min_four   -- for this text's walks alone
set_option linter.unusedVariables false
set_option linter.unusedSimpArgs false

/-! ### impl_AddSpan: function 8 -/
def impl_AddSpan.T5 : Bool × List (List Nat × List Nat) := (true, [([], []), ([], []), ([1], [1]), ([0, 2], [0, 2]), ([3], [3]), ([4], [4]), ([4], [4]), ([5, 6, 4], [4, 5, 6]), ([7, 4], [4, 7]), ([8, 4], [4, 8]), ([4], [4]), ([10, 4], [4, 10]), ([9, 11, 4], [4, 9, 11]), ([4, 12], [4, 12])])
def impl_AddSpan.B5 : List Nat := [0, 0, 2, 7, 15, 31, 31, 127, 255, 511, 31, 1055, 4095, 8191]
theorem impl_AddSpan.tab5 : rtab .any (opsOf Try.f8 5) = impl_AddSpan.T5 := by kernel_rfl
theorem impl_AddSpan.bits5 : waitsOk impl_AddSpan.T5.2 impl_AddSpan.B5 = true := by kernel_rfl
def impl_AddSpan.T8 : Bool × List (List Nat × List Nat) := (true, [([], []), ([], []), ([1], [1]), ([0, 2], [0, 2]), ([3], [3]), ([4], [4]), ([4], [4]), ([5, 6, 4], [4, 5, 6]), ([7, 4], [4, 7]), ([8, 4], [4, 8]), ([4], [4]), ([10, 4], [4, 10]), ([9, 11, 4], [4, 9, 11]), ([4, 12], [4, 12])])
def impl_AddSpan.B8 : List Nat := [0, 0, 2, 7, 15, 31, 31, 127, 255, 511, 31, 1055, 4095, 8191]
theorem impl_AddSpan.tab8 : rtab .any (opsOf Try.f8 8) = impl_AddSpan.T8 := by kernel_rfl
theorem impl_AddSpan.bits8 : waitsOk impl_AddSpan.T8.2 impl_AddSpan.B8 = true := by kernel_rfl
def impl_AddSpan.T10 : Bool × List (List Nat × List Nat) := (true, [([], []), ([0], [0]), ([], []), ([], []), ([2, 3], [2, 3]), ([4], [4]), ([5], [5]), ([1, 6], [1, 6]), ([], []), ([8], [8]), ([], []), ([], []), ([10, 11], [10, 11]), ([12], [12]), ([13], [13]), ([9, 14], [9, 14]), ([7, 15], [7, 15]), ([16, 0, 1, 2, 3, 4, 5, 6, 7, 8, 9, 10, 11, 12, 13, 14, 15, 16], [16])])
def impl_AddSpan.B10 : List Nat := [0, 1, 0, 0, 12, 28, 60, 127, 0, 256, 0, 0, 3072, 7168, 15360, 32512, 65535, 131071]
theorem impl_AddSpan.tab10 : rtab .any (opsOf Try.f8 10) = impl_AddSpan.T10 := by kernel_rfl
theorem impl_AddSpan.bits10 : waitsOk impl_AddSpan.T10.2 impl_AddSpan.B10 = true := by kernel_rfl
def impl_AddSpan.T11 : Bool × List (List Nat × List Nat) := (true, [([], []), ([], []), ([1], [1]), ([0, 2], [0, 2]), ([], []), ([], []), ([4, 5], [4, 5]), ([3, 6, 3], [3, 6]), ([7, 7, 0, 1, 2, 3, 4, 5, 6, 7], [7])])
def impl_AddSpan.B11 : List Nat := [0, 0, 2, 7, 0, 0, 48, 127, 255]
theorem impl_AddSpan.tab11 : rtab .any (opsOf Try.f8 11) = impl_AddSpan.T11 := by kernel_rfl
theorem impl_AddSpan.bits11 : waitsOk impl_AddSpan.T11.2 impl_AddSpan.B11 = true := by kernel_rfl
set_option maxHeartbeats 8000000 in
set_option maxRecDepth 100000 in
theorem impl_AddSpan.calls (k : Nat) (A0 : Option Addr) (c0 : Nat) (l0 : List (S26)) (a1_0 : Int) (a1_1 : Int) (r : List (S26)) (w : World) (hr0 : Kd.C k26 w A0 l0.length l0) (hc0 : l0.length ≤ c0) (h : impl_AddSpan.f k l0 a1_0 a1_1 = some r) :
  Calls Try.prog 8 #[.slice A0 l0.length c0, .agg #[.int .i64 a1_0, .int .i64 a1_1]] w fun e w' => ∃ v0_ : Value, e = .returned (v0_) ∧ Kd.R k26 26 w' w.heap.size (fun _ => True) v0_ r ∧ Below w.heap.size w w' := by
 have hu26 := Try.underlying26
 have HR0 := zM hr0
 have HC0 := zM hc0
 clear hr0 hc0
 have HB := zM (Below.refl w.heap.size w)
 have H : ((impl_IsSpanSet.f k l0).bind fun t227 => (if t227 = true then (if a1_0 ≥ a1_1 then (impl_AddSpan.j0 k l0 true a1_0 a1_1) else (if a1_0 < 0 then (impl_AddSpan.j0 k l0 true a1_0 a1_1) else (impl_AddSpan.j0 k l0 (decide (a1_1 > 1000000000000)) a1_0 a1_1))) else (impl_AddSpan.j0 k l0 true a1_0 a1_1))) = some r := h
 clear h
 have HC3 := zM H
 clear H
 go_enter Try.func8, Try.ntmps8
 go_upto_region 1 with (first | ((with_reducible refine gate_dst (N := 3) rfl ?_); refine box_event ?hg (N := 3) ?hd (cs := #[.int .i64 a1_0, .int .i64 a1_1]) (t := 26) ?hr ?_; (case hd => rfl); (case hg => rfl); (case hr => first | (go_simp; done) | (go_simp; rfl)); intro gb226 hg w4 hbox hb; have n0_ := zM (below_step (zB HB.out) hb); have n1_ := zM (hbox); have n2_ := zM ((by rw [hg]; exact (below_size (zB HB.out)) : w.heap.size ≤ gb226)); have n3_ := zM ((by rw [hg]; exact (below_size (zB HB.out)) : w.heap.size ≤ gb226)); clear HB; have HB := n0_; have BK226 := n1_; have GW226 := n2_; have GE226 := n3_; clear n0_ n1_ n2_ n3_; clear hb hbox hg))
 (try simp only [Act.put, List.setIfInBounds_toArray, List.set_cons_zero, List.set_cons_succ])
 go_cut [26] (fun v26 wc => ∃ (kq : Nat) (x26_2 : Bool), v26 = .bool x26_2 ∧ Aside0 (impl_AddSpan.j0 kq l0 x26_2 a1_0 a1_1 = some r) ∧ Aside0 (kq ≤ k) ∧ Aside0 (wc.heap[gb226]? = some (.cells #[.int .i64 a1_0, .int .i64 a1_1] 26 (0, 0))) ∧ Aside0 (Below w.heap.size w wc))
 case first =>
  have H := HC3.out
  clear HC3
  replace H := Option.bind_eq_some_iff.mp H
  obtain ⟨t227, A50, H⟩ := H
  try dsimp only at H
  have A5 := zM A50
  clear A50
  by_cases c6 : t227 = true
  ·subst c6
   rw [if_pos rfl] at H
   by_cases c7 : a1_0 ≥ a1_1
   ·rw [if_pos c7] at H
    have c7b0 : decide (a1_1 ≤ a1_0) = true := decide_eq_true c7
    clear c7
    (first | rw [c7b0] | (simp only [i64_w, i32_w]; rw [c7b0]) | skip)
    have H' := zM H
    clear H
    go_wp2_with (first | ((with_reducible refine gate_callee (f := 16) rfl ?_); refine zG (some 8) Try.func16 #[.slice A0 l0.length c0] ?_; (with_reducible refine (impl_IsSpanSet.calls k _ _ l0 true _ ?side1 ?side2 A5.out).mono ?_); (case side1 => exact (zC (Kd.C_below HR0.out HB.out))); (case side2 => exact HC0.out); rintro e w8 ⟨rfl, hb⟩; refine ⟨_, rfl, ?_⟩; have n0_ := zM (blk_below (g := gb226) (o := .cells #[.int .i64 a1_0, .int .i64 a1_1] 26 (0, 0)) (zP BK226.out) hb); have n1_ := zM (below_step (zB1 GE226.out HB.out) hb); clear BK226; clear HB; have BK226 := n0_; have HB := n1_; clear n0_ n1_; (try clear hb); (try clear hb2); (try clear hk); (try clear hi); have hcz9_0 : w8.cell? ⟨gb226, 0, none⟩ = some (.int .i64 a1_0) := (blk_cell BK226.out 0).trans rfl; have hcz9_1 : w8.cell? ⟨gb226, 1, none⟩ = some (.int .i64 a1_1) := (blk_cell BK226.out 1).trans rfl; have hfz9_0 := blk_frozen BK226.out 0; have hfz9_1 := blk_frozen BK226.out 1))
    go_meet
    case rel => exact ⟨_, (true), zS, H', ⟨by first | omega | exact Nat.le_refl _⟩, ⟨(zP BK226.out)⟩, ⟨(zB1 GE226.out HB.out)⟩⟩
   ·rw [if_neg c7] at H
    have c7b0 : decide (a1_1 ≤ a1_0) = false := decide_eq_false c7
    clear c7
    (first | rw [c7b0] | (simp only [i64_w, i32_w]; rw [c7b0]) | skip)
    by_cases c10 : a1_0 < 0
    ·rw [if_pos c10] at H
     have c10b0 : decide (a1_0 < 0) = true := decide_eq_true c10
     clear c10
     have H' := zM H
     clear H
     go_wp2_with (first | ((with_reducible refine gate_callee (f := 16) rfl ?_); refine zG (some 8) Try.func16 #[.slice A0 l0.length c0] ?_; (with_reducible refine (impl_IsSpanSet.calls k _ _ l0 true _ ?side1 ?side2 A5.out).mono ?_); (case side1 => exact (zC (Kd.C_below HR0.out HB.out))); (case side2 => exact HC0.out); rintro e w11 ⟨rfl, hb⟩; refine ⟨_, rfl, ?_⟩; have n0_ := zM (blk_below (g := gb226) (o := .cells #[.int .i64 a1_0, .int .i64 a1_1] 26 (0, 0)) (zP BK226.out) hb); have n1_ := zM (below_step (zB1 GE226.out HB.out) hb); clear BK226; clear HB; have BK226 := n0_; have HB := n1_; clear n0_ n1_; (try clear hb); (try clear hb2); (try clear hk); (try clear hi); have hcz12_0 : w11.cell? ⟨gb226, 0, none⟩ = some (.int .i64 a1_0) := (blk_cell BK226.out 0).trans rfl; have hcz12_1 : w11.cell? ⟨gb226, 1, none⟩ = some (.int .i64 a1_1) := (blk_cell BK226.out 1).trans rfl; have hfz12_0 := blk_frozen BK226.out 0; have hfz12_1 := blk_frozen BK226.out 1))
     go_meet
     case rel => exact ⟨_, (true), zS, H', ⟨by first | omega | exact Nat.le_refl _⟩, ⟨(zP BK226.out)⟩, ⟨(zB1 GE226.out HB.out)⟩⟩
    ·rw [if_neg c10] at H
     have c10b0 : decide (a1_0 < 0) = false := decide_eq_false c10
     clear c10
     have H' := zM H
     clear H
     go_wp2_with (first | ((with_reducible refine gate_callee (f := 16) rfl ?_); refine zG (some 8) Try.func16 #[.slice A0 l0.length c0] ?_; (with_reducible refine (impl_IsSpanSet.calls k _ _ l0 true _ ?side1 ?side2 A5.out).mono ?_); (case side1 => exact (zC (Kd.C_below HR0.out HB.out))); (case side2 => exact HC0.out); rintro e w13 ⟨rfl, hb⟩; refine ⟨_, rfl, ?_⟩; have n0_ := zM (blk_below (g := gb226) (o := .cells #[.int .i64 a1_0, .int .i64 a1_1] 26 (0, 0)) (zP BK226.out) hb); have n1_ := zM (below_step (zB1 GE226.out HB.out) hb); clear BK226; clear HB; have BK226 := n0_; have HB := n1_; clear n0_ n1_; (try clear hb); (try clear hb2); (try clear hk); (try clear hi); have hcz14_0 : w13.cell? ⟨gb226, 0, none⟩ = some (.int .i64 a1_0) := (blk_cell BK226.out 0).trans rfl; have hcz14_1 : w13.cell? ⟨gb226, 1, none⟩ = some (.int .i64 a1_1) := (blk_cell BK226.out 1).trans rfl; have hfz14_0 := blk_frozen BK226.out 0; have hfz14_1 := blk_frozen BK226.out 1))
     go_meet
     case rel => exact ⟨_, (decide (a1_1 > 1000000000000)), zS, H', ⟨by first | omega | exact Nat.le_refl _⟩, ⟨(zP BK226.out)⟩, ⟨(zB1 GE226.out HB.out)⟩⟩
  ·replace c6 := Bool.eq_false_iff.mpr c6
   subst c6
   rw [if_neg (show ¬ (false = true) by decide)] at H
   have H' := zM H
   clear H
   go_wp2_with (first | ((with_reducible refine gate_callee (f := 16) rfl ?_); refine zG (some 8) Try.func16 #[.slice A0 l0.length c0] ?_; (with_reducible refine (impl_IsSpanSet.calls k _ _ l0 false _ ?side1 ?side2 A5.out).mono ?_); (case side1 => exact (zC (Kd.C_below HR0.out HB.out))); (case side2 => exact HC0.out); rintro e w15 ⟨rfl, hb⟩; refine ⟨_, rfl, ?_⟩; have n0_ := zM (blk_below (g := gb226) (o := .cells #[.int .i64 a1_0, .int .i64 a1_1] 26 (0, 0)) (zP BK226.out) hb); have n1_ := zM (below_step (zB1 GE226.out HB.out) hb); clear BK226; clear HB; have BK226 := n0_; have HB := n1_; clear n0_ n1_; (try clear hb); (try clear hb2); (try clear hk); (try clear hi)))
   go_meet
   case rel => exact ⟨_, (true), zS, H', ⟨by first | omega | exact Nat.le_refl _⟩, ⟨(zP BK226.out)⟩, ⟨(zB1 GE226.out HB.out)⟩⟩
 case rest =>
  clear HC3
  try clear c1
  try clear p2
  try clear c6
  try clear c7
  try clear c7b0
  try clear c8
  try clear c10
  try clear c10b0
  try clear hcz12_0
  try clear hcz12_1
  try clear hcz14_0
  try clear hcz14_1
  try clear hcz9_0
  try clear hcz9_1
  try clear hfz12_0
  try clear hfz12_1
  try clear hfz14_0
  try clear hfz14_1
  try clear hfz9_0
  try clear hfz9_1
  obtain ⟨kq, x26_2, rfl, HA, HJ2, BK226, HB⟩ := hcut
  cases kq with
  | zero => exact absurd HA.out (by simp [impl_AddSpan.j0])
  | succ kj2 =>
   have H := HA.out
   clear HA
   simp only [impl_AddSpan.j0] at H
   by_cases c16 : x26_2 = true
   ·subst c16
    rw [if_pos rfl] at H
    replace H := Option.bind_eq_some_iff.mp H
    obtain ⟨t228, A170, H⟩ := H
    try dsimp only at H
    have A17 := zM A170
    clear A170
    obtain rfl := Option.some.inj H
    go_wp2_with (first | ((with_reducible refine gate_callee (f := 38) rfl ?_); refine zG (some 28) Try.func38 #[.slice A0 l0.length c0] ?_; (with_reducible refine (impl_Span_38.calls _ _ l0 t228 _ ?side1 ?side2 A17.out).mono ?_); (case side1 => exact (zC (Kd.C_below HR0.out HB.out))); (case side2 => exact HC0.out); rintro e w18 ⟨v229, rfl, ho0, hb⟩; refine ⟨_, rfl, ?_⟩; have n0_ := zM (Kd.R_lower (Kd.R_newB ho0 (g := gb226) (o := .cells #[.int .i64 a1_0, .int .i64 a1_1] 26 (0, 0)) (zP BK226.out)) (below_size (zB1 GE226.out HB.out))); have n1_ := zM (blk_below (g := gb226) (o := .cells #[.int .i64 a1_0, .int .i64 a1_1] 26 (0, 0)) (zP BK226.out) hb); have n2_ := zM (below_step (zB1 GE226.out HB.out) hb); clear BK226; clear HB; have HO230 := n0_; have BK226 := n1_; have HB := n2_; clear n0_ n1_ n2_; (try clear hb); (try clear hb2); (try clear hk); (try clear hi); (try clear ho0)))
    go_ret
    exact ⟨_, zE, (zRm HO230.out (fun _ hk => trivial)), (zB1 GE226.out HB.out)⟩
   ·replace c16 := Bool.eq_false_iff.mpr c16
    subst c16
    rw [if_neg (show ¬ (false = true) by decide)] at H
    obtain ⟨y231, hy231⟩ : ∃ y_ : List (S26), y_ = (([] : List (S26))) := ⟨_, rfl⟩
    replace H : (impl_AddSpan.l0 kj2 l0 y231 0 a1_0 a1_1) = some r := zH hy231 H
    have Ny231 := zM hy231
    clear hy231
    have HC19 := zM H
    clear H
    go_upto_block 0 with (first | ((with_reducible refine gate_dst (N := 29) rfl ?_); refine Kd.R_lit k26 _ 26 ?hg (N := 29) ?hd (xs := ([] : List (S26))) (inner := []) (ok := fun _ => True) (okp := fun _ => True) ?hr ?hp (fun _ hk => hk) trivial (Below.refl _ _) (Nat.le_refl _) (by simp) ?_; (case hd => rfl); (case hg => rfl); (case hr => first | (go_simp; done) | (go_simp; rfl)); (case hp => exact (Reps.none _ _)); intro v232 w20 ho21 hb hg_ hnew_; clear hg_ hnew_; (first | rw [← Ny231.out] at ho21 | (simp only [Int.reduceToNat] at ho21; rw [← Ny231.out] at ho21)); have n0_ := zM (Kd.R_lower (Kd.R_newB ho21 (g := gb226) (o := .cells #[.int .i64 a1_0, .int .i64 a1_1] 26 (0, 0)) (zP BK226.out)) (below_size (zB1 GE226.out HB.out))); have n1_ := zM (blk_below (g := gb226) (o := .cells #[.int .i64 a1_0, .int .i64 a1_1] 26 (0, 0)) (zP BK226.out) hb); have n2_ := zM (below_step (zB1 GE226.out HB.out) hb); clear BK226; clear HB; have HO233 := n0_; have BK226 := n1_; have HB := n2_; clear n0_ n1_ n2_; clear hb ho21))
    (try simp only [Act.put, List.setIfInBounds_toArray, List.set_cons_zero, List.set_cons_succ])
    go_cut [5, 6] (fun v5 v6 wc => ∃ (kq : Nat) (x5_18 : List (S26)) (x6_18 : Int), v6 = .int .i64 x6_18 ∧ Aside0 (impl_AddSpan.j2 kq l0 x5_18 x6_18 a1_0 a1_1 = some r) ∧ Aside0 (kq ≤ kj2) ∧ Aside0 (Kd.R k26 26 wc w.heap.size (fun k_ => k_ ≠ gb226) v5 x5_18) ∧ Aside0 (wc.heap[gb226]? = some (.cells #[.int .i64 a1_0, .int .i64 a1_1] 26 (0, 0))) ∧ Aside0 (Below w.heap.size w wc))
    case first =>
     have H := HC19.out
     clear HC19
     have H' := zM H
     clear H
     go_wp2
     go_loopg [5, 6] kj2 (fun kq v5 v6 w' => ∃ (x5_2 : List (S26)) (x6_2 : Int), v6 = .int .i64 x6_2 ∧ Aside0 (impl_AddSpan.l0 kq l0 x5_2 x6_2 a1_0 a1_1 = some r) ∧ Aside0 (kq ≤ kj2) ∧ Aside0 (Kd.R k26 26 w' w.heap.size (fun k_ => k_ ≠ gb226) v5 x5_2) ∧ Aside0 (w'.heap[gb226]? = some (.cells #[.int .i64 a1_0, .int .i64 a1_1] 26 (0, 0))) ∧ Aside0 (Below w.heap.size w w'))
     case atStart => exact ⟨(y231), (0), zS, H', ⟨Nat.le_refl _⟩, ⟨(zRm HO233.out (fun _ hk => hk.2))⟩, ⟨(zP BK226.out)⟩, ⟨(zB1 GE226.out HB.out)⟩⟩
     case round =>
      clear H'
      try clear c1
      try clear p2
      try clear c3
      try clear c6
      try clear c7
      try clear c7b0
      try clear c8
      try clear c10
      try clear c10b0
      try clear c16
      try clear hcz12_0
      try clear hcz12_1
      try clear hcz14_0
      try clear hcz14_1
      try clear hcz9_0
      try clear hcz9_1
      try clear hfz12_0
      try clear hfz12_1
      try clear hfz14_0
      try clear hfz14_1
      try clear hfz9_0
      try clear hfz9_1
      try clear p2
      obtain ⟨x5_2, x6_2, rfl, HA, HK2, HO_5, BK226, HB⟩ := hrel
      cases gk with
      | zero => exact absurd HA.out (by simp [impl_AddSpan.l0])
      | succ k2 =>
       have H := HA.out
       clear HA
       simp only [impl_AddSpan.l0] at H
       by_cases c22 : x6_2 < (l0.length : Int)
       ·rw [if_pos c22] at H
        have c22b0 : decide (x6_2 < (l0.length : Int)) = true := decide_eq_true c22
        clear c22
        (first | rw [c22b0] | (simp only [i64_w, i32_w]; rw [c22b0]) | skip)
        by_cases c23 : 0 ≤ x6_2
        ·rw [if_pos c23] at H
         have c23b0 : decide (0 ≤ x6_2) = true := decide_eq_true c23
         clear c23
         by_cases c24 : ((rd_T26 l0 x6_2).f1) < a1_0
         ·rw [if_pos c24] at H
          have c24b0 : decide (((rd_T26 l0 x6_2).f1) < a1_0) = true := decide_eq_true c24
          clear c24
          by_cases c25 : x5_2.length < 8796093022208
          ·rw [if_pos c25] at H
           have LMc25 := zM c25
           clear c25
           obtain ⟨y236, hy236⟩ : ∃ y_ : List (S26), y_ = (x5_2 ++ [(⟨(rd_T26 l0 x6_2).f0, (rd_T26 l0 x6_2).f1⟩ : S26)]) := ⟨_, rfl⟩
           replace H : (impl_AddSpan.l0 k2 l0 y236 (wrap64 (x6_2 + 1)) a1_0 a1_1) = some r := zH hy236 H
           have Ny236 := zM hy236
           clear hy236
           have H' := zM H
           clear H
           try go_wp2
           have n0_ := zM (Kd.R_drew HO_5.out)
           have n1_ := zM (blk_drew BK226.out)
           have n2_ := zM (below_drew1 HB.out)
           clear HO_5
           clear BK226
           clear HB
           have HO_5 := n0_
           have BK226 := n1_
           have HB := n2_
           clear n0_ n1_ n2_
           have p234 : 0 ≤ (x6_2 : Int) := zD
           have q234 : x6_2 < (l0.length : Int) := zD
           obtain ⟨ad234, e234, hx234_0, hx234_1⟩ := at_T26 HR0.out x6_2 p234 q234
           have hw234_1 := hx234_1
           have hw234_0 := hx234_0
           cases e234
           replace hx234_0 := (HB.out.cell (World.block_lt_of_cell? w _ hx234_0)).trans hx234_0
           replace hx234_1 := (HB.out.cell (World.block_lt_of_cell? w _ hx234_1)).trans hx234_1
           replace p234 := eq_true p234
           replace q234 := eq_true q234
           refine start_ (n := 14) (S := fun w' => w'.cell? ⟨gb226, 0, none⟩ = some (.int .i64 a1_0) ∧ w'.cell? ⟨gb226, 1, none⟩ = some (.int .i64 a1_1) ∧ w'.cell? (ad234.add ((x6_2).toNat * 2)) = some (.int .i64 ((rd_T26 l0 x6_2).f0)) ∧ w'.cell? ⟨(ad234.add ((x6_2).toNat * 2)).block, (ad234.add ((x6_2).toNat * 2)).off + 1, none⟩ = some (.int .i64 ((rd_T26 l0 x6_2).f1))) (ds := []) (ba 14 0).toArray (by kernel_rfl) rfl rfl ⟨(blk_cell BK226.out 0).trans rfl, (blk_cell BK226.out 1).trans rfl, ((HB.out.cell (World.block_lt_of_cell? w _ hw234_0)).trans hw234_0), ((HB.out.cell (World.block_lt_of_cell? w _ hw234_1)).trans hw234_1)⟩ (fun hHeld => ?_); refine with_tabW impl_AddSpan.tab5 impl_AddSpan.bits5 (fun HT_ HW_ => ?_)
           generalize wr.drew = w26 at HO_5 BK226 HB hx234_0 hx234_1 hHeld ⊢
           refine zq 0 (some 30) (ba 14 1).toArray HT_ ?_
           refine zq 1 (some 31) (ba 14 3).toArray HT_ ?_
           refine zq 2 (some 32) (ba 14 7).toArray HT_ ?_
           refine zq 3 (some 33) (ba 14 15).toArray HT_ ?_
           refine zq 4 (some 34) (ba 14 31).toArray HT_ ?_
           refine zq 5 (some 35) (ba 14 63).toArray HT_ ?_
           refine zq 6 (some 36) (ba 14 127).toArray HT_ ?_
           refine zq 7 (some 37) (ba 14 255).toArray HT_ ?_
           refine zq 8 (some 38) (ba 14 511).toArray HT_ ?_
           refine zq 10 (some 40) (ba 14 1535).toArray HT_ ?_
           refine zt4 9 (some 39) (ba 14 2047).toArray HT_ HW_ hHeld ?_
           refine zt4 11 (some 41) (ba 14 4095).toArray HT_ HW_ hHeld ?_
           refine zq 12 (some 42) (ba 14 8191).toArray HT_ ?_
           refine zq 13 (some 43) (ba 14 16383).toArray HT_ ?_
           refine done_ (done_of HT_.out (by kernel_rfl)) ?_
           have p235 : 0 ≤ (x6_2 : Int) := zD
           have q235 : x6_2 < (l0.length : Int) := zD
           obtain ⟨ad235, e235, hx235_0, hx235_1⟩ := at_T26 HR0.out x6_2 p235 q235
           obtain rfl : ad234 = ad235 := (by injection e235)
           replace hx235_0 := (HB.out.cell (World.block_lt_of_cell? w _ hx235_0)).trans hx235_0
           replace hx235_1 := (HB.out.cell (World.block_lt_of_cell? w _ hx235_1)).trans hx235_1
           replace p235 := eq_true p235
           replace q235 := eq_true q235
           try go_wp2_with (first | ((with_reducible refine gate_builtin (b := .append) (xs := #[.tmp 46, .tmp 51]) rfl ?_); at_builtin; refine Kd.R_append k26 (w0 := w) w.heap.size rfl (.tmp 46) (.tmp 51) 24 26 (.agg #[(.int .i64 0), (.int .i64 0)]) 16 rfl Try.underlying24 info26 rfl (by decide) (by omega) u5 x5_2 (⟨(rd_T26 l0 x6_2).f0, (rd_T26 l0 x6_2).f1⟩ : S26) [.int .i64 ((rd_T26 l0 x6_2).f0), .int .i64 ((rd_T26 l0 x6_2).f1)] (fun k_ => k_ ≠ gb226) (fun _ => False) rfl rfl ?aP (fun _ hk => hk.elim) ?aF ?aO ?aB ?aS ?aL ?_; (case aP => exact k26_mkM _ _ _ (⟨(rd_T26 l0 x6_2).f0, (rd_T26 l0 x6_2).f1⟩ : S26)); (case aB => exact (zB1 GE226.out HB.out)); (case aF => exact (fun k_ hk => Kd.freshB (g := gb226) (o := .cells #[.int .i64 a1_0, .int .i64 a1_1] 26 (0, 0)) (zP BK226.out) k_ hk)); (case aO => exact (zR HO_5.out)); (case aS => exact (below_size (zB1 GE226.out HB.out))); (case aL => have := LMc25.out; omega); intro v237 w27 ho hb hg hat; rw [← Ny236.out] at ho; have n0_ := zM (blk_grown (g := gb226) (o := .cells #[.int .i64 a1_0, .int .i64 a1_1] 26 (0, 0)) (zP BK226.out) hg (Kd.R_away HO_5.out (fun _ hk => hk))); have n1_ := zM (hb); have n2_ := zM (ho); clear BK226; clear HB; clear HO_5; have BK226 := n0_; have HB := n1_; have HO238 := n2_; clear n0_ n1_ n2_; clear ho hb hg hat))
           go_roundg k2
           case measure => have := HJ2.out; have := HK2.out; omega
           case rel => exact ⟨(y236), (wrap64 (x6_2 + 1)), zS, H', ⟨by have := HJ2.out; have := HK2.out; omega⟩, ⟨(zR HO238.out)⟩, ⟨(zP BK226.out)⟩, ⟨(zB1 GE226.out HB.out)⟩⟩
          ·rw [if_neg c25] at H
           exact absurd H (by simp)
         ·rw [if_neg c24] at H
          have c24b0 : decide (((rd_T26 l0 x6_2).f1) < a1_0) = false := decide_eq_false c24
          clear c24
          have H' := zM H
          clear H
          try go_wp2
          have n0_ := zM (Kd.R_drew HO_5.out)
          have n1_ := zM (blk_drew BK226.out)
          have n2_ := zM (below_drew1 HB.out)
          clear HO_5
          clear BK226
          clear HB
          have HO_5 := n0_
          have BK226 := n1_
          have HB := n2_
          clear n0_ n1_ n2_
          have p234 : 0 ≤ (x6_2 : Int) := zD
          have q234 : x6_2 < (l0.length : Int) := zD
          obtain ⟨ad234, e234, hx234_0, hx234_1⟩ := at_T26 HR0.out x6_2 p234 q234
          have hw234_1 := hx234_1
          have hw234_0 := hx234_0
          cases e234
          replace hx234_0 := (HB.out.cell (World.block_lt_of_cell? w _ hx234_0)).trans hx234_0
          replace hx234_1 := (HB.out.cell (World.block_lt_of_cell? w _ hx234_1)).trans hx234_1
          replace p234 := eq_true p234
          replace q234 := eq_true q234
          refine start_ (n := 14) (S := fun w' => w'.cell? ⟨gb226, 0, none⟩ = some (.int .i64 a1_0) ∧ w'.cell? ⟨gb226, 1, none⟩ = some (.int .i64 a1_1) ∧ w'.cell? (ad234.add ((x6_2).toNat * 2)) = some (.int .i64 ((rd_T26 l0 x6_2).f0)) ∧ w'.cell? ⟨(ad234.add ((x6_2).toNat * 2)).block, (ad234.add ((x6_2).toNat * 2)).off + 1, none⟩ = some (.int .i64 ((rd_T26 l0 x6_2).f1))) (ds := []) (ba 14 0).toArray (by kernel_rfl) rfl rfl ⟨(blk_cell BK226.out 0).trans rfl, (blk_cell BK226.out 1).trans rfl, ((HB.out.cell (World.block_lt_of_cell? w _ hw234_0)).trans hw234_0), ((HB.out.cell (World.block_lt_of_cell? w _ hw234_1)).trans hw234_1)⟩ (fun hHeld => ?_); refine with_tabW impl_AddSpan.tab5 impl_AddSpan.bits5 (fun HT_ HW_ => ?_)
          generalize wr.drew = w28 at HO_5 BK226 HB hx234_0 hx234_1 hHeld ⊢
          refine zq 0 (some 30) (ba 14 1).toArray HT_ ?_
          refine zq 1 (some 31) (ba 14 3).toArray HT_ ?_
          refine zq 2 (some 32) (ba 14 7).toArray HT_ ?_
          refine zq 3 (some 33) (ba 14 15).toArray HT_ ?_
          refine zq 4 (some 34) (ba 14 31).toArray HT_ ?_
          refine zq 5 (some 35) (ba 14 63).toArray HT_ ?_
          refine zq 6 (some 36) (ba 14 127).toArray HT_ ?_
          refine zq 7 (some 37) (ba 14 255).toArray HT_ ?_
          refine zq 8 (some 38) (ba 14 511).toArray HT_ ?_
          refine zq 10 (some 40) (ba 14 1535).toArray HT_ ?_
          refine zt4 9 (some 39) (ba 14 2047).toArray HT_ HW_ hHeld ?_
          refine zt4 11 (some 41) (ba 14 4095).toArray HT_ HW_ hHeld ?_
          refine zq 12 (some 42) (ba 14 8191).toArray HT_ ?_
          refine zq 13 (some 43) (ba 14 16383).toArray HT_ ?_
          refine done_ (done_of HT_.out (by kernel_rfl)) ?_
          try go_wp2
          go_meet
          case rel => exact ⟨_, (x5_2), (x6_2), zS, H', ⟨by have := HJ2.out; have := HK2.out; first | omega | exact Nat.le_refl _⟩, ⟨(zR HO_5.out)⟩, ⟨(zP BK226.out)⟩, ⟨(zB1 GE226.out HB.out)⟩⟩
        ·rw [if_neg c23] at H
         exact absurd H (by simp)
       ·rw [if_neg c22] at H
        have c22b0 : decide (x6_2 < (l0.length : Int)) = false := decide_eq_false c22
        clear c22
        (first | rw [c22b0] | (simp only [i64_w, i32_w]; rw [c22b0]) | skip)
        have H' := zM H
        clear H
        try go_wp2
        have n0_ := zM (Kd.R_drew HO_5.out)
        have n1_ := zM (blk_drew BK226.out)
        have n2_ := zM (below_drew1 HB.out)
        clear HO_5
        clear BK226
        clear HB
        have HO_5 := n0_
        have BK226 := n1_
        have HB := n2_
        clear n0_ n1_ n2_
        refine start_ (n := 14) (S := fun w' => True) (ds := []) (ba 14 0).toArray (by kernel_rfl) rfl rfl trivial (fun hHeld => ?_); refine with_tabW impl_AddSpan.tab5 impl_AddSpan.bits5 (fun HT_ HW_ => ?_)
        generalize wr.drew = w29 at HO_5 BK226 HB hHeld ⊢
        refine zq 0 (some 30) (ba 14 1).toArray HT_ ?_
        refine zq 1 (some 31) (ba 14 3).toArray HT_ ?_
        refine zq 2 (some 32) (ba 14 7).toArray HT_ ?_
        refine zq 3 (some 33) (ba 14 15).toArray HT_ ?_
        refine zq 4 (some 34) (ba 14 31).toArray HT_ ?_
        refine zu 5 (some 35) (ba 14 63).toArray HT_ ?_
        refine zu 6 (some 36) (ba 14 127).toArray HT_ ?_
        refine zu 7 (some 37) (ba 14 255).toArray HT_ ?_
        refine zu 8 (some 38) (ba 14 511).toArray HT_ ?_
        refine zu 9 (some 39) (ba 14 1023).toArray HT_ ?_
        refine zu 10 (some 40) (ba 14 2047).toArray HT_ ?_
        refine zu 11 (some 41) (ba 14 4095).toArray HT_ ?_
        refine zu 12 (some 42) (ba 14 8191).toArray HT_ ?_
        refine zq 13 (some 43) (ba 14 16383).toArray HT_ ?_
        refine done_ (done_of HT_.out (by kernel_rfl)) ?_
        try go_wp2
        go_meet
        case rel => exact ⟨_, (x5_2), (x6_2), zS, H', ⟨by have := HJ2.out; have := HK2.out; first | omega | exact Nat.le_refl _⟩, ⟨(zR HO_5.out)⟩, ⟨(zP BK226.out)⟩, ⟨(zB1 GE226.out HB.out)⟩⟩
    case rest =>
     clear HC19
     try clear c1
     try clear c2
     try clear p2
     try clear q2
     try clear hx2
     try clear c3
     try clear c6
     try clear p6
     try clear c7
     try clear c7b0
     try clear c8
     try clear c10
     try clear c10b0
     try clear c16
     try clear c22
     try clear c22b0
     try clear c23
     try clear c23b0
     try clear p23
     try clear q23
     try clear hx23
     try clear c24
     try clear c24b0
     try clear c25
     try clear hcz12_0
     try clear hcz12_1
     try clear hcz14_0
     try clear hcz14_1
     try clear hcz9_0
     try clear hcz9_1
     try clear hfz12_0
     try clear hfz12_1
     try clear hfz14_0
     try clear hfz14_1
     try clear hfz9_0
     try clear hfz9_1
     try clear hx234_0
     try clear hx234_1
     try clear hx235_0
     try clear hx235_1
     try clear p2
     try clear p234
     try clear p235
     try clear q234
     try clear q235
     obtain ⟨kq, x5_18, x6_18, rfl, HA, HJ18, HO_5, BK226, HB⟩ := hcut
     cases kq with
     | zero => exact absurd HA.out (by simp [impl_AddSpan.j2])
     | succ kj18 =>
      have H := HA.out
      clear HA
      simp only [impl_AddSpan.j2] at H
      have H' := zM H
      clear H
      go_wp2
      go_loopg [6] kj18 (fun kq v6 w' => ∃ (x6_3 : Int) (x227000_3 : Int) (x227001_3 : Int), v6 = .int .i64 x6_3 ∧ Aside0 (impl_AddSpan.l1 kq l0 x5_18 x6_3 x227000_3 x227001_3 = some r) ∧ Aside0 (kq ≤ kj18) ∧ Aside0 (Kd.R k26 26 w' w.heap.size (fun k_ => k_ ≠ gb226) u5 x5_18) ∧ Aside0 (w'.heap[gb226]? = some (.cells #[.int .i64 x227000_3, .int .i64 x227001_3] 26 (0, 0))) ∧ Aside0 (Below w.heap.size w w'))
      case atStart => exact ⟨(x6_18), (a1_0), (a1_1), zS, H', ⟨Nat.le_refl _⟩, ⟨(zR HO_5.out)⟩, ⟨(zP BK226.out)⟩, ⟨(zB1 GE226.out HB.out)⟩⟩
      case round =>
       clear H'
       try clear c1
       try clear c2
       try clear p2
       try clear q2
       try clear hx2
       try clear c3
       try clear c6
       try clear p6
       try clear c7
       try clear c7b0
       try clear c8
       try clear c10
       try clear c10b0
       try clear c16
       try clear c22
       try clear c22b0
       try clear c23
       try clear c23b0
       try clear p23
       try clear q23
       try clear hx23
       try clear c24
       try clear c24b0
       try clear c25
       try clear hcz12_0
       try clear hcz12_1
       try clear hcz14_0
       try clear hcz14_1
       try clear hcz9_0
       try clear hcz9_1
       try clear hfz12_0
       try clear hfz12_1
       try clear hfz14_0
       try clear hfz14_1
       try clear hfz9_0
       try clear hfz9_1
       try clear hx234_0
       try clear hx234_1
       try clear hx235_0
       try clear hx235_1
       try clear p2
       try clear p23
       try clear p234
       try clear p235
       try clear p6
       try clear q2
       try clear q23
       try clear q234
       try clear q235
       obtain ⟨x6_3, x227000_3, x227001_3, rfl, HA, HK3, HO_5, BK226, HB⟩ := hrel
       cases gk with
       | zero => exact absurd HA.out (by simp [impl_AddSpan.l1])
       | succ k3 =>
        have H := HA.out
        clear HA
        simp only [impl_AddSpan.l1] at H
        by_cases c30 : x6_3 < (l0.length : Int)
        ·rw [if_pos c30] at H
         have c30b0 : decide (x6_3 < (l0.length : Int)) = true := decide_eq_true c30
         clear c30
         by_cases c31 : 0 ≤ x6_3
         ·rw [if_pos c31] at H
          have c31b0 : decide (0 ≤ x6_3) = true := decide_eq_true c31
          clear c31
          by_cases c32 : ((rd_T26 l0 x6_3).f0) ≤ x227001_3
          ·rw [if_pos c32] at H
           have c32b0 : decide (((rd_T26 l0 x6_3).f0) ≤ x227001_3) = true := decide_eq_true c32
           clear c32
           obtain ⟨ji33, hji33⟩ : ∃ j_ : Int, (mn x227000_3 ((rd_T26 l0 x6_3).f0)) = j_ := ⟨_, rfl⟩
           replace H : (impl_AddSpan.l1 k3 l0 x5_18 (wrap64 (x6_3 + 1)) ji33 (mx x227001_3 ((rd_T26 l0 x6_3).f1))) = some r := by first | (rw [hji33] at H; exact H) | (simp only [hji33] at H ⊢; exact H)
           have hji33_ : (if ((rd_T26 l0 x6_3).f0) < x227000_3 then ((rd_T26 l0 x6_3).f0) else x227000_3) = ji33 := hji33
           obtain ⟨ji34, hji34⟩ : ∃ j_ : Int, (mx x227001_3 ((rd_T26 l0 x6_3).f1)) = j_ := ⟨_, rfl⟩
           replace H : (impl_AddSpan.l1 k3 l0 x5_18 (wrap64 (x6_3 + 1)) ji33 ji34) = some r := by first | (rw [hji34] at H; exact H) | (simp only [hji34] at H ⊢; exact H)
           have hji34_ : (if x227001_3 < ((rd_T26 l0 x6_3).f1) then ((rd_T26 l0 x6_3).f1) else x227001_3) = ji34 := hji34
           have H' := zM H
           clear H
           try go_wp2
           have n0_ := zM (Kd.R_drew HO_5.out)
           have n1_ := zM (blk_drew BK226.out)
           have n2_ := zM (below_drew1 HB.out)
           clear HO_5
           clear BK226
           clear HB
           have HO_5 := n0_
           have BK226 := n1_
           have HB := n2_
           clear n0_ n1_ n2_
           have p239 : 0 ≤ (x6_3 : Int) := zD
           have q239 : x6_3 < (l0.length : Int) := zD
           obtain ⟨ad239, e239, hx239_0, hx239_1⟩ := at_T26 HR0.out x6_3 p239 q239
           have hw239_1 := hx239_1
           have hw239_0 := hx239_0
           cases e239
           replace hx239_0 := (HB.out.cell (World.block_lt_of_cell? w _ hx239_0)).trans hx239_0
           replace hx239_1 := (HB.out.cell (World.block_lt_of_cell? w _ hx239_1)).trans hx239_1
           replace p239 := eq_true p239
           replace q239 := eq_true q239
           refine start_ (n := 14) (S := fun w' => w'.cell? ⟨gb226, 0, none⟩ = some (.int .i64 x227000_3) ∧ w'.cell? ⟨gb226, 1, none⟩ = some (.int .i64 x227001_3) ∧ w'.cell? (ad239.add ((x6_3).toNat * 2)) = some (.int .i64 ((rd_T26 l0 x6_3).f0)) ∧ w'.cell? ⟨(ad239.add ((x6_3).toNat * 2)).block, (ad239.add ((x6_3).toNat * 2)).off + 1, none⟩ = some (.int .i64 ((rd_T26 l0 x6_3).f1))) (ds := []) (ba 14 0).toArray (by kernel_rfl) rfl rfl ⟨(blk_cell BK226.out 0).trans rfl, (blk_cell BK226.out 1).trans rfl, ((HB.out.cell (World.block_lt_of_cell? w _ hw239_0)).trans hw239_0), ((HB.out.cell (World.block_lt_of_cell? w _ hw239_1)).trans hw239_1)⟩ (fun hHeld => ?_); refine with_tabW impl_AddSpan.tab8 impl_AddSpan.bits8 (fun HT_ HW_ => ?_)
           generalize wr.drew = w35 at HO_5 BK226 HB hx239_0 hx239_1 hHeld ⊢
           refine zq 0 (some 53) (ba 14 1).toArray HT_ ?_
           refine zq 1 (some 54) (ba 14 3).toArray HT_ ?_
           refine zq 2 (some 55) (ba 14 7).toArray HT_ ?_
           refine zq 3 (some 56) (ba 14 15).toArray HT_ ?_
           refine zq 4 (some 57) (ba 14 31).toArray HT_ ?_
           refine zq 5 (some 58) (ba 14 63).toArray HT_ ?_
           refine zq 6 (some 59) (ba 14 127).toArray HT_ ?_
           refine zq 7 (some 60) (ba 14 255).toArray HT_ ?_
           refine zq 8 (some 61) (ba 14 511).toArray HT_ ?_
           refine zq 10 (some 63) (ba 14 1535).toArray HT_ ?_
           refine zt4 9 (some 62) (ba 14 2047).toArray HT_ HW_ hHeld ?_
           refine zt4 11 (some 64) (ba 14 4095).toArray HT_ HW_ hHeld ?_
           refine zq 12 (some 65) (ba 14 8191).toArray HT_ ?_
           refine zq 13 (some 66) (ba 14 16383).toArray HT_ ?_
           refine done_ (done_of HT_.out (by kernel_rfl)) ?_
           try go_wp2
           have n0_ := zM (Kd.R_drew HO_5.out)
           have n1_ := zM (blk_drew BK226.out)
           have n2_ := zM (below_drew1 HB.out)
           clear HO_5
           clear BK226
           clear HB
           have HO_5 := n0_
           have BK226 := n1_
           have HB := n2_
           clear n0_ n1_ n2_
           have p240 : 0 ≤ (x6_3 : Int) := zD
           have q240 : x6_3 < (l0.length : Int) := zD
           obtain ⟨ad240, e240, hx240_0, hx240_1⟩ := at_T26 HR0.out x6_3 p240 q240
           have hw240_1 := hx240_1
           have hw240_0 := hx240_0
           obtain rfl : ad239 = ad240 := (by injection e240)
           replace hx240_0 := (HB.out.cell (World.block_lt_of_cell? w _ hx240_0)).trans hx240_0
           replace hx240_1 := (HB.out.cell (World.block_lt_of_cell? w _ hx240_1)).trans hx240_1
           replace p240 := eq_true p240
           replace q240 := eq_true q240
           have p241 : 0 ≤ (x6_3 : Int) := zD
           have q241 : x6_3 < (l0.length : Int) := zD
           obtain ⟨ad241, e241, hx241_0, hx241_1⟩ := at_T26 HR0.out x6_3 p241 q241
           have hw241_1 := hx241_1
           have hw241_0 := hx241_0
           obtain rfl : ad239 = ad241 := (by injection e241)
           replace hx241_0 := (HB.out.cell (World.block_lt_of_cell? w _ hx241_0)).trans hx241_0
           replace hx241_1 := (HB.out.cell (World.block_lt_of_cell? w _ hx241_1)).trans hx241_1
           replace p241 := eq_true p241
           replace q241 := eq_true q241
           refine start_ (n := 18) (S := fun w' => w'.cell? ⟨gb226, 0, none⟩ = some (.int .i64 x227000_3) ∧ w'.cell? ⟨gb226, 1, none⟩ = some (.int .i64 x227001_3) ∧ w'.cell? (ad239.add ((x6_3).toNat * 2)) = some (.int .i64 ((rd_T26 l0 x6_3).f0)) ∧ w'.cell? ⟨(ad239.add ((x6_3).toNat * 2)).block, (ad239.add ((x6_3).toNat * 2)).off + 1, none⟩ = some (.int .i64 ((rd_T26 l0 x6_3).f1)) ∧ w'.cell? (ad239.add ((x6_3).toNat * 2)) = some (.int .i64 ((rd_T26 l0 x6_3).f0)) ∧ w'.cell? ⟨(ad239.add ((x6_3).toNat * 2)).block, (ad239.add ((x6_3).toNat * 2)).off + 1, none⟩ = some (.int .i64 ((rd_T26 l0 x6_3).f1))) (ds := [17]) (ba 18 0).toArray (by kernel_rfl) rfl rfl ⟨(blk_cell BK226.out 0).trans rfl, (blk_cell BK226.out 1).trans rfl, ((HB.out.cell (World.block_lt_of_cell? w _ hw240_0)).trans hw240_0), ((HB.out.cell (World.block_lt_of_cell? w _ hw240_1)).trans hw240_1), ((HB.out.cell (World.block_lt_of_cell? w _ hw241_0)).trans hw241_0), ((HB.out.cell (World.block_lt_of_cell? w _ hw241_1)).trans hw241_1)⟩ (fun hHeld => ?_); refine with_tabW impl_AddSpan.tab10 impl_AddSpan.bits10 (fun HT_ HW_ => ?_)
           generalize w35.drew = w36 at HO_5 BK226 HB hx240_0 hx240_1 hx241_0 hx241_1 hHeld ⊢
           refine zq 0 (some 69) (ba 18 1).toArray HT_ ?_
           refine zq 2 (some 71) (ba 18 5).toArray HT_ ?_
           refine zq 3 (some 72) (ba 18 13).toArray HT_ ?_
           refine zq 4 (some 73) (ba 18 29).toArray HT_ ?_
           refine zq 5 (some 74) (ba 18 61).toArray HT_ ?_
           refine zq 8 (some 77) (ba 18 317).toArray HT_ ?_
           refine zq 10 (some 79) (ba 18 1341).toArray HT_ ?_
           refine zq 11 (some 80) (ba 18 3389).toArray HT_ ?_
           refine zq 12 (some 81) (ba 18 7485).toArray HT_ ?_
           refine zq 13 (some 82) (ba 18 15677).toArray HT_ ?_
           refine zt6 1 (some 70) (ba 18 15679).toArray HT_ HW_ hHeld ?_
           refine zt6 6 (some 75) (ba 18 15743).toArray HT_ HW_ hHeld ?_
           refine zq 7 (some 76) (ba 18 15871).toArray HT_ ?_
           refine zt6 9 (some 78) (ba 18 16383).toArray HT_ HW_ hHeld ?_
           refine zt6 14 (some 83) (ba 18 32767).toArray HT_ HW_ hHeld ?_
           refine zq 15 (some 84) (ba 18 65535).toArray HT_ ?_
           refine zq 16 (some 85) (ba 18 131071).toArray HT_ ?_
           refine last_ (i := 17) (N := none) (ba 18 262143).toArray rfl rfl (one_of HT_.out (by kernel_rfl)) (by decide) (fun K hK => ?_)
           have hs37 : w36.cell? ⟨gb226, 0, none⟩ = some (.int .i64 x227000_3) := (blk_cell BK226.out 0).trans rfl
           have hfs37 := blk_frozen BK226.out 0
           have hs38 : w36.cell? ⟨gb226, 1, none⟩ = some (.int .i64 x227001_3) := (blk_cell BK226.out 1).trans rfl
           have hfs38 := blk_frozen BK226.out 1
           refine skip_ (w1 := ?_) (by rfl) rfl ?_ ?_
           rotate_left
           ·go_simp
            rfl
           refine hK.out _ _ ?_
           clear hK K
           refine done_ (done_of HT_.out (by kernel_rfl)) ?_
           try go_wp2
           go_roundg k3
           case measure => have := HJ2.out; have := HJ18.out; have := HK3.out; omega
           case rel => exact ⟨(wrap64 (x6_3 + 1)), (ji33), (ji34), zS, H', ⟨by have := HJ2.out; have := HJ18.out; have := HK3.out; omega⟩, ⟨by (with_reducible repeat (first | apply Kd.R_alloc | apply Kd.R_drewN | apply Kd.R_drew)); exact Kd.R_mono (Kd.R_far (p := ⟨gb226, 1, none⟩) (Kd.R_far (p := ⟨gb226, 0, none⟩) (Kd.R_mono HO_5.out (fun k_ hk => (⟨hk, hk⟩ : _ ∧ k_ ≠ gb226))) (fun _ hk => hk.2) (.int .i64 ji33)) (fun _ hk => hk.2) (.int .i64 ji34)) (fun _ hk => hk.1)⟩, ⟨by (with_reducible repeat (first | refine blk_drewN ?_ _ | refine blk_drew ?_ | refine blk_alloc ?_ _)); refine blk_put (cs := #[.int .i64 ji33, .int .i64 x227001_3]) ?_ 1 _ rfl; (with_reducible repeat (first | refine blk_drewN ?_ _ | refine blk_drew ?_ | refine blk_alloc ?_ _)); refine blk_put (cs := #[.int .i64 x227000_3, .int .i64 x227001_3]) ?_ 0 _ rfl; (with_reducible repeat (first | refine blk_drewN ?_ _ | refine blk_drew ?_ | refine blk_alloc ?_ _)); exact BK226.out⟩, ⟨(zB1 GE226.out HB.out)⟩⟩
          ·rw [if_neg c32] at H
           have c32b0 : decide (((rd_T26 l0 x6_3).f0) ≤ x227001_3) = false := decide_eq_false c32
           clear c32
           by_cases c39 : x5_18.length < 8796093022208
           ·rw [if_pos c39] at H
            have LMc39 := zM c39
            clear c39
            obtain ⟨y242, hy242⟩ : ∃ y_ : List (S26), y_ = (x5_18 ++ [(⟨x227000_3, x227001_3⟩ : S26)]) := ⟨_, rfl⟩
            replace H : (if x6_3 ≤ (l0.length : Int) then ((some (l0.drop (x6_3 : Int).toNat : List (S26))).bind fun y245 => (if y242.length + y245.length < 8796093022208 then (some (y242 ++ y245)) else (none))) else (none)) = some r := zH hy242 H
            have Ny242 := zM hy242
            clear hy242
            have c40b0 := eq_true (zD : 0 ≤ x6_3)
            by_cases c41 : x6_3 ≤ (l0.length : Int)
            ·rw [if_pos c41] at H
             have c41b0 := eq_true c41
             have c41b1 : decide (x6_3 ≤ (l0.length : Int)) = true := decide_eq_true c41
             clear c41
             obtain ⟨y245, hy245⟩ : ∃ y_ : List (S26), y_ = (l0.drop (x6_3 : Int).toNat) := ⟨_, rfl⟩
             replace H : (if y242.length + y245.length < 8796093022208 then (some (y242 ++ y245)) else (none)) = some r := zH hy245 H
             have Ny245 := zM hy245
             clear hy245
             by_cases c42 : y242.length + y245.length < 8796093022208
             ·rw [if_pos c42] at H
              have LMc42 := zM c42
              clear c42
              obtain ⟨y249, hy249⟩ : ∃ y_ : List (S26), y_ = (y242 ++ y245) := ⟨_, rfl⟩
              replace H : (some y249) = some r := zH hy249 H
              have Ny249 := zM hy249
              clear hy249
              obtain rfl := Option.some.inj H
              try go_wp2
              have n0_ := zM (Kd.R_drew HO_5.out)
              have n1_ := zM (blk_drew BK226.out)
              have n2_ := zM (below_drew1 HB.out)
              clear HO_5
              clear BK226
              clear HB
              have HO_5 := n0_
              have BK226 := n1_
              have HB := n2_
              clear n0_ n1_ n2_
              have p239 : 0 ≤ (x6_3 : Int) := zD
              have q239 : x6_3 < (l0.length : Int) := zD
              obtain ⟨ad239, e239, hx239_0, hx239_1⟩ := at_T26 HR0.out x6_3 p239 q239
              have hw239_1 := hx239_1
              have hw239_0 := hx239_0
              cases e239
              replace hx239_0 := (HB.out.cell (World.block_lt_of_cell? w _ hx239_0)).trans hx239_0
              replace hx239_1 := (HB.out.cell (World.block_lt_of_cell? w _ hx239_1)).trans hx239_1
              replace p239 := eq_true p239
              replace q239 := eq_true q239
              refine start_ (n := 14) (S := fun w' => w'.cell? ⟨gb226, 0, none⟩ = some (.int .i64 x227000_3) ∧ w'.cell? ⟨gb226, 1, none⟩ = some (.int .i64 x227001_3) ∧ w'.cell? (ad239.add ((x6_3).toNat * 2)) = some (.int .i64 ((rd_T26 l0 x6_3).f0)) ∧ w'.cell? ⟨(ad239.add ((x6_3).toNat * 2)).block, (ad239.add ((x6_3).toNat * 2)).off + 1, none⟩ = some (.int .i64 ((rd_T26 l0 x6_3).f1))) (ds := []) (ba 14 0).toArray (by kernel_rfl) rfl rfl ⟨(blk_cell BK226.out 0).trans rfl, (blk_cell BK226.out 1).trans rfl, ((HB.out.cell (World.block_lt_of_cell? w _ hw239_0)).trans hw239_0), ((HB.out.cell (World.block_lt_of_cell? w _ hw239_1)).trans hw239_1)⟩ (fun hHeld => ?_); refine with_tabW impl_AddSpan.tab8 impl_AddSpan.bits8 (fun HT_ HW_ => ?_)
              generalize wr.drew = w43 at HO_5 BK226 HB hx239_0 hx239_1 hHeld ⊢
              refine zq 0 (some 53) (ba 14 1).toArray HT_ ?_
              refine zq 1 (some 54) (ba 14 3).toArray HT_ ?_
              refine zq 2 (some 55) (ba 14 7).toArray HT_ ?_
              refine zq 3 (some 56) (ba 14 15).toArray HT_ ?_
              refine zq 4 (some 57) (ba 14 31).toArray HT_ ?_
              refine zq 5 (some 58) (ba 14 63).toArray HT_ ?_
              refine zq 6 (some 59) (ba 14 127).toArray HT_ ?_
              refine zq 7 (some 60) (ba 14 255).toArray HT_ ?_
              refine zq 8 (some 61) (ba 14 511).toArray HT_ ?_
              refine zq 10 (some 63) (ba 14 1535).toArray HT_ ?_
              refine zt4 9 (some 62) (ba 14 2047).toArray HT_ HW_ hHeld ?_
              refine zt4 11 (some 64) (ba 14 4095).toArray HT_ HW_ hHeld ?_
              refine zq 12 (some 65) (ba 14 8191).toArray HT_ ?_
              refine zq 13 (some 66) (ba 14 16383).toArray HT_ ?_
              refine done_ (done_of HT_.out (by kernel_rfl)) ?_
              try go_wp2
              have n0_ := zM (Kd.R_drew HO_5.out)
              have n1_ := zM (blk_drew BK226.out)
              have n2_ := zM (below_drew1 HB.out)
              clear HO_5
              clear BK226
              clear HB
              have HO_5 := n0_
              have BK226 := n1_
              have HB := n2_
              clear n0_ n1_ n2_
              have q45 : (x6_3 : Int) ≤ ((l0.length : Int) : Int) := zD
              obtain ⟨i045, hi045, _, hsz45, _⟩ := info_parts info26
              have hroom45 : l0.length ≤ c0 := HC0.out
              have hC45 : Kd.C k26 _ (some ad239) l0.length l0 := HR0.out
              have q045 : (0 : Int) ≤ (x6_3 : Int) := zD
              have hcut45 := cut_from (P := Try.prog) 24 26 .i64 Try.underlying24 hi045 2 hsz45 (some ad239) l0.length c0 x6_3 q045 q45
              have hr45 := Kd.C_drop (m := (x6_3 : Int).toNat) (c := c0) hC45 (by omega) hroom45
              obtain ⟨A45, hA45⟩ : ∃ A1, A1 = (if c0 = (x6_3 : Int).toNat then (some ad239) else ((some ad239) : Option Addr).map (·.add ((x6_3 : Int).toNat * 2))) := ⟨_, rfl⟩
              obtain ⟨c45, hc45⟩ : ∃ c1, c1 = c0 - (x6_3 : Int).toNat := ⟨_, rfl⟩
              have hy45 : y245.length = l0.length - (x6_3 : Int).toNat := (by rw [Ny245.out, List.length_drop] <;> omega)
              rw [show (l0).drop (x6_3 : Int).toNat = y245 from Ny245.out.symm] at hr45
              replace hr45 : Kd.C k26 _ A45 y245.length y245 := (by rw [hA45]; exact hr45)
              rw [← hy45, ← hA45, ← hc45] at hcut45
              have HR248 := zM hr45
              have HC248 := zM (show y245.length ≤ c45 from by rw [hy45, hc45]; exact Nat.sub_le_sub_right hroom45 _)
              clear hr45 hC45 hroom45 hi045 hsz45 hc45
              have KY45 := zM hy45
              have KA45 := zM hA45
              clear hy45 hA45
              replace q45 := eq_true q45
              refine start_ (n := 9) (S := fun w' => w'.cell? ⟨gb226, 0, none⟩ = some (.int .i64 x227000_3) ∧ w'.cell? ⟨gb226, 1, none⟩ = some (.int .i64 x227001_3)) (ds := []) (ba 9 0).toArray (by kernel_rfl) rfl rfl ⟨(blk_cell BK226.out 0).trans rfl, (blk_cell BK226.out 1).trans rfl⟩ (fun hHeld => ?_); refine with_tabW impl_AddSpan.tab11 impl_AddSpan.bits11 (fun HT_ HW_ => ?_)
              generalize w43.drew = w44 at HO_5 BK226 HB HR248 hHeld ⊢
              refine zq 0 (some 86) (ba 9 1).toArray HT_ ?_
              refine zq 4 (some 90) (ba 9 17).toArray HT_ ?_
              refine zq 5 (some 91) (ba 9 49).toArray HT_ ?_
              refine zq 6 (some 92) (ba 9 113).toArray HT_ ?_
              refine zt2 1 (some 87) (ba 9 115).toArray HT_ HW_ hHeld ?_
              refine one_ (i := 2) (N := some 88) (ba 9 119).toArray rfl rfl (one_of HT_.out (by kernel_rfl)) (by decide) (fun K hK => ?_)
              refine value_ (w1 := ?_) (v := ?_) (by rfl) rfl ?_ ?_
              rotate_left 2
              ·go_simp
               constructor
               ·rfl
               ·rfl
              refine hK.out _ _ ⟨(blk_cell (blk_alloc BK226.out _) 0).trans rfl, (blk_cell (blk_alloc BK226.out _) 1).trans rfl⟩ (fun hHeld => ?_)
              clear hK K
              refine norm_ (a' := ?_) ?_ ?_
              rotate_left
              ·show Act.put _ (some 88) _ = _
               simp only [Act.put, List.setIfInBounds_toArray, List.set_cons_zero, List.set_cons_succ, i64_w, i32_w]
               rfl
              refine one_ (i := 3) (N := some 89) (ba 9 127).toArray rfl rfl (one_of HT_.out (by kernel_rfl)) (by decide) (fun K hK => ?_)
              refine Kd.R_append_step k26 (w0 := w) w.heap.size (by rfl) (.tmp 86) (.tmp 88) 24 26 (.agg #[(.int .i64 0), (.int .i64 0)]) 16 rfl Try.underlying24 info26 rfl (by decide) (by omega) u5 x5_18 (⟨x227000_3, x227001_3⟩ : S26) [.int .i64 x227000_3, .int .i64 x227001_3] (fun k_ => k_ ≠ gb226) (fun _ => False) rfl rfl ?aP (fun _ hk => hk.elim) ?aF ?aO ?aB ?aS ?aL ?_
              (case aP => exact k26_mkM _ _ _ (⟨x227000_3, x227001_3⟩ : S26))
              (case aB => exact (zB1 GE226.out HB.out))
              (case aF => exact (fun k_ hk => Kd.freshB (g := gb226) (o := .cells #[.int .i64 x227000_3, .int .i64 x227001_3] 26 (0, 0)) (zP BK226.out) k_ hk))
              (case aO => exact (zR HO_5.out))
              (case aS => exact (below_size (zB1 GE226.out HB.out)))
              (case aL => have := LMc39.out; omega)
              intro v243 w46 ho hb hg hat
              rw [← Ny242.out] at ho
              have n0_ := zM (blk_grown (g := gb226) (o := .cells #[.int .i64 x227000_3, .int .i64 x227001_3] 26 (0, 0)) (zP BK226.out) hg (Kd.R_away HO_5.out (fun _ hk => hk)))
              have n1_ := zM (hb)
              have n2_ := zM (ho)
              clear BK226
              clear HB
              clear HO_5
              have BK226 := n0_
              have HB := n1_
              have HO244 := n2_
              clear n0_ n1_ n2_
              clear ho hb hg hat
              refine hK.out _ _ ⟨(blk_cell BK226.out 0).trans rfl, (blk_cell BK226.out 1).trans rfl⟩ (fun hHeld => ?_)
              clear hK K
              refine norm_ (a' := ?_) ?_ ?_
              rotate_left
              ·show Act.put _ (some 89) _ = _
               simp only [Act.put, List.setIfInBounds_toArray, List.set_cons_zero, List.set_cons_succ, i64_w, i32_w]
               rfl
              refine one_ (i := 7) (N := some 93) (ba 9 255).toArray rfl rfl (one_of HT_.out (by kernel_rfl)) (by decide) (fun K hK => ?_)
              refine Kd.R_append_rows_step k26 (w0 := w) w.heap.size (by rfl) (.tmp 89) (.tmp 92) 24 26 (.agg #[(.int .i64 0), (.int .i64 0)]) 16 rfl Try.underlying24 info26 rfl (by decide) (by omega) v243 y242 y245 _ _ _ (fun k_ => k_ ≠ gb226) (fun _ => False) rfl rfl ?aO ?aR (fun _ _ h => h) (fun _ h => h.elim) ?aF ?aB ?aS ?aL ?_
              (case aR => exact (zC (Kd.C_below HR248.out HB.out)))
              (case aB => exact (zB1 GE226.out HB.out))
              (case aF => exact (fun k_ hk => Kd.freshB (g := gb226) (o := .cells #[.int .i64 x227000_3, .int .i64 x227001_3] 26 (0, 0)) (zP BK226.out) k_ hk))
              (case aO => exact (zR HO244.out))
              (case aS => exact (below_size (zB1 GE226.out HB.out)))
              (case aL => have := LMc42.out; omega)
              intro v250 w47 ho hb hg hat
              rw [← Ny249.out] at ho
              have n0_ := zM (blk_grown (g := gb226) (o := .cells #[.int .i64 x227000_3, .int .i64 x227001_3] 26 (0, 0)) (zP BK226.out) hg (Kd.R_away HO244.out (fun _ hk => hk)))
              have n1_ := zM (hb)
              have n2_ := zM (ho)
              clear BK226
              clear HB
              clear HO244
              have BK226 := n0_
              have HB := n1_
              have HO251 := n2_
              clear n0_ n1_ n2_
              clear ho hb hg hat
              refine hK.out _ _ ⟨(blk_cell BK226.out 0).trans rfl, (blk_cell BK226.out 1).trans rfl⟩ (fun hHeld => ?_)
              clear hK K
              refine norm_ (a' := ?_) ?_ ?_
              rotate_left
              ·show Act.put _ (some 93) _ = _
               simp only [Act.put, List.setIfInBounds_toArray, List.set_cons_zero, List.set_cons_succ, i64_w, i32_w]
               rfl
              refine zq 8 (some 4) (ba 9 511).toArray HT_ ?_
              refine done_ (done_of HT_.out (by kernel_rfl)) ?_
              try go_wp2
              go_ret
              exact ⟨_, zE, (zRm HO251.out (fun _ hk => trivial)), (zB1 GE226.out HB.out)⟩
             ·rw [if_neg c42] at H
              exact absurd H (by simp)
            ·rw [if_neg c41] at H
             exact absurd H (by simp)
           ·rw [if_neg c39] at H
            exact absurd H (by simp)
         ·rw [if_neg c31] at H
          exact absurd H (by simp)
        ·rw [if_neg c30] at H
         have c30b0 : decide (x6_3 < (l0.length : Int)) = false := decide_eq_false c30
         clear c30
         by_cases c48 : x5_18.length < 8796093022208
         ·rw [if_pos c48] at H
          have LMc48 := zM c48
          clear c48
          obtain ⟨y252, hy252⟩ : ∃ y_ : List (S26), y_ = (x5_18 ++ [(⟨x227000_3, x227001_3⟩ : S26)]) := ⟨_, rfl⟩
          replace H : (if 0 ≤ x6_3 then (if x6_3 ≤ (l0.length : Int) then ((some (l0.drop (x6_3 : Int).toNat : List (S26))).bind fun y255 => (if y252.length + y255.length < 8796093022208 then (some (y252 ++ y255)) else (none))) else (none)) else (none)) = some r := zH hy252 H
          have Ny252 := zM hy252
          clear hy252
          by_cases c49 : 0 ≤ x6_3
          ·rw [if_pos c49] at H
           have c49b0 := eq_true c49
           have c49b1 : decide (0 ≤ x6_3) = true := decide_eq_true c49
           clear c49
           by_cases c50 : x6_3 ≤ (l0.length : Int)
           ·rw [if_pos c50] at H
            have c50b0 := eq_true c50
            have c50b1 : decide (x6_3 ≤ (l0.length : Int)) = true := decide_eq_true c50
            clear c50
            obtain ⟨y255, hy255⟩ : ∃ y_ : List (S26), y_ = (l0.drop (x6_3 : Int).toNat) := ⟨_, rfl⟩
            replace H : (if y252.length + y255.length < 8796093022208 then (some (y252 ++ y255)) else (none)) = some r := zH hy255 H
            have Ny255 := zM hy255
            clear hy255
            by_cases c51 : y252.length + y255.length < 8796093022208
            ·rw [if_pos c51] at H
             have LMc51 := zM c51
             clear c51
             obtain ⟨y259, hy259⟩ : ∃ y_ : List (S26), y_ = (y252 ++ y255) := ⟨_, rfl⟩
             replace H : (some y259) = some r := zH hy259 H
             have Ny259 := zM hy259
             clear hy259
             obtain rfl := Option.some.inj H
             try go_wp2
             have n0_ := zM (Kd.R_drew HO_5.out)
             have n1_ := zM (blk_drew BK226.out)
             have n2_ := zM (below_drew1 HB.out)
             clear HO_5
             clear BK226
             clear HB
             have HO_5 := n0_
             have BK226 := n1_
             have HB := n2_
             clear n0_ n1_ n2_
             refine start_ (n := 14) (S := fun w' => True) (ds := []) (ba 14 0).toArray (by kernel_rfl) rfl rfl trivial (fun hHeld => ?_); refine with_tabW impl_AddSpan.tab8 impl_AddSpan.bits8 (fun HT_ HW_ => ?_)
             generalize wr.drew = w52 at HO_5 BK226 HB hHeld ⊢
             refine zq 0 (some 53) (ba 14 1).toArray HT_ ?_
             refine zq 1 (some 54) (ba 14 3).toArray HT_ ?_
             refine zq 2 (some 55) (ba 14 7).toArray HT_ ?_
             refine zq 3 (some 56) (ba 14 15).toArray HT_ ?_
             refine zq 4 (some 57) (ba 14 31).toArray HT_ ?_
             refine zu 5 (some 58) (ba 14 63).toArray HT_ ?_
             refine zu 6 (some 59) (ba 14 127).toArray HT_ ?_
             refine zu 7 (some 60) (ba 14 255).toArray HT_ ?_
             refine zu 8 (some 61) (ba 14 511).toArray HT_ ?_
             refine zu 9 (some 62) (ba 14 1023).toArray HT_ ?_
             refine zu 10 (some 63) (ba 14 2047).toArray HT_ ?_
             refine zu 11 (some 64) (ba 14 4095).toArray HT_ ?_
             refine zu 12 (some 65) (ba 14 8191).toArray HT_ ?_
             refine zq 13 (some 66) (ba 14 16383).toArray HT_ ?_
             refine done_ (done_of HT_.out (by kernel_rfl)) ?_
             try go_wp2
             have n0_ := zM (Kd.R_drew HO_5.out)
             have n1_ := zM (blk_drew BK226.out)
             have n2_ := zM (below_drew1 HB.out)
             clear HO_5
             clear BK226
             clear HB
             have HO_5 := n0_
             have BK226 := n1_
             have HB := n2_
             clear n0_ n1_ n2_
             have q54 : (x6_3 : Int) ≤ ((l0.length : Int) : Int) := zD
             obtain ⟨i054, hi054, _, hsz54, _⟩ := info_parts info26
             have hroom54 : l0.length ≤ c0 := HC0.out
             have hC54 : Kd.C k26 _ A0 l0.length l0 := HR0.out
             have q054 : (0 : Int) ≤ (x6_3 : Int) := zD
             have hcut54 := cut_from (P := Try.prog) 24 26 .i64 Try.underlying24 hi054 2 hsz54 A0 l0.length c0 x6_3 q054 q54
             have hr54 := Kd.C_drop (m := (x6_3 : Int).toNat) (c := c0) hC54 (by omega) hroom54
             obtain ⟨A54, hA54⟩ : ∃ A1, A1 = (if c0 = (x6_3 : Int).toNat then A0 else (A0 : Option Addr).map (·.add ((x6_3 : Int).toNat * 2))) := ⟨_, rfl⟩
             obtain ⟨c54, hc54⟩ : ∃ c1, c1 = c0 - (x6_3 : Int).toNat := ⟨_, rfl⟩
             have hy54 : y255.length = l0.length - (x6_3 : Int).toNat := (by rw [Ny255.out, List.length_drop] <;> omega)
             rw [show (l0).drop (x6_3 : Int).toNat = y255 from Ny255.out.symm] at hr54
             replace hr54 : Kd.C k26 _ A54 y255.length y255 := (by rw [hA54]; exact hr54)
             rw [← hy54, ← hA54, ← hc54] at hcut54
             have HR258 := zM hr54
             have HC258 := zM (show y255.length ≤ c54 from by rw [hy54, hc54]; exact Nat.sub_le_sub_right hroom54 _)
             clear hr54 hC54 hroom54 hi054 hsz54 hc54
             have KY54 := zM hy54
             have KA54 := zM hA54
             clear hy54 hA54
             replace q54 := eq_true q54
             refine start_ (n := 9) (S := fun w' => w'.cell? ⟨gb226, 0, none⟩ = some (.int .i64 x227000_3) ∧ w'.cell? ⟨gb226, 1, none⟩ = some (.int .i64 x227001_3)) (ds := []) (ba 9 0).toArray (by kernel_rfl) rfl rfl ⟨(blk_cell BK226.out 0).trans rfl, (blk_cell BK226.out 1).trans rfl⟩ (fun hHeld => ?_); refine with_tabW impl_AddSpan.tab11 impl_AddSpan.bits11 (fun HT_ HW_ => ?_)
             generalize w52.drew = w53 at HO_5 BK226 HB HR258 hHeld ⊢
             refine zq 0 (some 86) (ba 9 1).toArray HT_ ?_
             refine zq 4 (some 90) (ba 9 17).toArray HT_ ?_
             refine zq 5 (some 91) (ba 9 49).toArray HT_ ?_
             refine zq 6 (some 92) (ba 9 113).toArray HT_ ?_
             refine zt2 1 (some 87) (ba 9 115).toArray HT_ HW_ hHeld ?_
             refine one_ (i := 2) (N := some 88) (ba 9 119).toArray rfl rfl (one_of HT_.out (by kernel_rfl)) (by decide) (fun K hK => ?_)
             refine value_ (w1 := ?_) (v := ?_) (by rfl) rfl ?_ ?_
             rotate_left 2
             ·go_simp
              constructor
              ·rfl
              ·rfl
             refine hK.out _ _ ⟨(blk_cell (blk_alloc BK226.out _) 0).trans rfl, (blk_cell (blk_alloc BK226.out _) 1).trans rfl⟩ (fun hHeld => ?_)
             clear hK K
             refine norm_ (a' := ?_) ?_ ?_
             rotate_left
             ·show Act.put _ (some 88) _ = _
              simp only [Act.put, List.setIfInBounds_toArray, List.set_cons_zero, List.set_cons_succ, i64_w, i32_w]
              rfl
             refine one_ (i := 3) (N := some 89) (ba 9 127).toArray rfl rfl (one_of HT_.out (by kernel_rfl)) (by decide) (fun K hK => ?_)
             refine Kd.R_append_step k26 (w0 := w) w.heap.size (by rfl) (.tmp 86) (.tmp 88) 24 26 (.agg #[(.int .i64 0), (.int .i64 0)]) 16 rfl Try.underlying24 info26 rfl (by decide) (by omega) u5 x5_18 (⟨x227000_3, x227001_3⟩ : S26) [.int .i64 x227000_3, .int .i64 x227001_3] (fun k_ => k_ ≠ gb226) (fun _ => False) rfl rfl ?aP (fun _ hk => hk.elim) ?aF ?aO ?aB ?aS ?aL ?_
             (case aP => exact k26_mkM _ _ _ (⟨x227000_3, x227001_3⟩ : S26))
             (case aB => exact (zB1 GE226.out HB.out))
             (case aF => exact (fun k_ hk => Kd.freshB (g := gb226) (o := .cells #[.int .i64 x227000_3, .int .i64 x227001_3] 26 (0, 0)) (zP BK226.out) k_ hk))
             (case aO => exact (zR HO_5.out))
             (case aS => exact (below_size (zB1 GE226.out HB.out)))
             (case aL => have := LMc48.out; omega)
             intro v253 w55 ho hb hg hat
             rw [← Ny252.out] at ho
             have n0_ := zM (blk_grown (g := gb226) (o := .cells #[.int .i64 x227000_3, .int .i64 x227001_3] 26 (0, 0)) (zP BK226.out) hg (Kd.R_away HO_5.out (fun _ hk => hk)))
             have n1_ := zM (hb)
             have n2_ := zM (ho)
             clear BK226
             clear HB
             clear HO_5
             have BK226 := n0_
             have HB := n1_
             have HO254 := n2_
             clear n0_ n1_ n2_
             clear ho hb hg hat
             refine hK.out _ _ ⟨(blk_cell BK226.out 0).trans rfl, (blk_cell BK226.out 1).trans rfl⟩ (fun hHeld => ?_)
             clear hK K
             refine norm_ (a' := ?_) ?_ ?_
             rotate_left
             ·show Act.put _ (some 89) _ = _
              simp only [Act.put, List.setIfInBounds_toArray, List.set_cons_zero, List.set_cons_succ, i64_w, i32_w]
              rfl
             refine one_ (i := 7) (N := some 93) (ba 9 255).toArray rfl rfl (one_of HT_.out (by kernel_rfl)) (by decide) (fun K hK => ?_)
             refine Kd.R_append_rows_step k26 (w0 := w) w.heap.size (by rfl) (.tmp 89) (.tmp 92) 24 26 (.agg #[(.int .i64 0), (.int .i64 0)]) 16 rfl Try.underlying24 info26 rfl (by decide) (by omega) v253 y252 y255 _ _ _ (fun k_ => k_ ≠ gb226) (fun _ => False) rfl rfl ?aO ?aR (fun _ _ h => h) (fun _ h => h.elim) ?aF ?aB ?aS ?aL ?_
             (case aR => exact (zC (Kd.C_below HR258.out HB.out)))
             (case aB => exact (zB1 GE226.out HB.out))
             (case aF => exact (fun k_ hk => Kd.freshB (g := gb226) (o := .cells #[.int .i64 x227000_3, .int .i64 x227001_3] 26 (0, 0)) (zP BK226.out) k_ hk))
             (case aO => exact (zR HO254.out))
             (case aS => exact (below_size (zB1 GE226.out HB.out)))
             (case aL => have := LMc51.out; omega)
             intro v260 w56 ho hb hg hat
             rw [← Ny259.out] at ho
             have n0_ := zM (blk_grown (g := gb226) (o := .cells #[.int .i64 x227000_3, .int .i64 x227001_3] 26 (0, 0)) (zP BK226.out) hg (Kd.R_away HO254.out (fun _ hk => hk)))
             have n1_ := zM (hb)
             have n2_ := zM (ho)
             clear BK226
             clear HB
             clear HO254
             have BK226 := n0_
             have HB := n1_
             have HO261 := n2_
             clear n0_ n1_ n2_
             clear ho hb hg hat
             refine hK.out _ _ ⟨(blk_cell BK226.out 0).trans rfl, (blk_cell BK226.out 1).trans rfl⟩ (fun hHeld => ?_)
             clear hK K
             refine norm_ (a' := ?_) ?_ ?_
             rotate_left
             ·show Act.put _ (some 93) _ = _
              simp only [Act.put, List.setIfInBounds_toArray, List.set_cons_zero, List.set_cons_succ, i64_w, i32_w]
              rfl
             refine zq 8 (some 4) (ba 9 511).toArray HT_ ?_
             refine done_ (done_of HT_.out (by kernel_rfl)) ?_
             try go_wp2
             go_ret
             exact ⟨_, zE, (zRm HO261.out (fun _ hk => trivial)), (zB1 GE226.out HB.out)⟩
            ·rw [if_neg c51] at H
             exact absurd H (by simp)
           ·rw [if_neg c50] at H
            exact absurd H (by simp)
          ·rw [if_neg c49] at H
           exact absurd H (by simp)
         ·rw [if_neg c48] at H
          exact absurd H (by simp)

end Go.Proofs.Yteahdfibipalkaa.G

namespace Go.Proofs.Yteahdfibipalkaa.G
open Go.RowKit Go.Proofs.YteahdfibipalkaaW.PrintWords Go.Proofs.YteahdfibipalkaaW.PrintLast Go.Proofs.YteahdfibipalkaaW.PrintMore
attribute [local go_sem] max2_int min2_int max_two min_two max_three min_three max_four min_four   -- for this text's walks alone
set_option linter.unusedVariables false
set_option linter.unusedSimpArgs false

/-- Where p first holds, or -1. -/
theorem idxI_hit {α : Type} {p : α → Bool} {l : List α} (d : α) {k : Nat} (hk : k < l.length) (hp : p (l.getD k d) = true) (hn : ∀ j, j < k → p (l.getD j d) = false) : idxI p l = (k : Int) := by
 have e : l.findIdx p = k := by
  rw [List.findIdx_eq hk]
  refine ⟨by simpa [List.getD_eq_getElem?_getD, List.getElem?_eq_getElem hk] using hp, fun j hj => ?_⟩
  have := hn j hj
  simpa [List.getD_eq_getElem?_getD, List.getElem?_eq_getElem (Nat.lt_trans hj hk)] using this
 rw [idxI, e, if_pos hk]
theorem idxI_miss {α : Type} {p : α → Bool} {l : List α} (d : α) (hn : ∀ j, j < l.length → p (l.getD j d) = false) : idxI p l = -1 := by
 have e : ¬ l.findIdx p < l.length := by
  intro h
  have h1 := List.findIdx_getElem (w := h)
  have h2 := hn _ h
  simp [List.getD_eq_getElem?_getD, List.getElem?_eq_getElem h, h1] at h2
 rw [idxI, if_neg e]
theorem idxI_any {α : Type} (p : α → Bool) (l : List α) : decide (0 ≤ idxI p l) = l.any p := by
 unfold idxI
 by_cases h : l.findIdx p < l.length
 ·rw [if_pos h, List.any_eq_true.2 ⟨_, List.getElem_mem h, List.findIdx_getElem (w := h)⟩]
  simp
 ·rw [if_neg h]
  have : l.any p = false := by
   rw [List.any_eq_false]
   intro x hx hp
   exact h (List.findIdx_lt_length_of_exists ⟨x, hx, hp⟩)
  rw [this]; rfl
/-! ### impl_Span_53: function 53 -/
set_option maxHeartbeats 2000000 in
theorem impl_Span_53.any (p : S26 → Bool) (g : Nat) (lb : Array Value) (eg : ∀ args w, (callFunc g args).run Try.prog w = .ok (.enter g args) w) (A0 : Option Addr) (c0 : Nat) (l0 : List S26) (w : World)
  (hr0 : Kd.C k26 w A0 l0.length l0)
  (hp : ∀ (W : World) (x : S26) (cs : List Value), Below w.heap.size w W → Kd.K k26 W x cs → Calls Try.prog g (#[.agg cs.toArray] ++ lb) W fun e w' => e = .returned (.bool (p x)) ∧ Below w.heap.size w w') :
  Calls Try.prog 53 #[.slice A0 l0.length c0, .func (.func g) #[] lb] w fun e w' => e = .returned (.int .i64 (idxI p l0)) ∧ Below w.heap.size w w' := by
 have hbig : l0.length ≤ 9223372036854775807 := hr0.2.1
 go_enter Try.func53, Try.ntmps53
 go_wp2
 go_loopg [5, 8] l0.length (fun gg _ s8 wr => ∃ kk : Nat, kk ≤ l0.length ∧ l0.length - kk ≤ gg ∧ s8 = .int .i64 kk ∧ Aside (Below w.heap.size w wr) ∧ Aside (∀ j, j < kk → p (l0.getD j z26) = false))
 case atStart => exact ⟨0, Nat.zero_le _, by omega, rfl, Below.refl _ w, fun j hj => absurd hj (Nat.not_lt_zero _)⟩
 case round =>
  obtain ⟨kk, hkk, hg, rfl, BW, AA⟩ := hrel
  by_cases hlt : kk < l0.length
  ·obtain ⟨ad, c, e, hcl, hK, hcell⟩ := Kd.C_get (Kd.C_below hr0 BW.out) z26 (kk : Int) (by omega) (by omega)
   cases e
   have hltz : (kk : Int) < (l0.length : Int) := by omega
   have hcall := hp wr _ c BW.out hK
   rw [Int.toNat_natCast] at hcall hcell
   clear hr0 hp hK
   obtain ⟨v0_, v1_, rfl⟩ : ∃ v0_ v1_ : Value, c = [v0_, v1_] := by match c, hcl with | [v0_, v1_], _ => exact ⟨v0_, v1_, rfl⟩
   have hx0 : wr.cell? (ad.add (kk * 2)) = some v0_ := hcell 0 _ rfl
   have hx1 : wr.cell? ⟨(ad.add (kk * 2)).block, (ad.add (kk * 2)).off + 1, none⟩ = some v1_ := by rw [← add_field _ _ 1 (by omega)]; exact hcell 1 _ rfl
   generalize hy : p (l0.getD kk z26) = b at hcall
   have Hy : Aside (p (l0.getD kk z26) = b) := hy
   clear hy hcell hcl
   cases b with
   | true =>
    go_wp2_with (go_at_fn g; refine hcall.mono ?_; rintro e w' ⟨rfl, hb'⟩)
    go_ret
    exact ⟨by rw [idxI_hit z26 hlt Hy.out AA.out]; rfl, hb'⟩
   | false =>
    go_wp2_with (go_at_fn g; refine hcall.mono ?_; rintro e w' ⟨rfl, hb'⟩)
    go_roundg (l0.length - (kk + 1))
    case measure => omega
    case rel =>
     refine ⟨kk + 1, by omega, by omega, by go_num, hb', (show Aside _ from fun j hj => ?_)⟩
     by_cases e : j = kk
     ·subst e; exact Hy.out
     ·exact AA.out j (by omega)
  ·have hltz : ¬ (kk : Int) < (l0.length : Int) := by omega
   have e : kk = l0.length := by omega
   have AA' : Aside (∀ j, j < l0.length → p (l0.getD j z26) = false) := fun j hj => AA.out j (by omega)
   clear AA e
   go_wp2
   go_ret
   exact ⟨by rw [idxI_miss z26 AA'.out]; rfl, BW.out⟩

end Go.Proofs.Yteahdfibipalkaa.G

namespace Go.Proofs.Yteahdfibipalkaa.G
open Go.RowKit Go.Proofs.YteahdfibipalkaaW.PrintWords Go.Proofs.YteahdfibipalkaaW.PrintLast Go.Proofs.YteahdfibipalkaaW.PrintMore
attribute [local go_sem] max2_int min2_int max_two min_two max_three min_three max_four min_four   -- for this text's walks alone
set_option linter.unusedVariables false
set_option linter.unusedSimpArgs false

/-! ### impl_Span_39: function 39 -/
theorem impl_Span_39.any (p : S26 → Bool) (g : Nat) (lb : Array Value) (eg : ∀ args w, (callFunc g args).run Try.prog w = .ok (.enter g args) w) (A0 : Option Addr) (c0 : Nat) (l0 : List S26) (w : World)
  (hr0 : Kd.C k26 w A0 l0.length l0)
  (hp : ∀ (W : World) (x : S26) (cs : List Value), Below w.heap.size w W → Kd.K k26 W x cs → Calls Try.prog g (#[.agg cs.toArray] ++ lb) W fun e w' => e = .returned (.bool (p x)) ∧ Below w.heap.size w w') :
  Calls Try.prog 39 #[.slice A0 l0.length c0, .func (.func g) #[] lb] w fun e w' => e = .returned (.bool (l0.any p)) ∧ Below w.heap.size w w' := by
 rw [← idxI_any]
 generalize hi : idxI p l0 = ii
 have HI := zM hi
 clear hi
 go_enter Try.func39, Try.ntmps39
 go_wp2_with (go_at_call 53; refine (impl_Span_53.any p g lb eg A0 c0 l0 _ hr0 hp).mono ?_; rw [HI.out]; rintro e w' ⟨rfl, hb'⟩)
 go_ret
 exact ⟨rfl, hb'⟩

end Go.Proofs.Yteahdfibipalkaa.G

namespace Go.Proofs.Yteahdfibipalkaa.G
open Go.RowKit Go.Proofs.YteahdfibipalkaaW.PrintWords Go.Proofs.YteahdfibipalkaaW.PrintLast Go.Proofs.YteahdfibipalkaaW.PrintMore
attribute [local go_sem] max2_int min2_int max_two min_two max_three min_three max_four min_four   -- for this text's walks alone
set_option linter.unusedVariables false
set_option linter.unusedSimpArgs false

/-! ### impl_CoversSpan: function 12 -/
set_option maxHeartbeats 2000000 in
theorem impl_CoversSpan.lam (B : Nat) (x0 x1 : Int) (w : World) (hB : w.heap[B]? = some (.cells #[.int .i64 x0, .int .i64 x1] 26 (0, 0))) (W : World) (y : S26) (cs : List Value) (hb : Below w.heap.size w W) (hK : Kd.K k26 W y cs) :
  Calls Try.prog 40 (#[.agg cs.toArray] ++ #[.pointer (some ⟨B, 0, none⟩)]) W fun e w' => e = .returned (.bool (decide (y.f0 ≤ x0) && decide (x1 ≤ y.f1))) ∧ Below w.heap.size w w' := by
 obtain rfl := k26_open hK
 clear hK
 have hlt : B < w.heap.size := (Array.getElem?_eq_some_iff.1 hB).1
 have hB' : W.heap[B]? = some (.cells #[.int .i64 x0, .int .i64 x1] 26 (0, 0)) := (hb.block B hlt).trans hB
 have hBW : B < W.heap.size := Nat.lt_of_lt_of_le hlt hb.size
 have hc0 : W.cell? ⟨B, 0, none⟩ = some (.int .i64 x0) := (blk_cell hB' 0).trans rfl
 have hc1 : W.cell? ⟨B, 1, none⟩ = some (.int .i64 x1) := (blk_cell hB' 1).trans rfl
 have hne : B ≠ W.heap.size := by omega
 clear hB hB'
 obtain ⟨y0, y1⟩ := y
 show Calls Try.prog 40 #[.agg #[.int .i64 y0, .int .i64 y1], .pointer (some ⟨B, 0, none⟩)] W _
 by_cases h1 : y0 ≤ x0
 ·have e1 : decide (y0 ≤ x0) = true := decide_eq_true h1
  clear h1
  rw [e1, Bool.true_and]
  have HB := zM hb
  clear hb
  go_enter Try.func40, Try.ntmps40
  go_wp2
  go_ret
  exact ⟨by simp_all, HB.out.alloc HB.out.size _⟩
 ·have e1 : decide (y0 ≤ x0) = false := decide_eq_false h1
  clear h1
  rw [e1, Bool.false_and]
  have HB := zM hb
  clear hb
  go_enter Try.func40, Try.ntmps40
  go_wp2
  go_ret
  exact ⟨by simp_all, HB.out.alloc HB.out.size _⟩
set_option maxHeartbeats 2000000 in
theorem impl_CoversSpan.calls (A0 : Option Addr) (c0 : Nat) (l0 : List (S26)) (a1_0 : Int) (a1_1 : Int) (r : Bool) (w : World) (hr0 : Kd.C k26 w A0 l0.length l0) (hc0 : l0.length ≤ c0) (h : impl_CoversSpan.f l0 a1_0 a1_1 = some r) :
  Calls Try.prog 12 #[.slice A0 l0.length c0, .agg #[.int .i64 a1_0, .int .i64 a1_1]] w fun e w' => e = .returned (.bool r) ∧ Below w.heap.size w w' := by
 have eg : ∀ args w, (callFunc 40 args).run Try.prog w = .ok (.enter 40 args) w := enters_of Try.func40 (by kernel_rfl) rfl
 by_cases hlt : a1_0 ≥ a1_1
 ·obtain rfl : true = r := by simpa [impl_CoversSpan.f, hlt] using h
  have e1 : decide (a1_1 ≤ a1_0) = true := decide_eq_true hlt
  clear hlt h hr0 hc0
  go_enter Try.func12, Try.ntmps12
  go_wp2
  go_ret
  exact ⟨rfl, (Below.refl _ w).alloc (Nat.le_refl _) _⟩
 ·obtain rfl : (l0.any fun y => decide (y.f0 ≤ a1_0) && decide (a1_1 ≤ y.f1)) = r := by simpa [impl_CoversSpan.f, hlt] using h
  have e1 : decide (a1_1 ≤ a1_0) = false := decide_eq_false hlt
  have hcon := fun hl => impl_Span_39.any (fun y => decide (y.f0 ≤ a1_0) && decide (a1_1 ≤ y.f1)) 40 #[.pointer (some ⟨w.heap.size, 0, none⟩)] eg A0 c0 l0 (w.alloc (.cells #[.int .i64 a1_0, .int .i64 a1_1] 26))
   (Kd.C_below hr0 ((Below.refl _ w).alloc (Nat.le_refl _) _)) (impl_CoversSpan.lam w.heap.size a1_0 a1_1 _ hl)
  replace hcon := hcon (heap_alloc_new w _)
  generalize (l0.any fun y => decide (y.f0 ≤ a1_0) && decide (a1_1 ≤ y.f1)) = r at hcon ⊢
  clear hlt h hr0 hc0
  go_enter Try.func12, Try.ntmps12
  go_wp2_with (go_at_call 39; refine hcon.mono ?_; rintro e w' ⟨rfl, hb'⟩)
  go_ret
  exact ⟨rfl, ((Below.refl _ w).alloc (Nat.le_refl _) _).trans (hb'.mono (by simp))⟩

end Go.Proofs.Yteahdfibipalkaa.G

namespace Go.Proofs.Yteahdfibipalkaa.G
open Go.RowKit Go.Proofs.YteahdfibipalkaaW.PrintWords Go.Proofs.YteahdfibipalkaaW.PrintLast Go.Proofs.YteahdfibipalkaaW.PrintMore
attribute [local go_sem] max2_int min2_int max_two min_two max_three min_three max_four min_four   -- for this text's walks alone
set_option linter.unusedVariables false
set_option linter.unusedSimpArgs false

/-! ### impl_SpansOf: function 30 -/
set_option maxHeartbeats 8000000 in
set_option maxRecDepth 100000 in
theorem impl_SpansOf.calls (k : Nat) (A0 : Option Addr) (c0 : Nat) (l0 : List (S44)) (r : List (S26)) (w : World) (hr0 : Kd.C k44 w A0 l0.length l0) (hc0 : l0.length ≤ c0) (h : impl_SpansOf.f k l0 = some r) :
  Calls Try.prog 30 #[.slice A0 l0.length c0] w fun e w' => ∃ v0_ : Value, e = .returned (v0_) ∧ Kd.R k26 26 w' w.heap.size (fun _ => True) v0_ r ∧ Below w.heap.size w w' := by
 have hu44 := Try.underlying44
 have hu26 := Try.underlying26
 have HR0 := zM hr0
 have HC0 := zM hc0
 clear hr0 hc0
 have HB := zM (Below.refl w.heap.size w)
 have H : (impl_SpansOf.l0 k (([] : List (S26))) l0 (l0.length : Int) 0) = some r := h
 clear h
 obtain ⟨y433, hy433⟩ : ∃ y_ : List (S26), y_ = (([] : List (S26))) := ⟨_, rfl⟩
 replace H : (impl_SpansOf.l0 k y433 l0 (l0.length : Int) 0) = some r := zH hy433 H
 have Ny433 := zM hy433
 clear hy433
 have H' := zM H
 clear H
 go_enter Try.func30, Try.ntmps30
 go_wp2_with (first | ((with_reducible refine gate_dst (N := 6) rfl ?_); refine Kd.R_lit k26 _ 26 ?hg (N := 6) ?hd (xs := ([] : List (S26))) (inner := []) (ok := fun _ => True) (okp := fun _ => True) ?hr ?hp (fun _ hk => hk) trivial (Below.refl _ _) (Nat.le_refl _) (by simp) ?_; (case hd => rfl); (case hg => rfl); (case hr => first | (go_simp; done) | (go_simp; rfl)); (case hp => exact (Reps.none _ _)); intro v434 w2 ho3 hb hg_ hnew_; clear hg_ hnew_; (first | rw [← Ny433.out] at ho3 | (simp only [Int.reduceToNat] at ho3; rw [← Ny433.out] at ho3)); have n0_ := zM (Kd.R_lower ho3 (below_size (zB HB.out))); have n1_ := zM (below_step (zB HB.out) hb); clear HB; have HO435 := n0_; have HB := n1_; clear n0_ n1_; clear hb ho3))
 go_loopg [3, 9] k (fun kq v3 v9 w' => ∃ (x3_1 : List (S26)) (x9_1 : Int), v9 = .int .i64 x9_1 ∧ Aside0 (impl_SpansOf.l0 kq x3_1 l0 (l0.length : Int) x9_1 = some r) ∧ Aside0 (kq ≤ k) ∧ Aside0 (Kd.R k26 26 w' w.heap.size (fun _ => True) v3 x3_1) ∧ Aside0 (Below w.heap.size w w'))
 case atStart => exact ⟨(y433), (0), zS, H', ⟨Nat.le_refl _⟩, ⟨(zR HO435.out)⟩, ⟨(zB HB.out)⟩⟩
 case round =>
  clear H'
  try clear p2
  try clear c3
  obtain ⟨x3_1, x9_1, rfl, HA, HK1, HO_3, HB⟩ := hrel
  cases gk with
  | zero => exact absurd HA.out (by simp [impl_SpansOf.l0])
  | succ k1 =>
   have H := HA.out
   clear HA
   simp only [impl_SpansOf.l0] at H
   by_cases c4 : x9_1 < (l0.length : Int)
   ·rw [if_pos c4] at H
    have c4b0 : decide (x9_1 < (l0.length : Int)) = true := decide_eq_true c4
    clear c4
    by_cases c5 : 0 ≤ x9_1
    ·rw [if_pos c5] at H
     have c5b0 : decide (0 ≤ x9_1) = true := decide_eq_true c5
     clear c5
     by_cases c6 : x9_1 < (l0.length : Int)
     ·rw [if_pos c6] at H
      have c6b0 : decide (x9_1 < (l0.length : Int)) = true := decide_eq_true c6
      clear c6
      by_cases c7 : x3_1.length < 8796093022208
      ·rw [if_pos c7] at H
       have LMc7 := zM c7
       clear c7
       obtain ⟨y438, hy438⟩ : ∃ y_ : List (S26), y_ = (x3_1 ++ [(⟨(rd_T44 l0 x9_1).f0, wrap64 (((rd_T44 l0 x9_1).f0) + (((rd_T44 l0 x9_1).f1).size : Int))⟩ : S26)]) := ⟨_, rfl⟩
       replace H : (impl_SpansOf.l0 k1 y438 l0 (l0.length : Int) (wrap64 (x9_1 + 1))) = some r := zH hy438 H
       have Ny438 := zM hy438
       clear hy438
       have H' := zM H
       clear H
       have p436 : 0 ≤ (x9_1 : Int) := zD
       have q436 : x9_1 < (l0.length : Int) := zD
       obtain ⟨ad436, e436, hx436_0, hx436_1⟩ := at_T44 HR0.out x9_1 p436 q436
       cases e436
       replace hx436_0 := (HB.out.cell (World.block_lt_of_cell? w _ hx436_0)).trans hx436_0
       replace hx436_1 := (HB.out.cell (World.block_lt_of_cell? w _ hx436_1)).trans hx436_1
       replace p436 := eq_true p436
       replace q436 := eq_true q436
       go_wp2_with (first | ((with_reducible refine gate_dst (N := 5) rfl ?_); refine box_event ?hg (N := 5) ?hd (cs := #[.int .i64 0, .string (⟨#[]⟩ : ByteArray)]) (t := 44) ?hr ?_; (case hd => rfl); (case hg => rfl); (case hr => first | (go_simp; done) | (go_simp; rfl)); intro gb437 hg w8 hbox hb; have n0_ := zM (Kd.R_below (zR HO_3.out) hb); have n1_ := zM (below_step (zB HB.out) hb); have n2_ := zM (hbox); have n3_ := zM ((by rw [hg]; exact (below_size (zB HB.out)) : w.heap.size ≤ gb437)); have n4_ := zM ((by rw [hg]; exact (below_size (zB HB.out)) : w.heap.size ≤ gb437)); clear HO_3; clear HB; have HO_3 := n0_; have HB := n1_; have BK437 := n2_; have GW437 := n3_; have GE437 := n4_; clear n0_ n1_ n2_ n3_ n4_; clear hb hbox hg; have hcz9_0 : w8.cell? ⟨gb437, 0, none⟩ = some (.int .i64 0) := (blk_cell BK437.out 0).trans rfl; have hcz9_1 : w8.cell? ⟨gb437, 1, none⟩ = some (.string (⟨#[]⟩ : ByteArray)) := (blk_cell BK437.out 1).trans rfl; have hfz9_0 := blk_frozen BK437.out 0; have hfz9_1 := blk_frozen BK437.out 1) | ((with_reducible refine gate_builtin (b := .append) (xs := #[.tmp 13, .tmp 23]) rfl ?_); at_builtin; refine Kd.R_append k26 (w0 := w) w.heap.size rfl (.tmp 13) (.tmp 23) 24 26 (.agg #[(.int .i64 0), (.int .i64 0)]) 16 rfl Try.underlying24 info26 rfl (by decide) (by omega) u3 x3_1 (⟨(rd_T44 l0 x9_1).f0, wrap64 (((rd_T44 l0 x9_1).f0) + (((rd_T44 l0 x9_1).f1).size : Int))⟩ : S26) [.int .i64 ((rd_T44 l0 x9_1).f0), .int .i64 (wrap64 (((rd_T44 l0 x9_1).f0) + (((rd_T44 l0 x9_1).f1).size : Int)))] (fun _ => True) (fun _ => False) rfl (by first | (go_simp; done) | (go_simp; rfl)) ?aP (fun _ hk => hk.elim) ?aF ?aO ?aB ?aS ?aL ?_; (case aP => exact k26_mkM _ _ _ (⟨(rd_T44 l0 x9_1).f0, wrap64 (((rd_T44 l0 x9_1).f0) + (((rd_T44 l0 x9_1).f1).size : Int))⟩ : S26)); (case aB => exact (zB1 GE437.out HB.out)); (case aF => exact (fun _ _ => trivial)); (case aO => exact (by (with_reducible repeat (first | apply Kd.R_alloc | apply Kd.R_drewN | apply Kd.R_drew)); exact Kd.R_mono (Kd.R_far (p := ⟨gb437, 1, none⟩) (Kd.R_far (p := ⟨gb437, 0, none⟩) (Kd.R_types HO_3.out BK437.out (by decide)) (fun _ hk => hk.2) (.int .i64 ((rd_T44 l0 x9_1).f0))) (fun _ hk => hk.2) (.string ((rd_T44 l0 x9_1).f1))) (fun _ hk => trivial))); (case aS => exact (below_size (zB1 GE437.out HB.out))); (case aL => have := LMc7.out; omega); intro v439 w10 ho hb hg hat; rw [← Ny438.out] at ho; have n0_ := zM (blk_grown (g := gb437) (o := .cells #[.int .i64 ((rd_T44 l0 x9_1).f0), .string ((rd_T44 l0 x9_1).f1)] 44 (0, 0)) (by (with_reducible repeat (first | refine blk_drewN ?_ _ | refine blk_drew ?_ | refine blk_alloc ?_ _)); refine blk_put (cs := #[.int .i64 ((rd_T44 l0 x9_1).f0), .string (⟨#[]⟩ : ByteArray)]) ?_ 1 _ rfl; (with_reducible repeat (first | refine blk_drewN ?_ _ | refine blk_drew ?_ | refine blk_alloc ?_ _)); refine blk_put (cs := #[.int .i64 0, .string (⟨#[]⟩ : ByteArray)]) ?_ 0 _ rfl; (with_reducible repeat (first | refine blk_drewN ?_ _ | refine blk_drew ?_ | refine blk_alloc ?_ _)); exact BK437.out) hg (Kd.R_ne HO_3.out BK437.out (by decide))); have n1_ := zM (hb); have n2_ := zM (ho); clear BK437; clear HB; clear HO_3; have BK437 := n0_; have HB := n1_; have HO440 := n2_; clear n0_ n1_ n2_; clear ho hb hg hat))
       go_roundg k1
       case measure => have := HK1.out; omega
       case rel => exact ⟨(y438), (wrap64 (x9_1 + 1)), zS, H', ⟨by have := HK1.out; omega⟩, ⟨(zR HO440.out)⟩, ⟨(zB1 GE437.out HB.out)⟩⟩
      ·rw [if_neg c7] at H
       exact absurd H (by simp)
     ·rw [if_neg c6] at H
      exact absurd H (by simp)
    ·rw [if_neg c5] at H
     exact absurd H (by simp)
   ·rw [if_neg c4] at H
    have c4b0 : decide (x9_1 < (l0.length : Int)) = false := decide_eq_false c4
    clear c4
    obtain rfl := Option.some.inj H
    go_wp2
    go_ret
    exact ⟨_, zE, (zR HO_3.out), (zB HB.out)⟩

end Go.Proofs.Yteahdfibipalkaa.G

namespace Go.Proofs.Yteahdfibipalkaa.G
open Go.RowKit Go.Proofs.YteahdfibipalkaaW.PrintWords Go.Proofs.YteahdfibipalkaaW.PrintLast Go.Proofs.YteahdfibipalkaaW.PrintMore
attribute [local go_sem] max2_int min2_int max_two min_two max_three min_three max_four min_four   -- for this text's walks alone
set_option linter.unusedVariables false
set_option linter.unusedSimpArgs false

/-! ### impl_inRange: function 57 -/
set_option maxHeartbeats 8000000 in
set_option maxRecDepth 100000 in
theorem impl_inRange.calls (a0 : Int) (a1 : Int) (a2 : Int) (r : Bool) (w : World) (h : impl_inRange.f a0 a1 a2 = some r) :
  Calls Try.prog 57 #[.int .i64 a0, .int .i64 a1, .int .i64 a2] w fun e w' => e = .returned (.bool r) ∧ Drawn0 w w' := by
 have H : (if a1 ≤ a0 then (some (decide (a0 ≤ a2))) else (some false)) = some r := h
 clear h
 by_cases c4 : a1 ≤ a0
 ·rw [if_pos c4] at H
  have c4b0 : decide (a1 ≤ a0) = true := decide_eq_true c4
  clear c4
  obtain rfl := Option.some.inj H
  go_enter Try.func57, Try.ntmps57
  go_wp2
  go_ret
  exact ⟨zS, zW⟩
 ·rw [if_neg c4] at H
  have c4b0 : decide (a1 ≤ a0) = false := decide_eq_false c4
  clear c4
  obtain rfl := Option.some.inj H
  go_enter Try.func57, Try.ntmps57
  go_wp2
  go_ret
  exact ⟨zS, zW⟩

end Go.Proofs.Yteahdfibipalkaa.G

namespace Go.Proofs.Yteahdfibipalkaa.G
open Go.RowKit Go.Proofs.YteahdfibipalkaaW.PrintWords Go.Proofs.YteahdfibipalkaaW.PrintLast Go.Proofs.YteahdfibipalkaaW.PrintMore
attribute [local go_sem] max2_int min2_int max_two min_two max_three min_three max_four min_four   -- for this text's walks alone
set_option linter.unusedVariables false
set_option linter.unusedSimpArgs false

/-! ### impl_ArePieces: function 45 -/
set_option maxHeartbeats 8000000 in
set_option maxRecDepth 100000 in
theorem impl_ArePieces.calls (k : Nat) (A0 : Option Addr) (c0 : Nat) (l0 : List (S44)) (a1 : Int) (r : Bool) (w : World) (hr0 : Kd.C k44 w A0 l0.length l0) (hc0 : l0.length ≤ c0) (h : impl_ArePieces.f k l0 a1 = some r) :
  Calls Try.prog 45 #[.slice A0 l0.length c0, .int .i64 a1] w fun e w' => e = .returned (.bool r) ∧ Below w.heap.size w w' := by
 have HR0 := zM hr0
 have HC0 := zM hc0
 clear hr0 hc0
 have HB := zM (Below.refl w.heap.size w)
 have H : ((impl_SpansOf.f k l0).bind fun t441 => ((impl_inRange.f a1 0 600).bind fun t444 => (if t444 = true then (if (l0.length : Int) > 8 then (some false) else ((impl_IsSpanSet.f k t441).bind fun t445 => (if t445 = true then (if (t441.length : Int) = 0 then (some true) else (if 0 ≤ (wrap64 ((t441.length : Int) - 1)) then (if (wrap64 ((t441.length : Int) - 1)) < (t441.length : Int) then (some (decide (((rd_T26 t441 (wrap64 ((t441.length : Int) - 1))).f1) ≤ a1))) else (none)) else (none))) else (some false)))) else (some false)))) = some r := h
 clear h
 replace H := Option.bind_eq_some_iff.mp H
 obtain ⟨t441, A30, H⟩ := H
 try dsimp only at H
 have A3 := zM A30
 clear A30
 replace H := Option.bind_eq_some_iff.mp H
 obtain ⟨t444, A40, H⟩ := H
 try dsimp only at H
 have A4 := zM A40
 clear A40
 by_cases c5 : t444 = true
 ·subst c5
  rw [if_pos rfl] at H
  by_cases c6 : (l0.length : Int) > 8
  ·rw [if_pos c6] at H
   have c6b0 : decide (8 < (l0.length : Int)) = true := decide_eq_true c6
   have c6b1 : decide (8 < l0.length) = true := decide_eq_true (by omega)
   clear c6
   obtain rfl := Option.some.inj H
   go_enter Try.func45, Try.ntmps45
   go_wp2_with (first | ((with_reducible refine gate_callee (f := 30) rfl ?_); refine zG (some 7) Try.func30 #[.slice A0 l0.length c0] ?_; (with_reducible refine (impl_SpansOf.calls k _ _ l0 t441 _ ?side1 ?side2 A3.out).mono ?_); (case side1 => exact (zC HR0.out)); (case side2 => exact HC0.out); rintro e w7 ⟨v442, rfl, ho0, hb⟩; refine ⟨_, rfl, ?_⟩; have n0_ := zM (Kd.R_lower ho0 (below_size (zB HB.out))); have n1_ := zM (below_step (zB HB.out) hb); clear HB; have HO443 := n0_; have HB := n1_; clear n0_ n1_; (try clear hb); (try clear hb2); (try clear hk); (try clear hi); (try clear ho0)) | ((with_reducible refine gate_callee (f := 57) rfl ?_); refine zG (some 9) Try.func57 #[.int .i64 a1, .int .i64 0, .int .i64 600] ?_; (with_reducible refine (impl_inRange.calls a1 0 600 true _ A4.out).mono ?_); rintro e w' ⟨rfl, ⟨nd, rfl⟩⟩; refine ⟨_, rfl, ?_⟩))
   go_ret
   exact ⟨zE, (zB HB.out)⟩
  ·rw [if_neg c6] at H
   have c6b0 : decide (8 < (l0.length : Int)) = false := decide_eq_false c6
   have c6b1 : decide (8 < l0.length) = false := decide_eq_false (by omega)
   clear c6
   replace H := Option.bind_eq_some_iff.mp H
   obtain ⟨t445, A80, H⟩ := H
   try dsimp only at H
   have A8 := zM A80
   clear A80
   by_cases c9 : t445 = true
   ·subst c9
    rw [if_pos rfl] at H
    by_cases c10 : (t441.length : Int) = 0
    ·rw [if_pos c10] at H
     have c10b0 : ((t441.length : Int) == 0) = true := beq_iff_eq.mpr c10
     have c10b1 : ((t441.length : Int) != 0) = false := bne_eq_false_iff_eq.mpr c10
     clear c10
     obtain rfl := Option.some.inj H
     go_enter Try.func45, Try.ntmps45
     go_wp2_with (first | ((with_reducible refine gate_callee (f := 30) rfl ?_); refine zG (some 7) Try.func30 #[.slice A0 l0.length c0] ?_; (with_reducible refine (impl_SpansOf.calls k _ _ l0 t441 _ ?side1 ?side2 A3.out).mono ?_); (case side1 => exact (zC HR0.out)); (case side2 => exact HC0.out); rintro e w11 ⟨v442, rfl, ho0, hb⟩; refine ⟨_, rfl, ?_⟩; have n0_ := zM (Kd.R_lower ho0 (below_size (zB HB.out))); have n1_ := zM (below_step (zB HB.out) hb); clear HB; have HO443 := n0_; have HB := n1_; clear n0_ n1_; (try clear hb); (try clear hb2); (try clear hk); (try clear hi); (try clear ho0)) | ((with_reducible refine gate_callee (f := 57) rfl ?_); refine zG (some 9) Try.func57 #[.int .i64 a1, .int .i64 0, .int .i64 600] ?_; (with_reducible refine (impl_inRange.calls a1 0 600 true _ A4.out).mono ?_); rintro e w' ⟨rfl, ⟨nd, rfl⟩⟩; refine ⟨_, rfl, ?_⟩; obtain ⟨Ao12, co12, eo12⟩ := Kd.R_slice HO443.out; subst eo12) | (go_at_call 16; (with_reducible refine (impl_IsSpanSet.calls k _ _ t441 true _ ?side1 ?side2 A8.out).mono ?_); (case side1 => exact (zC ((Kd.R_reads' HO443.out).2.2))); (case side2 => exact (Kd.R_reads' HO443.out).2.1); rintro e w13 ⟨rfl, hb⟩; have n0_ := zM (Kd.R_below (zR HO443.out) hb); have n1_ := zM (below_step (zB HB.out) hb); clear HO443; clear HB; have HO443 := n0_; have HB := n1_; clear n0_ n1_; (try clear hb); (try clear hb2); (try clear hk); (try clear hi)))
     go_ret
     exact ⟨zE, (zB HB.out)⟩
    ·rw [if_neg c10] at H
     have c10b0 : ((t441.length : Int) == 0) = false := beq_eq_false_iff_ne.mpr c10
     have c10b1 : ((t441.length : Int) != 0) = true := bne_iff_ne.mpr c10
     have c10b2 : ¬ (t441 = []) := fun h_ => c10 (by rw [h_]; rfl)
     obtain ⟨ji14, hji14⟩ : ∃ j_ : Int, (wrap64 ((t441.length : Int) - 1)) = j_ := ⟨_, rfl⟩
     replace H : (if 0 ≤ (ji14) then (if (ji14) < (t441.length : Int) then (some (decide (((rd_T26 t441 (ji14)).f1) ≤ a1))) else (none)) else (none)) = some r := by first | (rw [hji14] at H; exact H) | (simp only [hji14] at H ⊢; exact H)
     (try rw [hji14] at A3)
     (try rw [hji14] at A4)
     (try rw [hji14] at A8)
     have hji14w : (IntKind.i64.wrap ((t441.length : Int) - 1)) = ji14 := (i64_w _).trans hji14
     by_cases c15 : 0 ≤ (ji14)
     ·rw [if_pos c15] at H
      have c15b0 : decide (0 ≤ (ji14)) = true := decide_eq_true c15
      clear c15
      by_cases c16 : (ji14) < (t441.length : Int)
      ·rw [if_pos c16] at H
       have c16b0 : decide ((ji14) < (t441.length : Int)) = true := decide_eq_true c16
       clear c16
       obtain rfl := Option.some.inj H
       go_enter Try.func45, Try.ntmps45
       go_wp2_with (first | ((with_reducible refine gate_callee (f := 30) rfl ?_); refine zG (some 7) Try.func30 #[.slice A0 l0.length c0] ?_; (with_reducible refine (impl_SpansOf.calls k _ _ l0 t441 _ ?side1 ?side2 A3.out).mono ?_); (case side1 => exact (zC HR0.out)); (case side2 => exact HC0.out); rintro e w17 ⟨v442, rfl, ho0, hb⟩; refine ⟨_, rfl, ?_⟩; have n0_ := zM (Kd.R_lower ho0 (below_size (zB HB.out))); have n1_ := zM (below_step (zB HB.out) hb); clear HB; have HO443 := n0_; have HB := n1_; clear n0_ n1_; (try clear hb); (try clear hb2); (try clear hk); (try clear hi); (try clear ho0)) | ((with_reducible refine gate_callee (f := 57) rfl ?_); refine zG (some 9) Try.func57 #[.int .i64 a1, .int .i64 0, .int .i64 600] ?_; (with_reducible refine (impl_inRange.calls a1 0 600 true _ A4.out).mono ?_); rintro e w' ⟨rfl, ⟨nd, rfl⟩⟩; refine ⟨_, rfl, ?_⟩; obtain ⟨Ao18, co18, eo18⟩ := Kd.R_slice HO443.out; subst eo18) | (go_at_call 16; (with_reducible refine (impl_IsSpanSet.calls k _ _ t441 true _ ?side1 ?side2 A8.out).mono ?_); (case side1 => exact (zC ((Kd.R_reads' HO443.out).2.2))); (case side2 => exact (Kd.R_reads' HO443.out).2.1); rintro e w19 ⟨rfl, hb⟩; have n0_ := zM (Kd.R_below (zR HO443.out) hb); have n1_ := zM (below_step (zB HB.out) hb); clear HO443; clear HB; have HO443 := n0_; have HB := n1_; clear n0_ n1_; (try clear hb); (try clear hb2); (try clear hk); (try clear hi); have p446 : 0 ≤ ((ji14) : Int) := zD; have q446 : (ji14) < (t441.length : Int) := zD; obtain ⟨ad446, e446, hx446_0, hx446_1⟩ := at_T26 (Kd.R_reads' HO443.out).2.2 (ji14) p446 q446; cases e446; replace p446 := eq_true p446; replace q446 := eq_true q446))
       go_ret
       exact ⟨by first | rfl | (simp [errW_none, errW_some] <;> rfl) | (simp only [← hji14]; first | rfl | (simp [errW_none, errW_some] <;> rfl)) | (simp [*, errW_none, errW_some] <;> rfl), (zB HB.out)⟩
      ·rw [if_neg c16] at H
       exact absurd H (by simp)
     ·rw [if_neg c15] at H
      exact absurd H (by simp)
   ·replace c9 := Bool.eq_false_iff.mpr c9
    subst c9
    rw [if_neg (show ¬ (false = true) by decide)] at H
    obtain rfl := Option.some.inj H
    go_enter Try.func45, Try.ntmps45
    go_wp2_with (first | ((with_reducible refine gate_callee (f := 30) rfl ?_); refine zG (some 7) Try.func30 #[.slice A0 l0.length c0] ?_; (with_reducible refine (impl_SpansOf.calls k _ _ l0 t441 _ ?side1 ?side2 A3.out).mono ?_); (case side1 => exact (zC HR0.out)); (case side2 => exact HC0.out); rintro e w20 ⟨v442, rfl, ho0, hb⟩; refine ⟨_, rfl, ?_⟩; have n0_ := zM (Kd.R_lower ho0 (below_size (zB HB.out))); have n1_ := zM (below_step (zB HB.out) hb); clear HB; have HO443 := n0_; have HB := n1_; clear n0_ n1_; (try clear hb); (try clear hb2); (try clear hk); (try clear hi); (try clear ho0)) | ((with_reducible refine gate_callee (f := 57) rfl ?_); refine zG (some 9) Try.func57 #[.int .i64 a1, .int .i64 0, .int .i64 600] ?_; (with_reducible refine (impl_inRange.calls a1 0 600 true _ A4.out).mono ?_); rintro e w' ⟨rfl, ⟨nd, rfl⟩⟩; refine ⟨_, rfl, ?_⟩; obtain ⟨Ao21, co21, eo21⟩ := Kd.R_slice HO443.out; subst eo21) | (go_at_call 16; (with_reducible refine (impl_IsSpanSet.calls k _ _ t441 false _ ?side1 ?side2 A8.out).mono ?_); (case side1 => exact (zC ((Kd.R_reads' HO443.out).2.2))); (case side2 => exact (Kd.R_reads' HO443.out).2.1); rintro e w22 ⟨rfl, hb⟩; have n0_ := zM (Kd.R_below (zR HO443.out) hb); have n1_ := zM (below_step (zB HB.out) hb); clear HO443; clear HB; have HO443 := n0_; have HB := n1_; clear n0_ n1_; (try clear hb); (try clear hb2); (try clear hk); (try clear hi)))
    go_ret
    exact ⟨zE, (zB HB.out)⟩
 ·replace c5 := Bool.eq_false_iff.mpr c5
  subst c5
  rw [if_neg (show ¬ (false = true) by decide)] at H
  obtain rfl := Option.some.inj H
  go_enter Try.func45, Try.ntmps45
  go_wp2_with (first | ((with_reducible refine gate_callee (f := 30) rfl ?_); refine zG (some 7) Try.func30 #[.slice A0 l0.length c0] ?_; (with_reducible refine (impl_SpansOf.calls k _ _ l0 t441 _ ?side1 ?side2 A3.out).mono ?_); (case side1 => exact (zC HR0.out)); (case side2 => exact HC0.out); rintro e w23 ⟨v442, rfl, ho0, hb⟩; refine ⟨_, rfl, ?_⟩; have n0_ := zM (Kd.R_lower ho0 (below_size (zB HB.out))); have n1_ := zM (below_step (zB HB.out) hb); clear HB; have HO443 := n0_; have HB := n1_; clear n0_ n1_; (try clear hb); (try clear hb2); (try clear hk); (try clear hi); (try clear ho0)) | ((with_reducible refine gate_callee (f := 57) rfl ?_); refine zG (some 9) Try.func57 #[.int .i64 a1, .int .i64 0, .int .i64 600] ?_; (with_reducible refine (impl_inRange.calls a1 0 600 false _ A4.out).mono ?_); rintro e w' ⟨rfl, ⟨nd, rfl⟩⟩; refine ⟨_, rfl, ?_⟩))
  go_ret
  exact ⟨zE, (zB HB.out)⟩

end Go.Proofs.Yteahdfibipalkaa.G

namespace Go.Proofs.Yteahdfibipalkaa.G
open Go.RowKit Go.Proofs.YteahdfibipalkaaW.PrintWords Go.Proofs.YteahdfibipalkaaW.PrintLast Go.Proofs.YteahdfibipalkaaW.PrintMore
attribute [local go_sem] max2_int min2_int max_two min_two max_three min_three max_four min_four   -- for this text's walks alone
set_option linter.unusedVariables false
set_option linter.unusedSimpArgs false

/-! ### impl_Piece: function 46 -/
set_option maxHeartbeats 8000000 in
set_option maxRecDepth 100000 in
theorem impl_Piece.calls (A0 : Option Addr) (c0 : Nat) (l0 : List (S44)) (r : List (S44)) (w : World) (hr0 : Kd.C k44 w A0 l0.length l0) (hc0 : l0.length ≤ c0) (h : impl_Piece.f l0 = some r) :
  Calls Try.prog 46 #[.slice A0 l0.length c0] w fun e w' => ∃ v0_ : Value, e = .returned (v0_) ∧ Kd.R k44 44 w' w.heap.size (fun _ => True) v0_ r ∧ Below w.heap.size w w' := by
 have q_ : ∀ (w : World) (a : Option Addr) (n c n' c' : Nat), (binOp .eql 40 (.slice a n c) (.slice none n' c')).run Try.prog w = .ok (.bool a.isNone) w := fun w a n c n' c' => Lib.run_eql_slice_nil w _ _ a n c n' c' Try.underlying40
 by_cases hA : A0 = none
 ·subst hA
  obtain rfl : l0 = [] := by
   rcases l0 with _ | ⟨x, t⟩
   ·rfl
   ·obtain ⟨ad, e, _⟩ := hr0.2.2 (by simp)
    cases e
  obtain rfl : r = [] := by simpa [impl_Piece.f] using h.symm
  clear hr0 hc0 h
  go_enter Try.func46, Try.ntmps46
  go_wp2
  go_ret
  exact ⟨_, rfl, Kd.R_nil _ _ _ _ _, Below.refl _ _⟩
 have hA' : A0.isNone = false := by cases A0 <;> simp_all
 clear hA
 have HR0 := zM hr0
 have HC0 := zM hc0
 clear hr0 hc0
 have HB := zM (Below.refl w.heap.size w)
 have H : ((some (([] : List (S44)) : List (S44))).bind fun y447 => (if y447.length + l0.length < 5864062014805 then (some (y447 ++ l0)) else (none))) = some r := h
 clear h
 obtain ⟨y447, hy447⟩ : ∃ y_ : List (S44), y_ = (([] : List (S44))) := ⟨_, rfl⟩
 replace H : (if y447.length + l0.length < 5864062014805 then (some (y447 ++ l0)) else (none)) = some r := zH hy447 H
 have Ny447 := zM hy447
 clear hy447
 by_cases c2 : y447.length + l0.length < 5864062014805
 ·rw [if_pos c2] at H
  have LMc2 := zM c2
  clear c2
  obtain ⟨y450, hy450⟩ : ∃ y_ : List (S44), y_ = (y447 ++ l0) := ⟨_, rfl⟩
  replace H : (some y450) = some r := zH hy450 H
  have Ny450 := zM hy450
  clear hy450
  obtain rfl := Option.some.inj H
  go_enter Try.func46, Try.ntmps46
  go_wp2_with (first | ((with_reducible refine gate_dst (N := 5) rfl ?_); refine Kd.R_lit k44 _ 44 ?hg (N := 5) ?hd (xs := ([] : List (S44))) (inner := []) (ok := fun _ => True) (okp := fun _ => True) ?hr ?hp (fun _ hk => hk) trivial (Below.refl _ _) (Nat.le_refl _) (by simp) ?_; (case hd => rfl); (case hg => rfl); (case hr => first | (go_simp; done) | (go_simp; rfl)); (case hp => exact (Reps.none _ _)); intro v448 w3 ho4 hb hg_ hnew_; clear hg_ hnew_; (first | rw [← Ny447.out] at ho4 | (simp only [Int.reduceToNat] at ho4; rw [← Ny447.out] at ho4)); have n0_ := zM (Kd.R_lower ho4 (below_size (zB HB.out))); have n1_ := zM (below_step (zB HB.out) hb); clear HB; have HO449 := n0_; have HB := n1_; clear n0_ n1_; clear hb ho4) | ((with_reducible refine gate_builtin (b := .append) (xs := #[.tmp 5, .tmp 6]) rfl ?_); at_builtin; refine Kd.R_append_rows k44 (w0 := w) w.heap.size rfl (.tmp 5) (.tmp 6) 40 44 (.agg #[(.int .i64 0), (.string ⟨#[]⟩)]) 24 rfl Try.underlying40 info44 rfl (by decide) (by omega) v448 y447 l0 _ _ _ (fun _ => True) (fun _ => False) rfl rfl ?aO ?aR (fun _ _ h => h) (fun _ h => h.elim) ?aF ?aB ?aS ?aL ?_; (case aR => exact (zC (Kd.C_below HR0.out HB.out))); (case aB => exact (zB HB.out)); (case aF => exact (fun _ _ => trivial)); (case aO => exact (zR HO449.out)); (case aS => exact (below_size (zB HB.out))); (case aL => have := LMc2.out; omega); intro v451 w5 ho hb hg hat; rw [← Ny450.out] at ho; have n0_ := zM (hb); have n1_ := zM (ho); clear HB; clear HO449; have HB := n0_; have HO452 := n1_; clear n0_ n1_; clear ho hb hg hat))
  go_ret
  exact ⟨_, zE, (zR HO452.out), (zB HB.out)⟩
 ·rw [if_neg c2] at H
  exact absurd H (by simp)

end Go.Proofs.Yteahdfibipalkaa.G

namespace Go.Proofs.Yteahdfibipalkaa.G
open Go.RowKit Go.Proofs.YteahdfibipalkaaW.PrintWords Go.Proofs.YteahdfibipalkaaW.PrintLast Go.Proofs.YteahdfibipalkaaW.PrintMore
attribute [local go_sem] max2_int min2_int max_two min_two max_three min_three max_four min_four   -- for this text's walks alone
set_option linter.unusedVariables false
set_option linter.unusedSimpArgs false

theorem encB_bytes (s : ByteArray) : encB s = (bytesOf s).map (Value.int .u8) := by unfold encB bytesOf; rw [List.map_map]; rfl
theorem encB_length (s : ByteArray) : (encB s).length = s.size := by rw [encB_bytes, List.length_map]; exact bytesOf_length s
theorem inner_eq {w : World} {base : Nat} {ok : Nat → Prop} {xs : List Int} {inner : List Value} (hl : inner.length = xs.length * 1) (hr : Reps ((Kd.int .u8).M w base ok) 1 xs inner) : inner = xs.map (Value.int .u8) := by
 apply List.ext_getElem
 ·simp [hl]
 ·intro j h1 h2
  have h3 : j < xs.length := by simpa using h2
  have h4 := hr.2 j _ (List.getElem?_eq_getElem h3)
  have h5 : (inner.drop (j * 1)).take 1 = [Value.int .u8 xs[j]] := h4
  rw [Nat.mul_one, List.drop_eq_getElem_cons h1] at h5
  simp only [List.take_succ_cons, List.take_zero, List.cons.injEq, and_true] at h5
  rw [h5, List.getElem_map]
theorem reps_map {w : World} {base : Nat} {ok : Nat → Prop} (xs : List Int) : Reps ((Kd.int .u8).M w base ok) 1 xs (xs.map (Value.int .u8)) := by
 refine ⟨by simp, fun j p hj => ?_⟩
 obtain ⟨h, e⟩ := List.getElem?_eq_some_iff.1 hj
 show (List.drop (j * 1) _).take 1 = [Value.int .u8 p]
 rw [Nat.mul_one, List.drop_eq_getElem_cons (by simpa using h)]
 simp [e]
theorem splice_take {α : Type} (a b v : List α) (lo n : Nat) (ha : a.length = n) (h : lo + v.length ≤ n) : ((a ++ b).take lo ++ v ++ (a ++ b).drop (lo + v.length)).take n = a.take lo ++ v ++ a.drop (lo + v.length) := by
 rw [show (a ++ b).take lo = a.take lo from List.take_append_of_le_length (by omega), show (a ++ b).drop (lo + v.length) = a.drop (lo + v.length) ++ b from List.drop_append_of_le_length (by omega), ← List.append_assoc]
 exact List.take_left' (by simp; omega)
theorem R_copy {w : World} {base g cap lo : Nat} {ok : Nat → Prop} {xs : List Int} (h : Kd.R (Kd.int .u8) 5 w base ok (.slice (some ⟨g, 0, none⟩) xs.length cap) xs) (s : ByteArray) (hfit : lo + s.size ≤ xs.length) (hp : 0 < s.size) :
  Kd.R (Kd.int .u8) 5 (w.setCells g lo (encB s)) base ok (.slice (some ⟨g, 0, none⟩) xs.length cap) (xs.take lo ++ bytesOf s ++ xs.drop (lo + s.size)) := by
 obtain ⟨h0, inner, ⟨hl, ho⟩, hr⟩ := h
 have hsz : (Kd.int .u8).sz = 1 := rfl
 rw [hsz] at hl ho hr
 obtain rfl := inner_eq hl hr
 have hlen : (xs.take lo ++ bytesOf s ++ xs.drop (lo + s.size)).length = xs.length := by
  have : (bytesOf s).length = s.size := bytesOf_length s
  simp [this]; omega
 refine ⟨h0, (xs.take lo ++ bytesOf s ++ xs.drop (lo + s.size)).map (Value.int .u8), ?_, reps_map _⟩
 rw [hlen, hsz]
 refine ⟨by rw [List.length_map, hlen, Nat.mul_one], ?_⟩
 rcases ho with ⟨h1, h2⟩ | ⟨g', cap', cur, he, hb, hh, hn, hc, hz, ht⟩
 ·omega
 ·injection he with e1 e2 e3
  injection e1 with e1
  injection e1 with e1
  subst e1; subst e3
  right
  obtain ⟨cur', k1, k2, k3⟩ := setCells_row (encB s) lo w cur hh (by rw [encB_length]; omega)
  refine ⟨g, cap, cur', rfl, hb, k1, hn, hc, by rw [k2, hz], ?_⟩
  have e : cur.toList = xs.map (Value.int .u8) ++ cur.toList.drop xs.length := by
   have := List.take_append_drop (xs.length * 1) cur.toList
   rw [ht, Nat.mul_one] at this
   exact this.symm
  rw [k3, e, encB_bytes, Nat.mul_one, splice_take (xs.map (Value.int .u8)) _ _ lo xs.length (by simp) (by rw [List.length_map, bytesOf_length]; exact hfit)]
  rw [List.length_map, bytesOf_length]
  simp
theorem copyAt_inv {l : List Int} {lo : Int} {s : ByteArray} {r : List Int} (h : copyAt.f l lo s = some r) : ∃ m : Nat, lo = (m : Int) ∧ 0 < s.size ∧ m + s.size ≤ l.length ∧ r = l.take m ++ bytesOf s ++ l.drop (m + s.size) := by
 unfold copyAt.f at h
 by_cases c : 0 ≤ lo
 ·rw [if_pos c] at h
  by_cases c1 : 0 < s.size
  ·rw [if_pos c1] at h
   by_cases c2 : lo + (s.size : Int) ≤ (l.length : Int)
   ·rw [if_pos c2] at h
    obtain ⟨m, rfl⟩ := Int.eq_ofNat_of_zero_le c
    refine ⟨m, rfl, c1, by omega, ?_⟩
    rw [Int.toNat_natCast] at h
    exact (Option.some.inj h).symm
   ·rw [if_neg c2] at h; cases h
  ·rw [if_neg c1] at h; cases h
 ·rw [if_neg c] at h; cases h
theorem slice_at {P : Program} {t e : TypeId} (ht : P.underlying t = some (.slice e)) (hz : ∀ w, (Go.sizeOf e).run P w = .ok 1 w) (g n c m : Nat) (W : World) (h1 : m ≤ n) (h2 : m < c) :
  (Instr.slice t (.slice (some ⟨g, 0, none⟩) n c) (some (.int .i64 (m : Int))) none none).run P W = .ok (.slice (some ⟨g, m, none⟩) (n - m) (c - m)) W := by
 have hel : P.elem t = e := by simp [Program.elem, ht]
 have hu : P.underlying t = some (.slice (P.elem t)) := by rw [hel]; exact ht
 rw [run_slice_l W t (some ⟨g, 0, none⟩) n c hu .i64 (m : Int) (Int.natCast_nonneg _) (by omega), hel, hz]
 have ha : (⟨g, 0, none⟩ : Addr).add m = ⟨g, m, none⟩ := by unfold Addr.add; split <;> simp_all
 simp only [Result.andThen, sliced, Int.toNat_natCast, Nat.mul_one]
 rw [if_neg (by omega)]
 simp [ha]
theorem copy_at {P : Program} {w : World} {base g cap lo : Nat} {ok : Nat → Prop} {xs : List Int} (ht : P.underlying 22 = some (.slice 5)) (hz : ∀ w, (Go.sizeOf 5).run P w = .ok 1 w) (h : Kd.R (Kd.int .u8) 5 w base ok (.slice (some ⟨g, 0, none⟩) xs.length cap) xs) (s : ByteArray) (hfit : lo + s.size ≤ xs.length) :
  (Builtin.copy_ #[22, 9] 3 #[.slice (some ⟨g, lo, none⟩) (xs.length - lo) (cap - lo), .string s]).run P w = .ok (goInt s.size) (w.setCells g lo (encB s)) := by
 obtain ⟨h0, inner, ⟨hl, ho⟩, hr⟩ := h
 have hsz : (Kd.int .u8).sz = 1 := rfl
 rw [hsz] at hl ho hr
 rcases ho with ⟨h1, h2⟩ | ⟨g', cap', cur, he, hb, hh, hn, hc, hz', htk⟩
 ·cases h1
 ·injection he with e1 e2 e3
  injection e1 with e1
  injection e1 with e1
  subst e1; subst e3
  exact run_copy_string w 22 9 3 5 g lo _ _ s ht hz (by omega) (fun j hj => by rw [blk_cell hh]; simp; omega) (fun j hj => blk_frozen hh (lo + j))
theorem blk_other {w : World} {g1 g2 : Nat} {c1 c2 : Array Value} {t1 t2 : TypeId} (h1 : w.heap[g1]? = some (.cells c1 t1 (0, 0))) (h2 : w.heap[g2]? = some (.cells c2 t2 (0, 0))) (hne : t1 ≠ t2) : g1 ≠ g2 := by
 intro e
 subst e
 rw [h1] at h2
 injection h2 with h2
 injection h2 with _ h2
 exact hne h2
/-! ### impl_AddPiece: function 23 -/
def impl_AddPiece.T13 : Bool × List (List Nat × List Nat) := (true, [([], []), ([0], [0]), ([], []), ([], []), ([3], [3]), ([2, 4], [2, 4]), ([1, 5, 1], [1, 5]), ([6, 6], [6]), ([7], [7]), ([7], [7]), ([8, 9, 7], [7, 8, 9]), ([10, 7], [7, 10]), ([7], [7]), ([12, 7], [7, 12]), ([7], [7]), ([13, 14, 7], [7, 13, 14]), ([11, 15, 7], [7, 11, 15]), ([7, 16], [7, 16])])
def impl_AddPiece.B13 : List Nat := [0, 1, 0, 0, 8, 28, 63, 127, 255, 255, 1023, 2047, 255, 4351, 255, 28927, 65535, 131071]
theorem impl_AddPiece.tab13 : rtab .any (opsOf Try.f23 13) = impl_AddPiece.T13 := by kernel_rfl
theorem impl_AddPiece.bits13 : waitsOk impl_AddPiece.T13.2 impl_AddPiece.B13 = true := by kernel_rfl
def impl_AddPiece.T18 : Bool × List (List Nat × List Nat) := (true, [([], []), ([0], [0]), ([], []), ([2], [2]), ([], []), ([4], [4]), ([], []), ([6], [6]), ([7], [7]), ([5, 8], [5, 8]), ([3, 9], [3, 9]), ([1, 10, 1], [1, 10]), ([11], [11]), ([], [])])
def impl_AddPiece.B18 : List Nat := [0, 1, 0, 4, 0, 16, 0, 64, 192, 496, 1020, 2047, 4095, 0]
theorem impl_AddPiece.tab18 : rtab .any (opsOf Try.f23 18) = impl_AddPiece.T18 := by kernel_rfl
theorem impl_AddPiece.bits18 : waitsOk impl_AddPiece.T18.2 impl_AddPiece.B18 = true := by kernel_rfl
def impl_AddPiece.T21 : Bool × List (List Nat × List Nat) := (true, [([], []), ([], []), ([1], [1]), ([], []), ([], []), ([4], [4]), ([], []), ([6], [6]), ([3, 5, 7], [3, 5, 7]), ([8], [8]), ([2, 9], [2, 9]), ([10], [10]), ([0, 11], [0, 11]), ([12, 12, 0, 1, 2, 3, 4, 5, 6, 7, 8, 9, 10, 11, 12], [0, 12])])
def impl_AddPiece.B21 : List Nat := [0, 0, 2, 0, 0, 16, 0, 64, 248, 504, 1022, 2046, 4095, 8191]
theorem impl_AddPiece.tab21 : rtab .any (opsOf Try.f23 21) = impl_AddPiece.T21 := by kernel_rfl
theorem impl_AddPiece.bits21 : waitsOk impl_AddPiece.T21.2 impl_AddPiece.B21 = true := by kernel_rfl
set_option maxHeartbeats 8000000 in
set_option maxRecDepth 100000 in
theorem impl_AddPiece.calls (k : Nat) (A0 : Option Addr) (c0 : Nat) (l0 : List (S44)) (a1 : Int) (a2_0 : Int) (a2_1 : ByteArray) (r1 : List (S44)) (r2 : Bool) (w : World) (hr0 : Kd.C k44 w A0 l0.length l0) (hc0 : l0.length ≤ c0) (h : impl_AddPiece.f k l0 a1 a2_0 a2_1 = some (r1, r2)) :
  Calls Try.prog 23 #[.slice A0 l0.length c0, .int .i64 a1, .agg #[.int .i64 a2_0, .string a2_1]] w fun e w' => ∃ v0_ : Value, e = .returned (.tuple #[v0_, .bool r2]) ∧ Kd.R k44 44 w' w.heap.size (fun _ => True) v0_ r1 ∧ Below w.heap.size w w' := by
 have hu44 := Try.underlying44
 have hu26 := Try.underlying26
 have HR0 := zM hr0
 have HC0 := zM hc0
 clear hr0 hc0
 have HB := zM (Below.refl w.heap.size w)
 have H : ((impl_ArePieces.f k l0 a1).bind fun t454 => (if t454 = true then (if a2_1.toList = ([] : List UInt8) then (impl_AddPiece.j0 k l0 a1 true a2_0 a2_1) else (if a2_0 < 0 then (impl_AddPiece.j0 k l0 a1 true a2_0 a2_1) else (impl_AddPiece.j0 k l0 a1 (decide (a2_0 > (wrap64 (a1 - (a2_1.size : Int))))) a2_0 a2_1))) else (impl_AddPiece.j0 k l0 a1 true a2_0 a2_1))) = some (r1, r2) := h
 clear h
 have HC4 := zM H
 clear H
 go_enter Try.func23, Try.ntmps23
 go_upto_region 1 with (first | ((with_reducible refine gate_dst (N := 5) rfl ?_); (try (refine gate_guard (by rfl) ?_; dsimp only)); refine box_event ?hg (N := 5) ?hd (cs := #[.int .i64 a2_0, .string a2_1]) (t := 44) ?hr ?_; (case hd => rfl); (case hg => rfl); (case hr => first | (go_simp; done) | (go_simp; rfl)); intro gb453 hg w5 hbox hb; have n0_ := zM (below_step (zB HB.out) hb); have n1_ := zM (hbox); have n2_ := zM ((by rw [hg]; exact (below_size (zB HB.out)) : w.heap.size ≤ gb453)); have n3_ := zM ((by rw [hg]; exact (below_size (zB HB.out)) : w.heap.size ≤ gb453)); clear HB; have HB := n0_; have BK453 := n1_; have GW453 := n2_; have GE453 := n3_; clear n0_ n1_ n2_ n3_; clear hb hbox hg))
 (try simp only [Act.put, List.setIfInBounds_toArray, List.set_cons_zero, List.set_cons_succ])
 go_cut [39] (fun v39 wc => ∃ (kq : Nat) (x39_3 : Bool), v39 = .bool x39_3 ∧ Aside0 (impl_AddPiece.j0 kq l0 a1 x39_3 a2_0 a2_1 = some (r1, r2)) ∧ Aside0 (kq ≤ k) ∧ Aside0 (wc.heap[gb453]? = some (.cells #[.int .i64 a2_0, .string a2_1] 44 (0, 0))) ∧ Aside0 (Below w.heap.size w wc))
 case first =>
  have H := HC4.out
  clear HC4
  replace H := Option.bind_eq_some_iff.mp H
  obtain ⟨t454, A60, H⟩ := H
  try dsimp only at H
  have A6 := zM A60
  clear A60
  by_cases c7 : t454 = true
  ·subst c7
   rw [if_pos rfl] at H
   by_cases c8 : a2_1.toList = ([] : List UInt8)
   ·rw [if_pos c8] at H
    have c8b0 : (a2_1.toList == ([] : List UInt8)) = true := beq_iff_eq.mpr c8
    have c8b1 : (a2_1.toList != ([] : List UInt8)) = false := bne_eq_false_iff_eq.mpr c8
    clear c8
    (first | rw [c8b0] | (simp only [i64_w, i32_w]; rw [c8b0]) | skip)
    have H' := zM H
    clear H
    go_wp2_with (first | ((with_reducible refine gate_callee (f := 45) rfl ?_); refine zG (some 18) Try.func45 #[.slice A0 l0.length c0, .int .i64 a1] ?_; (with_reducible refine (impl_ArePieces.calls k _ _ l0 a1 true _ ?side1 ?side2 A6.out).mono ?_); (case side1 => exact (zC (Kd.C_below HR0.out HB.out))); (case side2 => exact HC0.out); rintro e w9 ⟨rfl, hb⟩; refine ⟨_, rfl, ?_⟩; have n0_ := zM (blk_below (g := gb453) (o := .cells #[.int .i64 a2_0, .string a2_1] 44 (0, 0)) (zP BK453.out) hb); have n1_ := zM (below_step (zB1 GE453.out HB.out) hb); clear BK453; clear HB; have BK453 := n0_; have HB := n1_; clear n0_ n1_; (try clear hb); (try clear hb2); (try clear hk); (try clear hi); have hcz10_0 : w9.cell? ⟨gb453, 0, none⟩ = some (.int .i64 a2_0) := (blk_cell BK453.out 0).trans rfl; have hcz10_1 : w9.cell? ⟨gb453, 1, none⟩ = some (.string a2_1) := (blk_cell BK453.out 1).trans rfl; have hfz10_0 := blk_frozen BK453.out 0; have hfz10_1 := blk_frozen BK453.out 1))
    go_meet
    case rel => exact ⟨_, (true), zS, H', ⟨by first | omega | exact Nat.le_refl _⟩, ⟨(zP BK453.out)⟩, ⟨(zB1 GE453.out HB.out)⟩⟩
   ·rw [if_neg c8] at H
    have c8b0 : (a2_1.toList == ([] : List UInt8)) = false := beq_eq_false_iff_ne.mpr c8
    have c8b1 : (a2_1.toList != ([] : List UInt8)) = true := bne_iff_ne.mpr c8
    (first | rw [c8b0] | (simp only [i64_w, i32_w]; rw [c8b0]) | skip)
    by_cases c11 : a2_0 < 0
    ·rw [if_pos c11] at H
     have c11b0 : decide (a2_0 < 0) = true := decide_eq_true c11
     clear c11
     have H' := zM H
     clear H
     go_wp2_with (first | ((with_reducible refine gate_callee (f := 45) rfl ?_); refine zG (some 18) Try.func45 #[.slice A0 l0.length c0, .int .i64 a1] ?_; (with_reducible refine (impl_ArePieces.calls k _ _ l0 a1 true _ ?side1 ?side2 A6.out).mono ?_); (case side1 => exact (zC (Kd.C_below HR0.out HB.out))); (case side2 => exact HC0.out); rintro e w12 ⟨rfl, hb⟩; refine ⟨_, rfl, ?_⟩; have n0_ := zM (blk_below (g := gb453) (o := .cells #[.int .i64 a2_0, .string a2_1] 44 (0, 0)) (zP BK453.out) hb); have n1_ := zM (below_step (zB1 GE453.out HB.out) hb); clear BK453; clear HB; have BK453 := n0_; have HB := n1_; clear n0_ n1_; (try clear hb); (try clear hb2); (try clear hk); (try clear hi); have hcz13_0 : w12.cell? ⟨gb453, 0, none⟩ = some (.int .i64 a2_0) := (blk_cell BK453.out 0).trans rfl; have hcz13_1 : w12.cell? ⟨gb453, 1, none⟩ = some (.string a2_1) := (blk_cell BK453.out 1).trans rfl; have hfz13_0 := blk_frozen BK453.out 0; have hfz13_1 := blk_frozen BK453.out 1))
     go_meet
     case rel => exact ⟨_, (true), zS, H', ⟨by first | omega | exact Nat.le_refl _⟩, ⟨(zP BK453.out)⟩, ⟨(zB1 GE453.out HB.out)⟩⟩
    ·rw [if_neg c11] at H
     have c11b0 : decide (a2_0 < 0) = false := decide_eq_false c11
     clear c11
     have H' := zM H
     clear H
     go_wp2_with (first | ((with_reducible refine gate_callee (f := 45) rfl ?_); refine zG (some 18) Try.func45 #[.slice A0 l0.length c0, .int .i64 a1] ?_; (with_reducible refine (impl_ArePieces.calls k _ _ l0 a1 true _ ?side1 ?side2 A6.out).mono ?_); (case side1 => exact (zC (Kd.C_below HR0.out HB.out))); (case side2 => exact HC0.out); rintro e w14 ⟨rfl, hb⟩; refine ⟨_, rfl, ?_⟩; have n0_ := zM (blk_below (g := gb453) (o := .cells #[.int .i64 a2_0, .string a2_1] 44 (0, 0)) (zP BK453.out) hb); have n1_ := zM (below_step (zB1 GE453.out HB.out) hb); clear BK453; clear HB; have BK453 := n0_; have HB := n1_; clear n0_ n1_; (try clear hb); (try clear hb2); (try clear hk); (try clear hi); have hcz15_0 : w14.cell? ⟨gb453, 0, none⟩ = some (.int .i64 a2_0) := (blk_cell BK453.out 0).trans rfl; have hcz15_1 : w14.cell? ⟨gb453, 1, none⟩ = some (.string a2_1) := (blk_cell BK453.out 1).trans rfl; have hfz15_0 := blk_frozen BK453.out 0; have hfz15_1 := blk_frozen BK453.out 1))
     go_meet
     case rel => exact ⟨_, (decide (a2_0 > (wrap64 (a1 - (a2_1.size : Int))))), zS, H', ⟨by first | omega | exact Nat.le_refl _⟩, ⟨(zP BK453.out)⟩, ⟨(zB1 GE453.out HB.out)⟩⟩
  ·replace c7 := Bool.eq_false_iff.mpr c7
   subst c7
   rw [if_neg (show ¬ (false = true) by decide)] at H
   have H' := zM H
   clear H
   go_wp2_with (first | ((with_reducible refine gate_callee (f := 45) rfl ?_); refine zG (some 18) Try.func45 #[.slice A0 l0.length c0, .int .i64 a1] ?_; (with_reducible refine (impl_ArePieces.calls k _ _ l0 a1 false _ ?side1 ?side2 A6.out).mono ?_); (case side1 => exact (zC (Kd.C_below HR0.out HB.out))); (case side2 => exact HC0.out); rintro e w16 ⟨rfl, hb⟩; refine ⟨_, rfl, ?_⟩; have n0_ := zM (blk_below (g := gb453) (o := .cells #[.int .i64 a2_0, .string a2_1] 44 (0, 0)) (zP BK453.out) hb); have n1_ := zM (below_step (zB1 GE453.out HB.out) hb); clear BK453; clear HB; have BK453 := n0_; have HB := n1_; clear n0_ n1_; (try clear hb); (try clear hb2); (try clear hk); (try clear hi)))
   go_meet
   case rel => exact ⟨_, (true), zS, H', ⟨by first | omega | exact Nat.le_refl _⟩, ⟨(zP BK453.out)⟩, ⟨(zB1 GE453.out HB.out)⟩⟩
 case rest =>
  clear HC4
  try clear c1
  try clear c2
  try clear p2
  try clear c4
  try clear p6
  try clear c7
  try clear c8
  try clear c8b0
  try clear c8b1
  try clear c11
  try clear c11b0
  try clear hcz10_0
  try clear hcz10_1
  try clear hcz13_0
  try clear hcz13_1
  try clear hcz15_0
  try clear hcz15_1
  try clear hfz10_0
  try clear hfz10_1
  try clear hfz13_0
  try clear hfz13_1
  try clear hfz15_0
  try clear hfz15_1
  obtain ⟨kq, x39_3, rfl, HA, HJ3, BK453, HB⟩ := hcut
  cases kq with
  | zero => exact absurd HA.out (by simp [impl_AddPiece.j0])
  | succ kj3 =>
   have H := HA.out
   clear HA
   simp only [impl_AddPiece.j0] at H
   by_cases c17 : x39_3 = true
   ·subst c17
    rw [if_pos rfl] at H
    replace H := Option.bind_eq_some_iff.mp H
    obtain ⟨t455, A180, H⟩ := H
    try dsimp only at H
    have A18 := zM A180
    clear A180
    simp only [Option.some.injEq, Prod.mk.injEq] at H
    obtain ⟨rfl, rfl⟩ := H
    go_wp2_with (first | ((with_reducible refine gate_callee (f := 46) rfl ?_); refine zG (some 41) Try.func46 #[.slice A0 l0.length c0] ?_; (with_reducible refine (impl_Piece.calls _ _ l0 t455 _ ?side1 ?side2 A18.out).mono ?_); (case side1 => exact (zC (Kd.C_below HR0.out HB.out))); (case side2 => exact HC0.out); rintro e w19 ⟨v456, rfl, ho0, hb⟩; refine ⟨_, rfl, ?_⟩; have n0_ := zM (Kd.R_lower (Kd.R_newB ho0 (g := gb453) (o := .cells #[.int .i64 a2_0, .string a2_1] 44 (0, 0)) (zP BK453.out)) (below_size (zB1 GE453.out HB.out))); have n1_ := zM (blk_below (g := gb453) (o := .cells #[.int .i64 a2_0, .string a2_1] 44 (0, 0)) (zP BK453.out) hb); have n2_ := zM (below_step (zB1 GE453.out HB.out) hb); clear BK453; clear HB; have HO457 := n0_; have BK453 := n1_; have HB := n2_; clear n0_ n1_ n2_; (try clear hb); (try clear hb2); (try clear hk); (try clear hi); (try clear ho0)))
    go_ret2
    exact ⟨_, zE, (zRm HO457.out (fun _ hk => trivial)), (zB1 GE453.out HB.out)⟩
   ·replace c17 := Bool.eq_false_iff.mpr c17
    subst c17
    rw [if_neg (show ¬ (false = true) by decide)] at H
    by_cases c20 : 0 ≤ a1
    ·rw [if_pos c20] at H
     have c20b0 := eq_true c20
     have c20b1 : decide (0 ≤ a1) = true := decide_eq_true c20
     clear c20
     by_cases c21 : (a1 : Int).toNat ≤ 281474976710656
     ·rw [if_pos c21] at H
      have c21b0 := eq_true c21
      have c21b1 : decide ((a1 : Int).toNat ≤ 281474976710656) = true := decide_eq_true c21
      clear c21
      obtain ⟨y458, hy458⟩ : ∃ y_ : List Int, y_ = (List.replicate (a1 : Int).toNat 0) := ⟨_, rfl⟩
      replace H : (impl_AddPiece.l0 kj3 l0 y458 l0 (l0.length : Int) 0 a2_0 a2_1) = some (r1, r2) := zH hy458 H
      have Ny458 := zM hy458
      clear hy458
      have H' := zM H
      clear H
      go_wp2_with (first | ((with_reducible refine gate_dst (N := 43) rfl ?_); (try (refine gate_guard (by rfl) ?_; dsimp only)); refine Kd.R_make (Kd.int .u8) _ 5 rfl (N := 43) rfl 22 _ _ rfl a1 rfl rfl Try.underlying22 (.int .u8 0) 1 info5 rfl (by decide) (by omega) 0 (ok := fun _ => True) (okp := fun _ => True) rfl (fun _ hk => hk) trivial (zD) (Nat.le_trans (Nat.mul_le_mul_right _ (zD : a1.toNat ≤ 281474976710656)) (by omega)) (Below.refl _ _) (Nat.le_refl _) ?_; intro v459 w22 ho23 hb hg_ hnew_; clear hg_ hnew_; (first | rw [← Ny458.out] at ho23 | (simp only [Int.reduceToNat] at ho23; rw [← Ny458.out] at ho23)); have n0_ := zM (Kd.R_lower ho23 (below_size (zB1 GE453.out HB.out))); have n1_ := zM (blk_below (g := gb453) (o := .cells #[.int .i64 a2_0, .string a2_1] 44 (0, 0)) (zP BK453.out) hb); have n2_ := zM (below_step (zB1 GE453.out HB.out) hb); clear BK453; clear HB; have HO460 := n0_; have BK453 := n1_; have HB := n2_; clear n0_ n1_ n2_; clear hb ho23))
      go_loopg [46] kj3 (fun kq v46 w' => ∃ (x8_2 : List Int) (x46_2 : Int), v46 = .int .i64 x46_2 ∧ Aside0 (impl_AddPiece.l0 kq l0 x8_2 l0 (l0.length : Int) x46_2 a2_0 a2_1 = some (r1, r2)) ∧ Aside0 (kq ≤ kj3) ∧ Aside0 (Kd.R (Kd.int .u8) 5 w' w.heap.size (fun _ => True) v459 x8_2) ∧ Aside0 (w'.heap[gb453]? = some (.cells #[.int .i64 a2_0, .string a2_1] 44 (0, 0))) ∧ Aside0 (Below w.heap.size w w'))
      case atStart => exact ⟨(y458), (0), zS, H', ⟨Nat.le_refl _⟩, ⟨(zR HO460.out)⟩, ⟨(zP BK453.out)⟩, ⟨(zB1 GE453.out HB.out)⟩⟩
      case round =>
       clear H'
       try clear c1
       try clear c2
       try clear p2
       try clear c4
       try clear p6
       try clear c7
       try clear c8
       try clear c8b0
       try clear c8b1
       try clear c11
       try clear c11b0
       try clear c17
       try clear c20
       try clear c20b0
       try clear c20b1
       try clear c21
       try clear c21b0
       try clear c21b1
       try clear c23
       try clear hcz10_0
       try clear hcz10_1
       try clear hcz13_0
       try clear hcz13_1
       try clear hcz15_0
       try clear hcz15_1
       try clear hfz10_0
       try clear hfz10_1
       try clear hfz13_0
       try clear hfz13_1
       try clear hfz15_0
       try clear hfz15_1
       try clear p2
       try clear p6
       obtain ⟨x8_2, x46_2, rfl, HA, HK2, HO_8, BK453, HB⟩ := hrel
       cases gk with
       | zero => exact absurd HA.out (by simp [impl_AddPiece.l0])
       | succ k2 =>
        have H := HA.out
        clear HA
        simp only [impl_AddPiece.l0] at H
        by_cases c24 : x46_2 < (l0.length : Int)
        ·rw [if_pos c24] at H
         have c24b0 : decide (x46_2 < (l0.length : Int)) = true := decide_eq_true c24
         clear c24
         by_cases c25 : 0 ≤ x46_2
         ·rw [if_pos c25] at H
          have c25b0 : decide (0 ≤ x46_2) = true := decide_eq_true c25
          clear c25
          by_cases c26 : x46_2 < (l0.length : Int)
          ·rw [if_pos c26] at H
           have c26b0 : decide (x46_2 < (l0.length : Int)) = true := decide_eq_true c26
           clear c26
           replace H := Option.bind_eq_some_iff.mp H
           obtain ⟨t463, A270, H⟩ := H
           try dsimp only at H
           have A27 := zM A270
           clear A270
           have H' := zM H
           clear H
           have p461 : 0 ≤ (x46_2 : Int) := zD
           have q461 : x46_2 < (l0.length : Int) := zD
           obtain ⟨ad461, e461, hx461_0, hx461_1⟩ := at_T44 HR0.out x46_2 p461 q461
           cases e461
           replace hx461_0 := (HB.out.cell (World.block_lt_of_cell? w _ hx461_0)).trans hx461_0
           replace hx461_1 := (HB.out.cell (World.block_lt_of_cell? w _ hx461_1)).trans hx461_1
           replace p461 := eq_true p461
           replace q461 := eq_true q461
           go_wp2_with (first | ((with_reducible refine gate_dst (N := 10) rfl ?_); (try (refine gate_guard (by rfl) ?_; dsimp only)); refine box_event ?hg (N := 10) ?hd (cs := #[.int .i64 0, .string (⟨#[]⟩ : ByteArray)]) (t := 44) ?hr ?_; (case hd => rfl); (case hg => rfl); (case hr => first | (go_simp; done) | (go_simp; rfl)); intro gb462 hg w28 hbox hb; have n0_ := zM (Kd.R_below (zR HO_8.out) hb); have n1_ := zM (blk_below (g := gb453) (o := .cells #[.int .i64 a2_0, .string a2_1] 44 (0, 0)) (zP BK453.out) hb); have n2_ := zM (below_step (zB1 GE453.out HB.out) hb); have n3_ := zM (hbox); have n4_ := zM ((by rw [hg]; exact (below_size (zB1 GE453.out HB.out)) : w.heap.size ≤ gb462)); have n5_ := zM ((by rw [hg]; exact (below_size (zB1 GE453.out HB.out)) : w.heap.size ≤ gb462)); have n6_ := zM ((by rw [hg]; exact Nat.ne_of_lt (blk_lt (g := gb453) (o := .cells #[.int .i64 a2_0, .string a2_1] 44 (0, 0)) (zP BK453.out)) : gb453 ≠ gb462)); have n7_ := zM ((by rw [hg]; exact Nat.ne_of_gt (blk_lt (g := gb453) (o := .cells #[.int .i64 a2_0, .string a2_1] 44 (0, 0)) (zP BK453.out)) : gb462 ≠ gb453)); clear HO_8; clear BK453; clear HB; have HO_8 := n0_; have BK453 := n1_; have HB := n2_; have BK462 := n3_; have GW462 := n4_; have GE462 := n5_; have NB453_462 := n6_; have NB462_453 := n7_; clear n0_ n1_ n2_ n3_ n4_ n5_ n6_ n7_; clear hb hbox hg; have hnb29 := NB462_453.out; have hnc29 := NB453_462.out; have hcz30_0 : w28.cell? ⟨gb462, 0, none⟩ = some (.int .i64 0) := (blk_cell BK462.out 0).trans rfl; have hcz30_1 : w28.cell? ⟨gb462, 1, none⟩ = some (.string (⟨#[]⟩ : ByteArray)) := (blk_cell BK462.out 1).trans rfl; have hfz30_0 := blk_frozen BK462.out 0; have hfz30_1 := blk_frozen BK462.out 1) | ((with_reducible refine gate_store (t := 44) (p := 10) rfl ?_); refine store_event (t := 44) (p := 10) (v := ?vo_w31) (w1 := ((w28.setCell ⟨gb462, 0, none⟩ (.int .i64 ((rd_T44 l0 x46_2).f0))).setCell ⟨gb462, 1, none⟩ (.string ((rd_T44 l0 x46_2).f1)))) ?hg ?ho ?hn ?hr ?_; (case ho => rfl); (case hg => rfl); (case hn => rfl); (case hr => first | (go_simp; done) | (go_simp; rfl)); intro w31 hw; have n0_ : Aside0 (Kd.R (Kd.int .u8) 5 w31 w.heap.size (fun _ => True) v459 x8_2) := ⟨(by rw [hw]; exact (by (with_reducible repeat (first | apply Kd.R_alloc | apply Kd.R_drewN | apply Kd.R_drew)); exact Kd.R_mono (Kd.R_far (p := ⟨gb462, 1, none⟩) (Kd.R_far (p := ⟨gb462, 0, none⟩) (Kd.R_types HO_8.out BK462.out (by decide)) (fun _ hk => hk.2) (.int .i64 ((rd_T44 l0 x46_2).f0))) (fun _ hk => hk.2) (.string ((rd_T44 l0 x46_2).f1))) (fun _ hk => trivial)))⟩; have n1_ : Aside0 (w31.heap[gb453]? = some (.cells #[.int .i64 a2_0, .string a2_1] 44 (0, 0))) := ⟨(by rw [hw]; exact (by (with_reducible repeat (first | refine blk_drewN ?_ _ | refine blk_drew ?_ | refine blk_alloc ?_ _)); refine blk_far ?_ NB453_462.out _; (with_reducible repeat (first | refine blk_drewN ?_ _ | refine blk_drew ?_ | refine blk_alloc ?_ _)); refine blk_far ?_ NB453_462.out _; (with_reducible repeat (first | refine blk_drewN ?_ _ | refine blk_drew ?_ | refine blk_alloc ?_ _)); exact BK453.out))⟩; have n2_ : Aside0 (w31.heap[gb462]? = some (.cells #[.int .i64 ((rd_T44 l0 x46_2).f0), .string ((rd_T44 l0 x46_2).f1)] 44 (0, 0))) := ⟨(by rw [hw]; exact (by (with_reducible repeat (first | refine blk_drewN ?_ _ | refine blk_drew ?_ | refine blk_alloc ?_ _)); refine blk_put (cs := #[.int .i64 ((rd_T44 l0 x46_2).f0), .string (⟨#[]⟩ : ByteArray)]) ?_ 1 _ rfl; (with_reducible repeat (first | refine blk_drewN ?_ _ | refine blk_drew ?_ | refine blk_alloc ?_ _)); refine blk_put (cs := #[.int .i64 0, .string (⟨#[]⟩ : ByteArray)]) ?_ 0 _ rfl; (with_reducible repeat (first | refine blk_drewN ?_ _ | refine blk_drew ?_ | refine blk_alloc ?_ _)); exact BK462.out))⟩; have n3_ : Aside0 (Below w.heap.size w w31) := ⟨(by rw [hw]; exact (zB2 GE453.out GE462.out HB.out))⟩; clear hw; clear HO_8; clear BK453; clear BK462; clear HB; have HO_8 := n0_; have BK453 := n1_; have BK462 := n2_; have HB := n3_; clear n0_ n1_ n2_ n3_; have hcz32_0 : w31.cell? ⟨gb462, 0, none⟩ = some (.int .i64 ((rd_T44 l0 x46_2).f0)) := (blk_cell BK462.out 0).trans rfl; have hcz32_1 : w31.cell? ⟨gb462, 1, none⟩ = some (.string ((rd_T44 l0 x46_2).f1)) := (blk_cell BK462.out 1).trans rfl; have hfz32_0 := blk_frozen BK462.out 0; have hfz32_1 := blk_frozen BK462.out 1; obtain ⟨Ao33, co33, eo33⟩ := Kd.R_slice HO_8.out; subst eo33))
           have n0_ := zM (Kd.R_drew HO_8.out)
           have n1_ := zM (blk_drew BK453.out)
           have n2_ := zM (blk_drew BK462.out)
           have n3_ := zM (below_drew1 HB.out)
           clear HO_8
           clear BK453
           clear BK462
           clear HB
           have HO_8 := n0_
           have BK453 := n1_
           have BK462 := n2_
           have HB := n3_
           clear n0_ n1_ n2_ n3_
           obtain ⟨mZ, hmZ, hpZ, hfZ, htZ⟩ := copyAt_inv A27.out
           have HMZ := zM hmZ
           have HPZ := zM hpZ
           have HFZ := zM hfZ
           have HTZ := zM htZ
           obtain ⟨goZ, coZ, eoZ, gbZ, glZ, clZ, HGZ⟩ := Kd.R_form HO_8.out (by omega)
           injection eoZ with ea_ en_ ec_; subst Ao33; subst co33; clear en_
           have hcZ := (Kd.R_reads' HO_8.out).2.1
           have hslZ := fun W => slice_at (P := Try.prog) (t := 22) (e := 5) Try.underlying22 Try.sizeOf5 goZ x8_2.length coZ mZ W (by omega) (by omega)
           rw [← hmZ] at hslZ
           have GBZ := zM gbZ
           have HGZ := zM HGZ
           clear hmZ hpZ hfZ htZ gbZ glZ hcZ
           refine start_ (n := 7) (S := fun w' => w'.cell? ⟨gb462, 0, none⟩ = some (.int .i64 ((rd_T44 l0 x46_2).f0)) ∧ w'.cell? ⟨gb462, 1, none⟩ = some (.string ((rd_T44 l0 x46_2).f1))) (ds := [6]) (ba 7 0).toArray (by kernel_rfl) rfl rfl ⟨(blk_cell BK462.out 0).trans rfl, (blk_cell BK462.out 1).trans rfl⟩ (fun hHeld => ?_)
           generalize w31.drew = wZ at HO_8 BK453 BK462 HB HGZ hHeld ⊢
           refine pure_ (i := 0) (N := some 50) (v := ?_) (a' := ?_) (ba 7 1).toArray rfl rfl (by kernel_rfl) (fun _ _ _ h => h) (Or.inl ⟨by rfl, ?_⟩) ?_ ?_
           rotate_left
           ·intro w'
            go_simp
            with_reducible rfl
           rotate_left
           ·simp only [Act.put, List.setIfInBounds_toArray, List.set_cons_zero, List.set_cons_succ, i64_w, i32_w]
            rfl
           refine pure_ (i := 1) (N := some 51) (v := ?_) (a' := ?_) (ba 7 3).toArray rfl rfl (by kernel_rfl) (fun _ _ _ h => h) (Or.inl ⟨by rfl, ?_⟩) ?_ ?_
           rotate_left
           ·intro w'
            go_simp
            with_reducible rfl
           rotate_left
           ·simp only [Act.put, List.setIfInBounds_toArray, List.set_cons_zero, List.set_cons_succ, i64_w, i32_w]
            rfl
           refine pure_ (i := 4) (N := some 54) (v := ?_) (a' := ?_) (ba 7 19).toArray rfl rfl (by kernel_rfl) (fun _ _ _ h => h) (Or.inl ⟨by rfl, ?_⟩) ?_ ?_
           rotate_left
           ·intro w'
            go_simp
            with_reducible rfl
           rotate_left
           ·simp only [Act.put, List.setIfInBounds_toArray, List.set_cons_zero, List.set_cons_succ, i64_w, i32_w]
            rfl
           refine take_ (i := 2) (N := some 52) (v := ?_) (a' := ?_) (ba 7 23).toArray rfl rfl (by kernel_rfl) (fun _ _ _ h => h) (Or.inl ⟨by rfl, ?_⟩) hHeld ?_ ?_
           rotate_left
           ·rintro w' ⟨s0, s1⟩
            go_simp
            with_reducible rfl
           rotate_left
           ·simp only [Act.put, List.setIfInBounds_toArray, List.set_cons_zero, List.set_cons_succ, i64_w, i32_w]
            rfl
           refine take_ (i := 5) (N := some 55) (v := ?_) (a' := ?_) (ba 7 55).toArray rfl rfl (by kernel_rfl) (fun _ _ _ h => h) (Or.inl ⟨by rfl, ?_⟩) hHeld ?_ ?_
           rotate_left
           ·rintro w' ⟨s0, s1⟩
            go_simp
            with_reducible rfl
           rotate_left
           ·simp only [Act.put, List.setIfInBounds_toArray, List.set_cons_zero, List.set_cons_succ, i64_w, i32_w]
            rfl
           refine pure_ (i := 3) (N := some 53) (v := ?_) (a' := ?_) (ba 7 63).toArray rfl rfl (by kernel_rfl) (fun _ _ _ h => h) (Or.inl ⟨by rfl, ?_⟩) ?_ ?_
           rotate_left
           ·intro w'
            go_simp
            with_reducible rfl
           rotate_left
           ·simp only [Act.put, List.setIfInBounds_toArray, List.set_cons_zero, List.set_cons_succ, i64_w, i32_w]
            rfl
           refine last_ (i := 6) (N := some 56) (ba 7 127).toArray rfl rfl (by kernel_rfl) (by decide) (fun K hK => ?_)
           have hcpZ := copy_at (P := Try.prog) Try.underlying22 Try.sizeOf5 HO_8.out ((rd_T44 l0 x46_2).f1) HFZ.out
           refine value_ (w1 := ?_) (v := ?_) (by rfl) rfl ?_ ?_
           rotate_left 2
           ·go_simp
            constructor
            ·rfl
            ·rfl
           refine hK.out _ _ ?_
           clear hK K
           refine norm_ (a' := ?_) ?_ ?_
           rotate_left
           ·show Act.put _ (some 56) _ = _
            simp only [Act.put, List.setIfInBounds_toArray, List.set_cons_zero, List.set_cons_succ, i64_w, i32_w]
            rfl
           refine done_ (by kernel_rfl) ?_
           have n0_ : Aside0 (Kd.R (Kd.int .u8) 5 (wZ.setCells goZ mZ (encB ((rd_T44 l0 x46_2).f1))) w.heap.size (fun _ => True) (.slice (some ⟨goZ, 0, none⟩) x8_2.length coZ) t463) := ⟨by rw [HTZ.out]; exact R_copy HO_8.out ((rd_T44 l0 x46_2).f1) HFZ.out HPZ.out⟩
           have n1_ : Aside0 ((wZ.setCells goZ mZ (encB ((rd_T44 l0 x46_2).f1))).heap[gb453]? = some (.cells #[.int .i64 a2_0, .string a2_1] 44 (0, 0))) := ⟨(setCells_far _ _ _ (blk_other BK453.out HGZ.out (by decide))).trans BK453.out⟩
           have n2_ : Aside0 (Below w.heap.size w (wZ.setCells goZ mZ (encB ((rd_T44 l0 x46_2).f1)))) := ⟨below_setCells GBZ.out _ _ _ HB.out⟩
           clear HO_8
           clear BK453
           clear BK462
           clear HB
           clear hcpZ
           clear HGZ
           generalize wZ.setCells goZ mZ (encB ((rd_T44 l0 x46_2).f1)) = wY at n0_ n1_ n2_ ⊢
           have HO_8 := n0_
           have BK453 := n1_
           have HB := n2_
           clear n0_ n1_ n2_
           go_wp2
           go_roundg k2
           case measure => have := HJ3.out; have := HK2.out; omega
           case rel => exact ⟨(t463), (wrap64 (x46_2 + 1)), zS, H', ⟨by have := HJ3.out; have := HK2.out; omega⟩, ⟨(zR HO_8.out)⟩, ⟨(zP BK453.out)⟩, ⟨(zB2 GE453.out GE462.out HB.out)⟩⟩
          ·rw [if_neg c26] at H
           exact absurd H (by simp)
         ·rw [if_neg c25] at H
          exact absurd H (by simp)
        ·rw [if_neg c24] at H
         have c24b0 : decide (x46_2 < (l0.length : Int)) = false := decide_eq_false c24
         clear c24
         have H' := zM H
         clear H
         have hcz35_0 : wr.cell? ⟨gb453, 0, none⟩ = some (.int .i64 a2_0) := (blk_cell BK453.out 0).trans rfl
         have hcz35_1 : wr.cell? ⟨gb453, 1, none⟩ = some (.string a2_1) := (blk_cell BK453.out 1).trans rfl
         have hfz35_0 := blk_frozen BK453.out 0
         have hfz35_1 := blk_frozen BK453.out 1
         go_wp2
         go_loopg [61] k2 (fun kq v61 w' => ∃ (x8_3 : List Int) (x61_3 : Int), v61 = .int .i64 x61_3 ∧ Aside0 (impl_AddPiece.l1 kq l0 x8_3 (a2_1.size : Int) x61_3 a2_0 a2_1 = some (r1, r2)) ∧ Aside0 (kq ≤ k2) ∧ Aside0 (Kd.R (Kd.int .u8) 5 w' w.heap.size (fun _ => True) v459 x8_3) ∧ Aside0 (w'.heap[gb453]? = some (.cells #[.int .i64 a2_0, .string a2_1] 44 (0, 0))) ∧ Aside0 (Below w.heap.size w w'))
         case atStart => exact ⟨(x8_2), (0), zS, H', ⟨Nat.le_refl _⟩, ⟨(zR HO_8.out)⟩, ⟨(zP BK453.out)⟩, ⟨(zB1 GE453.out HB.out)⟩⟩
         case round =>
          clear H'
          try clear c1
          try clear c2
          try clear p2
          try clear c4
          try clear p4
          try clear q4
          try clear hx4
          try clear p6
          try clear c7
          try clear c8
          try clear c8b0
          try clear c8b1
          try clear c9
          try clear c11
          try clear c11b0
          try clear c17
          try clear c20
          try clear c20b0
          try clear c20b1
          try clear c21
          try clear c21b0
          try clear c21b1
          try clear c23
          try clear c24
          try clear c24b0
          try clear c25
          try clear c25b0
          try clear c26
          try clear c26b0
          try clear c29
          try clear hcz10_0
          try clear hcz10_1
          try clear hcz13_0
          try clear hcz13_1
          try clear hcz15_0
          try clear hcz15_1
          try clear hcz30_0
          try clear hcz30_1
          try clear hcz32_0
          try clear hcz32_1
          try clear hcz35_0
          try clear hcz35_1
          try clear hfz10_0
          try clear hfz10_1
          try clear hfz13_0
          try clear hfz13_1
          try clear hfz15_0
          try clear hfz15_1
          try clear hfz30_0
          try clear hfz30_1
          try clear hfz32_0
          try clear hfz32_1
          try clear hfz35_0
          try clear hfz35_1
          try clear hx461_0
          try clear hx461_1
          try clear p2
          try clear p461
          try clear p6
          try clear q461
          obtain ⟨x8_3, x61_3, rfl, HA, HK3, HO_8, BK453, HB⟩ := hrel
          cases gk with
          | zero => exact absurd HA.out (by simp [impl_AddPiece.l1])
          | succ k3 =>
           have H := HA.out
           clear HA
           simp only [impl_AddPiece.l1] at H
           by_cases c36 : x61_3 < (a2_1.size : Int)
           ·rw [if_pos c36] at H
            have c36b0 : decide (x61_3 < (a2_1.size : Int)) = true := decide_eq_true c36
            clear c36
            replace H := Option.bind_eq_some_iff.mp H
            obtain ⟨t464, A370, H⟩ := H
            try dsimp only at H
            have A37 := zM A370
            clear A370
            replace H := Option.bind_eq_some_iff.mp H
            obtain ⟨t467, A380, H⟩ := H
            try dsimp only at H
            have A38 := zM A380
            clear A380
            by_cases c39 : t467 = true
            ·subst c39
             rw [if_pos rfl] at H
             obtain ⟨ji40, hji40⟩ : ∃ j_ : Int, (wrap64 (a2_0 + x61_3)) = j_ := ⟨_, rfl⟩
             replace H : (if 0 ≤ (ji40) then (if (ji40) < (x8_3.length : Int) then (if 0 ≤ x61_3 then (if x61_3 < (a2_1.size : Int) then (if (rd x8_3 (ji40)) = (bt a2_1 x61_3) then (impl_AddPiece.l1 k3 l0 (x8_3.set ((ji40) : Int).toNat (bt a2_1 x61_3)) (a2_1.size : Int) (wrap64 (x61_3 + 1)) a2_0 a2_1) else ((impl_Piece.f l0).bind fun t470 => (some (t470, false)))) else (none)) else (none)) else (none)) else (none)) = some (r1, r2) := by first | (rw [hji40] at H; exact H) | (simp only [hji40] at H ⊢; exact H)
             (try rw [hji40] at A37)
             (try rw [hji40] at A38)
             have hji40w : (IntKind.i64.wrap (a2_0 + x61_3)) = ji40 := (i64_w _).trans hji40
             by_cases c41 : 0 ≤ (ji40)
             ·rw [if_pos c41] at H
              have c41b0 : decide (0 ≤ (ji40)) = true := decide_eq_true c41
              clear c41
              by_cases c42 : (ji40) < (x8_3.length : Int)
              ·rw [if_pos c42] at H
               have c42b0 : decide ((ji40) < (x8_3.length : Int)) = true := decide_eq_true c42
               clear c42
               by_cases c43 : 0 ≤ x61_3
               ·rw [if_pos c43] at H
                have c43b0 : decide (0 ≤ x61_3) = true := decide_eq_true c43
                clear c43
                by_cases c44 : x61_3 < (a2_1.size : Int)
                ·rw [if_pos c44] at H
                 have c44b0 : decide (x61_3 < (a2_1.size : Int)) = true := decide_eq_true c44
                 clear c44
                 by_cases c46 : (rd x8_3 (ji40)) = (bt a2_1 x61_3)
                 ·rw [if_pos c46] at H
                  have c46b0 : ((rd x8_3 (ji40)) == (bt a2_1 x61_3)) = true := beq_iff_eq.mpr c46
                  have c46b1 : ((rd x8_3 (ji40)) != (bt a2_1 x61_3)) = false := bne_eq_false_iff_eq.mpr c46
                  clear c46
                  obtain ⟨y469, hy469⟩ : ∃ y_ : List Int, y_ = (x8_3.set ((ji40) : Int).toNat (bt a2_1 x61_3)) := ⟨_, rfl⟩
                  replace H : (impl_AddPiece.l1 k3 l0 y469 (a2_1.size : Int) (wrap64 (x61_3 + 1)) a2_0 a2_1) = some (r1, r2) := zH hy469 H
                  have Ny469 := zM hy469
                  clear hy469
                  have H' := zM H
                  clear H
                  have hcz49_0 : wr.cell? ⟨gb453, 0, none⟩ = some (.int .i64 a2_0) := (blk_cell BK453.out 0).trans rfl
                  have hcz49_1 : wr.cell? ⟨gb453, 1, none⟩ = some (.string a2_1) := (blk_cell BK453.out 1).trans rfl
                  have hfz49_0 := blk_frozen BK453.out 0
                  have hfz49_1 := blk_frozen BK453.out 1
                  try go_wp2
                  have n0_ := zM (Kd.R_drew HO_8.out)
                  have n1_ := zM (blk_drew BK453.out)
                  have n2_ := zM (below_drew1 HB.out)
                  clear HO_8
                  clear BK453
                  clear HB
                  have HO_8 := n0_
                  have BK453 := n1_
                  have HB := n2_
                  clear n0_ n1_ n2_
                  obtain ⟨Aoz1, coz1, eoz1⟩ := Kd.R_slice HO_8.out
                  subst eoz1
                  have p468 : 0 ≤ ((ji40) : Int) := zD
                  have q468 : (ji40) < (x8_3.length : Int) := zD
                  obtain ⟨ad468, e468, hx468_0⟩ := Kd.at_int (Kd.R_reads' HO_8.out).2.2 (ji40) p468 q468
                  cases e468
                  replace p468 := eq_true p468
                  replace q468 := eq_true q468
                  refine start_ (n := 18) (S := fun w' => w'.cell? ⟨gb453, 0, none⟩ = some (.int .i64 a2_0) ∧ w'.cell? ⟨gb453, 1, none⟩ = some (.string a2_1) ∧ w'.cell? (ad468.add ((ji40)).toNat) = some (.int .u8 (rd x8_3 (ji40)))) (ds := []) (ba 18 0).toArray (by kernel_rfl) rfl rfl ⟨(blk_cell BK453.out 0).trans rfl, (blk_cell BK453.out 1).trans rfl, hx468_0⟩ (fun hHeld => ?_); refine with_tabW impl_AddPiece.tab13 impl_AddPiece.bits13 (fun HT_ HW_ => ?_)
                  generalize wr.drew = w50 at HO_8 BK453 HB hx468_0 hHeld ⊢
                  refine zq 0 (some 68) (ba 18 1).toArray HT_ ?_
                  refine zq 2 (some 70) (ba 18 5).toArray HT_ ?_
                  refine zq 3 (some 71) (ba 18 13).toArray HT_ ?_
                  refine zq 4 (some 72) (ba 18 29).toArray HT_ ?_
                  refine zq 5 (some 73) (ba 18 61).toArray HT_ ?_
                  refine one_ (i := 1) (N := some 69) (ba 18 63).toArray rfl rfl (one_of HT_.out (by kernel_rfl)) (by decide) (fun K hK => ?_)
                  refine goes_ Try.func30 (by kernel_rfl) rfl #[.slice A0 l0.length c0] (by rfl) rfl rfl (by (try simp only [List.map_toArray, List.map_cons, List.map_nil]); first | done | rfl | (simp only [List.length_drop, List.length_take]; rfl)) ?_
                  with_reducible refine (impl_SpansOf.calls k3 _ _ l0 t464 _ ?side1 ?side2 A37.out).mono ?_
                  (case side1 => exact (zC (Kd.C_below HR0.out HB.out)))
                  (case side2 => exact HC0.out)
                  rintro e w51 ⟨v465, rfl, ho0, hb⟩
                  have HS2_ := (hb.cell (World.block_lt_of_cell? _ _ (hHeld.2.2))).trans (hHeld.2.2)
                  refine ⟨_, rfl, ?_⟩
                  have n0_ := zM (Kd.R_below (zR HO_8.out) hb)
                  have n1_ := zM (Kd.R_lower ho0 (below_size (zB1 GE453.out HB.out)))
                  have n2_ := zM (blk_below (g := gb453) (o := .cells #[.int .i64 a2_0, .string a2_1] 44 (0, 0)) (zP BK453.out) hb)
                  have n3_ := zM (below_step (zB1 GE453.out HB.out) hb)
                  clear HO_8
                  clear BK453
                  clear HB
                  have HO_8 := n0_
                  have HO466 := n1_
                  have BK453 := n2_
                  have HB := n3_
                  clear n0_ n1_ n2_ n3_
                  (try clear hb)
                  (try clear hb2)
                  (try clear hk)
                  (try clear hi)
                  (try clear ho0)
                  obtain ⟨Ao52, co52, eo52⟩ := Kd.R_slice HO466.out
                  (first | subst eo52 | (injection eo52 with f1_ f2_ f3_; have f4_ := f1_.symm; have f5_ := f3_.symm; clear f1_ f2_ f3_; subst f4_; subst f5_))
                  refine hK.out _ _ ⟨(blk_cell BK453.out 0).trans rfl, (blk_cell BK453.out 1).trans rfl, HS2_⟩ (fun hHeld => ?_)
                  clear hK K
                  refine norm_ (a' := ?_) ?_ ?_
                  rotate_left
                  ·show Act.put _ (some 69) _ = _
                   simp only [Act.put, List.setIfInBounds_toArray, List.set_cons_zero, List.set_cons_succ, i64_w, i32_w]
                   rfl
                  refine one_ (i := 6) (N := some 74) (ba 18 127).toArray rfl rfl (one_of HT_.out (by kernel_rfl)) (by decide) (fun K hK => ?_)
                  refine goes_ Try.func12 (by kernel_rfl) rfl #[.slice Ao52 t464.length co52, .agg #[.int .i64 ji40, .int .i64 (wrap64 ((ji40) + 1))]] (by rfl) rfl rfl (by (try simp only [List.map_toArray, List.map_cons, List.map_nil]); first | done | (simp only [hji40]; rfl) | rfl | (simp only [List.length_drop, List.length_take]; rfl)) ?_
                  with_reducible refine (impl_CoversSpan.calls _ _ t464 ji40 (wrap64 ((ji40) + 1)) true _ ?side1 ?side2 A38.out).mono ?_
                  (case side1 => exact (zC ((Kd.R_reads' HO466.out).2.2)))
                  (case side2 => exact (Kd.R_reads' HO466.out).2.1)
                  rintro e w53 ⟨rfl, hb⟩
                  have HS2_ := (hb.cell (World.block_lt_of_cell? _ _ (hHeld.2.2))).trans (hHeld.2.2)
                  refine ⟨_, rfl, ?_⟩
                  have n0_ := zM (Kd.R_below (zR HO_8.out) hb)
                  have n1_ := zM (Kd.R_below (zR HO466.out) hb)
                  have n2_ := zM (blk_below (g := gb453) (o := .cells #[.int .i64 a2_0, .string a2_1] 44 (0, 0)) (zP BK453.out) hb)
                  have n3_ := zM (below_step (zB1 GE453.out HB.out) hb)
                  clear HO_8
                  clear HO466
                  clear BK453
                  clear HB
                  have HO_8 := n0_
                  have HO466 := n1_
                  have BK453 := n2_
                  have HB := n3_
                  clear n0_ n1_ n2_ n3_
                  (try clear hb)
                  (try clear hb2)
                  (try clear hk)
                  (try clear hi)
                  obtain ⟨Ao54, co54, eo54⟩ := Kd.R_slice HO_8.out
                  (first | subst eo54 | (injection eo54 with f1_ f2_ f3_; have f4_ := f1_.symm; have f5_ := f3_.symm; clear f1_ f2_ f3_; subst f4_; subst f5_))
                  have p45 : 0 ≤ (x61_3 : Int) := zD
                  have q45 : x61_3 < (a2_1.size : Int) := zD
                  have hx45 := bt_at a2_1 x61_3
                  replace p45 := eq_true p45
                  replace q45 := eq_true q45
                  refine hK.out _ _ ⟨(blk_cell BK453.out 0).trans rfl, (blk_cell BK453.out 1).trans rfl, HS2_⟩ (fun hHeld => ?_)
                  clear hK K
                  refine norm_ (a' := ?_) ?_ ?_
                  rotate_left
                  ·show Act.put _ (some 74) _ = _
                   simp only [Act.put, List.setIfInBounds_toArray, List.set_cons_zero, List.set_cons_succ, i64_w, i32_w]
                   rfl
                  refine zq 7 (some 75) (ba 18 255).toArray HT_ ?_
                  refine zq 8 (some 76) (ba 18 511).toArray HT_ ?_
                  refine zq 9 (some 77) (ba 18 1023).toArray HT_ ?_
                  refine zq 10 (some 78) (ba 18 2047).toArray HT_ ?_
                  refine zq 12 (some 80) (ba 18 6143).toArray HT_ ?_
                  refine zq 14 (some 82) (ba 18 22527).toArray HT_ ?_
                  refine zt3 11 (some 79) (ba 18 24575).toArray HT_ HW_ hHeld ?_
                  refine zt3 13 (some 81) (ba 18 32767).toArray HT_ HW_ hHeld ?_
                  refine zt3 15 (some 83) (ba 18 65535).toArray HT_ HW_ hHeld ?_
                  refine zq 16 (some 84) (ba 18 131071).toArray HT_ ?_
                  refine zq 17 (some 85) (ba 18 262143).toArray HT_ ?_
                  refine done_ (done_of HT_.out (by kernel_rfl)) ?_
                  have hcz55_0 : w53.cell? ⟨gb453, 0, none⟩ = some (.int .i64 a2_0) := (blk_cell BK453.out 0).trans rfl
                  have hcz55_1 : w53.cell? ⟨gb453, 1, none⟩ = some (.string a2_1) := (blk_cell BK453.out 1).trans rfl
                  have hfz55_0 := blk_frozen BK453.out 0
                  have hfz55_1 := blk_frozen BK453.out 1
                  have p47 : 0 ≤ (x61_3 : Int) := zD
                  have q47 : x61_3 < (a2_1.size : Int) := zD
                  have hx47 := bt_at a2_1 x61_3
                  replace p47 := eq_true p47
                  replace q47 := eq_true q47
                  have p48 : 0 ≤ ((ji40) : Int) := zD
                  have q48 : ((ji40) : Int) < ((x8_3.length : Int) : Int) := zD
                  obtain ⟨go48, co48, eo48, gb48, gl48, cl48, HG48⟩ := Kd.R_form HO_8.out (by omega)
                  (first | cases eo48 | (injection eo48 with ea_ en_ ec_; (first | subst ea_ | (injection ea_ with ea_; subst ea_)); subst ec_; clear en_))
                  have GB48 := zM gb48
                  have GG48 := zM HG48
                  clear gb48 gl48 HG48
                  (first | simp only [add_plain] at hx468_0 | skip)
                  obtain ⟨hx48_0, hf48_0⟩ := Kd.R_celln 0 HO_8.out ((ji40) : Int) p48 q48
                  replace p48 := eq_true p48
                  replace q48 := eq_true q48
                  obtain ⟨hy56_, hz56_⟩ := Kd.R_celln 0 HO_8.out ((ji40) : Int) (zD) (zD)
                  have HP56 := Kd.R_putg HO_8.out ((ji40) : Int) (bt a2_1 x61_3)
                  try go_wp2_with (first | ((with_reducible refine gate_store (t := 5) (p := 94) rfl ?_); refine store_event (t := 5) (p := 94) (v := ?vo_w57) (w1 := (w53.setCell ⟨go48, ((ji40) : Int).toNat, none⟩ (.int .u8 (bt a2_1 x61_3)))) ?hg ?ho ?hn ?hr ?_; (case ho => rfl); (case hg => rfl); (case hn => rfl); (case hr => first | (go_simp; done) | (go_simp; rfl)); intro w57 hw; have hg : w53.grownBy w57 (some go48) := (by rw [hw]; exact HP56.2); have hp_ : Kd.R (Kd.int .u8) 5 w57 w.heap.size (fun _ => True) (.slice (some ⟨go48, 0, none⟩) x8_3.length co54) y469 := (by rw [hw, Ny469.out]; exact HP56.1); clear HP56; have n0_ := zM (hp_); have n1_ := zM (blk_grown (g := gb453) (o := .cells #[.int .i64 a2_0, .string a2_1] 44 (0, 0)) (zP BK453.out) hg (Kd.R_ne HO_8.out BK453.out (by decide))); have n2_ := zM (Kd.R_over' (v := (.slice (some ⟨go48, 0, none⟩) x8_3.length co54)) (zR HO466.out) (Kd.R_typed HO_8.out) (by decide) hg); have n3_ := zM ((by rw [hw]; exact below_set (HB.out) GB48.out : Below w.heap.size w w57)); clear HO_8; clear BK453; clear HO466; clear HB; have HO_8 := n0_; have BK453 := n1_; have HO466 := n2_; have HB := n3_; clear n0_ n1_ n2_ n3_; clear hg hw hp_))
                  go_roundg k3
                  case measure => have := HJ3.out; have := HK2.out; have := HK3.out; omega
                  case rel => exact ⟨(y469), (wrap64 (x61_3 + 1)), zS, H', ⟨by have := HJ3.out; have := HK2.out; have := HK3.out; omega⟩, ⟨(zR HO_8.out)⟩, ⟨(zP BK453.out)⟩, ⟨(zB1 GE453.out HB.out)⟩⟩
                 ·rw [if_neg c46] at H
                  have c46b0 : ((rd x8_3 (ji40)) == (bt a2_1 x61_3)) = false := beq_eq_false_iff_ne.mpr c46
                  have c46b1 : ((rd x8_3 (ji40)) != (bt a2_1 x61_3)) = true := bne_iff_ne.mpr c46
                  replace H := Option.bind_eq_some_iff.mp H
                  obtain ⟨t470, A580, H⟩ := H
                  try dsimp only at H
                  have A58 := zM A580
                  clear A580
                  simp only [Option.some.injEq, Prod.mk.injEq] at H
                  obtain ⟨rfl, rfl⟩ := H
                  have hcz59_0 : wr.cell? ⟨gb453, 0, none⟩ = some (.int .i64 a2_0) := (blk_cell BK453.out 0).trans rfl
                  have hcz59_1 : wr.cell? ⟨gb453, 1, none⟩ = some (.string a2_1) := (blk_cell BK453.out 1).trans rfl
                  have hfz59_0 := blk_frozen BK453.out 0
                  have hfz59_1 := blk_frozen BK453.out 1
                  try go_wp2
                  have n0_ := zM (Kd.R_drew HO_8.out)
                  have n1_ := zM (blk_drew BK453.out)
                  have n2_ := zM (below_drew1 HB.out)
                  clear HO_8
                  clear BK453
                  clear HB
                  have HO_8 := n0_
                  have BK453 := n1_
                  have HB := n2_
                  clear n0_ n1_ n2_
                  obtain ⟨Aoz2, coz2, eoz2⟩ := Kd.R_slice HO_8.out
                  subst eoz2
                  have p468 : 0 ≤ ((ji40) : Int) := zD
                  have q468 : (ji40) < (x8_3.length : Int) := zD
                  obtain ⟨ad468, e468, hx468_0⟩ := Kd.at_int (Kd.R_reads' HO_8.out).2.2 (ji40) p468 q468
                  cases e468
                  replace p468 := eq_true p468
                  replace q468 := eq_true q468
                  refine start_ (n := 18) (S := fun w' => w'.cell? ⟨gb453, 0, none⟩ = some (.int .i64 a2_0) ∧ w'.cell? ⟨gb453, 1, none⟩ = some (.string a2_1) ∧ w'.cell? (ad468.add ((ji40)).toNat) = some (.int .u8 (rd x8_3 (ji40)))) (ds := []) (ba 18 0).toArray (by kernel_rfl) rfl rfl ⟨(blk_cell BK453.out 0).trans rfl, (blk_cell BK453.out 1).trans rfl, hx468_0⟩ (fun hHeld => ?_); refine with_tabW impl_AddPiece.tab13 impl_AddPiece.bits13 (fun HT_ HW_ => ?_)
                  generalize wr.drew = w60 at HO_8 BK453 HB hx468_0 hHeld ⊢
                  refine zq 0 (some 68) (ba 18 1).toArray HT_ ?_
                  refine zq 2 (some 70) (ba 18 5).toArray HT_ ?_
                  refine zq 3 (some 71) (ba 18 13).toArray HT_ ?_
                  refine zq 4 (some 72) (ba 18 29).toArray HT_ ?_
                  refine zq 5 (some 73) (ba 18 61).toArray HT_ ?_
                  refine one_ (i := 1) (N := some 69) (ba 18 63).toArray rfl rfl (one_of HT_.out (by kernel_rfl)) (by decide) (fun K hK => ?_)
                  refine goes_ Try.func30 (by kernel_rfl) rfl #[.slice A0 l0.length c0] (by rfl) rfl rfl (by (try simp only [List.map_toArray, List.map_cons, List.map_nil]); first | done | rfl | (simp only [List.length_drop, List.length_take]; rfl)) ?_
                  with_reducible refine (impl_SpansOf.calls k3 _ _ l0 t464 _ ?side1 ?side2 A37.out).mono ?_
                  (case side1 => exact (zC (Kd.C_below HR0.out HB.out)))
                  (case side2 => exact HC0.out)
                  rintro e w61 ⟨v465, rfl, ho0, hb⟩
                  have HS2_ := (hb.cell (World.block_lt_of_cell? _ _ (hHeld.2.2))).trans (hHeld.2.2)
                  refine ⟨_, rfl, ?_⟩
                  have n0_ := zM (Kd.R_below (zR HO_8.out) hb)
                  have n1_ := zM (Kd.R_lower ho0 (below_size (zB1 GE453.out HB.out)))
                  have n2_ := zM (blk_below (g := gb453) (o := .cells #[.int .i64 a2_0, .string a2_1] 44 (0, 0)) (zP BK453.out) hb)
                  have n3_ := zM (below_step (zB1 GE453.out HB.out) hb)
                  clear HO_8
                  clear BK453
                  clear HB
                  have HO_8 := n0_
                  have HO466 := n1_
                  have BK453 := n2_
                  have HB := n3_
                  clear n0_ n1_ n2_ n3_
                  (try clear hb)
                  (try clear hb2)
                  (try clear hk)
                  (try clear hi)
                  (try clear ho0)
                  obtain ⟨Ao62, co62, eo62⟩ := Kd.R_slice HO466.out
                  (first | subst eo62 | (injection eo62 with f1_ f2_ f3_; have f4_ := f1_.symm; have f5_ := f3_.symm; clear f1_ f2_ f3_; subst f4_; subst f5_))
                  refine hK.out _ _ ⟨(blk_cell BK453.out 0).trans rfl, (blk_cell BK453.out 1).trans rfl, HS2_⟩ (fun hHeld => ?_)
                  clear hK K
                  refine norm_ (a' := ?_) ?_ ?_
                  rotate_left
                  ·show Act.put _ (some 69) _ = _
                   simp only [Act.put, List.setIfInBounds_toArray, List.set_cons_zero, List.set_cons_succ, i64_w, i32_w]
                   rfl
                  refine one_ (i := 6) (N := some 74) (ba 18 127).toArray rfl rfl (one_of HT_.out (by kernel_rfl)) (by decide) (fun K hK => ?_)
                  refine goes_ Try.func12 (by kernel_rfl) rfl #[.slice Ao62 t464.length co62, .agg #[.int .i64 ji40, .int .i64 (wrap64 ((ji40) + 1))]] (by rfl) rfl rfl (by (try simp only [List.map_toArray, List.map_cons, List.map_nil]); first | done | (simp only [hji40]; rfl) | rfl | (simp only [List.length_drop, List.length_take]; rfl)) ?_
                  with_reducible refine (impl_CoversSpan.calls _ _ t464 ji40 (wrap64 ((ji40) + 1)) true _ ?side1 ?side2 A38.out).mono ?_
                  (case side1 => exact (zC ((Kd.R_reads' HO466.out).2.2)))
                  (case side2 => exact (Kd.R_reads' HO466.out).2.1)
                  rintro e w63 ⟨rfl, hb⟩
                  have HS2_ := (hb.cell (World.block_lt_of_cell? _ _ (hHeld.2.2))).trans (hHeld.2.2)
                  refine ⟨_, rfl, ?_⟩
                  have n0_ := zM (Kd.R_below (zR HO_8.out) hb)
                  have n1_ := zM (Kd.R_below (zR HO466.out) hb)
                  have n2_ := zM (blk_below (g := gb453) (o := .cells #[.int .i64 a2_0, .string a2_1] 44 (0, 0)) (zP BK453.out) hb)
                  have n3_ := zM (below_step (zB1 GE453.out HB.out) hb)
                  clear HO_8
                  clear HO466
                  clear BK453
                  clear HB
                  have HO_8 := n0_
                  have HO466 := n1_
                  have BK453 := n2_
                  have HB := n3_
                  clear n0_ n1_ n2_ n3_
                  (try clear hb)
                  (try clear hb2)
                  (try clear hk)
                  (try clear hi)
                  obtain ⟨Ao64, co64, eo64⟩ := Kd.R_slice HO_8.out
                  (first | subst eo64 | (injection eo64 with f1_ f2_ f3_; have f4_ := f1_.symm; have f5_ := f3_.symm; clear f1_ f2_ f3_; subst f4_; subst f5_))
                  have p45 : 0 ≤ (x61_3 : Int) := zD
                  have q45 : x61_3 < (a2_1.size : Int) := zD
                  have hx45 := bt_at a2_1 x61_3
                  replace p45 := eq_true p45
                  replace q45 := eq_true q45
                  refine hK.out _ _ ⟨(blk_cell BK453.out 0).trans rfl, (blk_cell BK453.out 1).trans rfl, HS2_⟩ (fun hHeld => ?_)
                  clear hK K
                  refine norm_ (a' := ?_) ?_ ?_
                  rotate_left
                  ·show Act.put _ (some 74) _ = _
                   simp only [Act.put, List.setIfInBounds_toArray, List.set_cons_zero, List.set_cons_succ, i64_w, i32_w]
                   rfl
                  refine zq 7 (some 75) (ba 18 255).toArray HT_ ?_
                  refine zq 8 (some 76) (ba 18 511).toArray HT_ ?_
                  refine zq 9 (some 77) (ba 18 1023).toArray HT_ ?_
                  refine zq 10 (some 78) (ba 18 2047).toArray HT_ ?_
                  refine zq 12 (some 80) (ba 18 6143).toArray HT_ ?_
                  refine zq 14 (some 82) (ba 18 22527).toArray HT_ ?_
                  refine zt3 11 (some 79) (ba 18 24575).toArray HT_ HW_ hHeld ?_
                  refine zt3 13 (some 81) (ba 18 32767).toArray HT_ HW_ hHeld ?_
                  refine zt3 15 (some 83) (ba 18 65535).toArray HT_ HW_ hHeld ?_
                  refine zq 16 (some 84) (ba 18 131071).toArray HT_ ?_
                  refine zq 17 (some 85) (ba 18 262143).toArray HT_ ?_
                  refine done_ (done_of HT_.out (by kernel_rfl)) ?_
                  try go_wp2_with (first | ((with_reducible refine gate_callee (f := 46) rfl ?_); refine zG (some 87) Try.func46 #[.slice A0 l0.length c0] ?_; (with_reducible refine (impl_Piece.calls _ _ l0 t470 _ ?side1 ?side2 A58.out).mono ?_); (case side1 => exact (zC (Kd.C_below HR0.out HB.out))); (case side2 => exact HC0.out); rintro e w65 ⟨v471, rfl, ho0, hb⟩; refine ⟨_, rfl, ?_⟩; have n0_ := zM (Kd.R_below (zR HO_8.out) hb); have n1_ := zM (Kd.R_below (zR HO466.out) hb); have n2_ := zM (Kd.R_lower (Kd.R_newB ho0 (g := gb453) (o := .cells #[.int .i64 a2_0, .string a2_1] 44 (0, 0)) (zP BK453.out)) (below_size (zB1 GE453.out HB.out))); have n3_ := zM (blk_below (g := gb453) (o := .cells #[.int .i64 a2_0, .string a2_1] 44 (0, 0)) (zP BK453.out) hb); have n4_ := zM (below_step (zB1 GE453.out HB.out) hb); clear HO_8; clear HO466; clear BK453; clear HB; have HO_8 := n0_; have HO466 := n1_; have HO472 := n2_; have BK453 := n3_; have HB := n4_; clear n0_ n1_ n2_ n3_ n4_; (try clear hb); (try clear hb2); (try clear hk); (try clear hi); (try clear ho0)))
                  go_ret2
                  exact ⟨_, by first | rfl | (simp [errW_none, errW_some] <;> rfl) | (simp only [← hji40]; first | rfl | (simp [errW_none, errW_some] <;> rfl)) | (simp [*, errW_none, errW_some] <;> rfl), (zRm HO472.out (fun _ hk => trivial)), (zB1 GE453.out HB.out)⟩
                ·rw [if_neg c44] at H
                 exact absurd H (by simp)
               ·rw [if_neg c43] at H
                exact absurd H (by simp)
              ·rw [if_neg c42] at H
               exact absurd H (by simp)
             ·rw [if_neg c41] at H
              exact absurd H (by simp)
            ·replace c39 := Bool.eq_false_iff.mpr c39
             subst c39
             rw [if_neg (show ¬ (false = true) by decide)] at H
             by_cases c66 : 0 ≤ x61_3
             ·rw [if_pos c66] at H
              have c66b0 : decide (0 ≤ x61_3) = true := decide_eq_true c66
              clear c66
              by_cases c67 : x61_3 < (a2_1.size : Int)
              ·rw [if_pos c67] at H
               have c67b0 : decide (x61_3 < (a2_1.size : Int)) = true := decide_eq_true c67
               clear c67
               obtain ⟨ji69, hji69⟩ : ∃ j_ : Int, (wrap64 (a2_0 + x61_3)) = j_ := ⟨_, rfl⟩
               replace H : (if 0 ≤ (ji69) then (if (ji69) < (x8_3.length : Int) then (impl_AddPiece.l1 k3 l0 (x8_3.set ((ji69) : Int).toNat (bt a2_1 x61_3)) (a2_1.size : Int) (wrap64 (x61_3 + 1)) a2_0 a2_1) else (none)) else (none)) = some (r1, r2) := by first | (rw [hji69] at H; exact H) | (simp only [hji69] at H ⊢; exact H)
               (try rw [hji69] at A37)
               (try rw [hji69] at A38)
               have hji69w : (IntKind.i64.wrap (a2_0 + x61_3)) = ji69 := (i64_w _).trans hji69
               by_cases c70 : 0 ≤ (ji69)
               ·rw [if_pos c70] at H
                have c70b0 : decide (0 ≤ (ji69)) = true := decide_eq_true c70
                clear c70
                by_cases c71 : (ji69) < (x8_3.length : Int)
                ·rw [if_pos c71] at H
                 have c71b0 : decide ((ji69) < (x8_3.length : Int)) = true := decide_eq_true c71
                 clear c71
                 obtain ⟨y473, hy473⟩ : ∃ y_ : List Int, y_ = (x8_3.set ((ji69) : Int).toNat (bt a2_1 x61_3)) := ⟨_, rfl⟩
                 replace H : (impl_AddPiece.l1 k3 l0 y473 (a2_1.size : Int) (wrap64 (x61_3 + 1)) a2_0 a2_1) = some (r1, r2) := zH hy473 H
                 have Ny473 := zM hy473
                 clear hy473
                 have H' := zM H
                 clear H
                 have hcz73_0 : wr.cell? ⟨gb453, 0, none⟩ = some (.int .i64 a2_0) := (blk_cell BK453.out 0).trans rfl
                 have hcz73_1 : wr.cell? ⟨gb453, 1, none⟩ = some (.string a2_1) := (blk_cell BK453.out 1).trans rfl
                 have hfz73_0 := blk_frozen BK453.out 0
                 have hfz73_1 := blk_frozen BK453.out 1
                 try go_wp2
                 have n0_ := zM (Kd.R_drew HO_8.out)
                 have n1_ := zM (blk_drew BK453.out)
                 have n2_ := zM (below_drew1 HB.out)
                 clear HO_8
                 clear BK453
                 clear HB
                 have HO_8 := n0_
                 have BK453 := n1_
                 have HB := n2_
                 clear n0_ n1_ n2_
                 refine start_ (n := 18) (S := fun w' => True) (ds := []) (ba 18 0).toArray (by kernel_rfl) rfl rfl trivial (fun hHeld => ?_); refine with_tabW impl_AddPiece.tab13 impl_AddPiece.bits13 (fun HT_ HW_ => ?_)
                 generalize wr.drew = w74 at HO_8 BK453 HB hHeld ⊢
                 refine zq 0 (some 68) (ba 18 1).toArray HT_ ?_
                 refine zq 2 (some 70) (ba 18 5).toArray HT_ ?_
                 refine zq 3 (some 71) (ba 18 13).toArray HT_ ?_
                 refine zq 4 (some 72) (ba 18 29).toArray HT_ ?_
                 refine zq 5 (some 73) (ba 18 61).toArray HT_ ?_
                 refine one_ (i := 1) (N := some 69) (ba 18 63).toArray rfl rfl (one_of HT_.out (by kernel_rfl)) (by decide) (fun K hK => ?_)
                 refine goes_ Try.func30 (by kernel_rfl) rfl #[.slice A0 l0.length c0] (by rfl) rfl rfl (by (try simp only [List.map_toArray, List.map_cons, List.map_nil]); first | done | rfl | (simp only [List.length_drop, List.length_take]; rfl)) ?_
                 with_reducible refine (impl_SpansOf.calls k3 _ _ l0 t464 _ ?side1 ?side2 A37.out).mono ?_
                 (case side1 => exact (zC (Kd.C_below HR0.out HB.out)))
                 (case side2 => exact HC0.out)
                 rintro e w75 ⟨v465, rfl, ho0, hb⟩
                 refine ⟨_, rfl, ?_⟩
                 have n0_ := zM (Kd.R_below (zR HO_8.out) hb)
                 have n1_ := zM (Kd.R_lower ho0 (below_size (zB1 GE453.out HB.out)))
                 have n2_ := zM (blk_below (g := gb453) (o := .cells #[.int .i64 a2_0, .string a2_1] 44 (0, 0)) (zP BK453.out) hb)
                 have n3_ := zM (below_step (zB1 GE453.out HB.out) hb)
                 clear HO_8
                 clear BK453
                 clear HB
                 have HO_8 := n0_
                 have HO466 := n1_
                 have BK453 := n2_
                 have HB := n3_
                 clear n0_ n1_ n2_ n3_
                 (try clear hb)
                 (try clear hb2)
                 (try clear hk)
                 (try clear hi)
                 (try clear ho0)
                 obtain ⟨Ao76, co76, eo76⟩ := Kd.R_slice HO466.out
                 (first | subst eo76 | (injection eo76 with f1_ f2_ f3_; have f4_ := f1_.symm; have f5_ := f3_.symm; clear f1_ f2_ f3_; subst f4_; subst f5_))
                 refine hK.out _ _ trivial (fun hHeld => ?_)
                 clear hK K
                 refine norm_ (a' := ?_) ?_ ?_
                 rotate_left
                 ·show Act.put _ (some 69) _ = _
                  simp only [Act.put, List.setIfInBounds_toArray, List.set_cons_zero, List.set_cons_succ, i64_w, i32_w]
                  rfl
                 refine one_ (i := 6) (N := some 74) (ba 18 127).toArray rfl rfl (one_of HT_.out (by kernel_rfl)) (by decide) (fun K hK => ?_)
                 refine goes_ Try.func12 (by kernel_rfl) rfl #[.slice Ao76 t464.length co76, .agg #[.int .i64 ji69, .int .i64 (wrap64 ((ji69) + 1))]] (by rfl) rfl rfl (by (try simp only [List.map_toArray, List.map_cons, List.map_nil]); first | done | (simp only [hji69]; rfl) | rfl | (simp only [List.length_drop, List.length_take]; rfl)) ?_
                 with_reducible refine (impl_CoversSpan.calls _ _ t464 ji69 (wrap64 ((ji69) + 1)) false _ ?side1 ?side2 A38.out).mono ?_
                 (case side1 => exact (zC ((Kd.R_reads' HO466.out).2.2)))
                 (case side2 => exact (Kd.R_reads' HO466.out).2.1)
                 rintro e w77 ⟨rfl, hb⟩
                 refine ⟨_, rfl, ?_⟩
                 have n0_ := zM (Kd.R_below (zR HO_8.out) hb)
                 have n1_ := zM (Kd.R_below (zR HO466.out) hb)
                 have n2_ := zM (blk_below (g := gb453) (o := .cells #[.int .i64 a2_0, .string a2_1] 44 (0, 0)) (zP BK453.out) hb)
                 have n3_ := zM (below_step (zB1 GE453.out HB.out) hb)
                 clear HO_8
                 clear HO466
                 clear BK453
                 clear HB
                 have HO_8 := n0_
                 have HO466 := n1_
                 have BK453 := n2_
                 have HB := n3_
                 clear n0_ n1_ n2_ n3_
                 (try clear hb)
                 (try clear hb2)
                 (try clear hk)
                 (try clear hi)
                 refine hK.out _ _ trivial (fun hHeld => ?_)
                 clear hK K
                 refine norm_ (a' := ?_) ?_ ?_
                 rotate_left
                 ·show Act.put _ (some 74) _ = _
                  simp only [Act.put, List.setIfInBounds_toArray, List.set_cons_zero, List.set_cons_succ, i64_w, i32_w]
                  rfl
                 refine zq 7 (some 75) (ba 18 255).toArray HT_ ?_
                 refine zu 8 (some 76) (ba 18 511).toArray HT_ ?_
                 refine zu 9 (some 77) (ba 18 1023).toArray HT_ ?_
                 refine zu 10 (some 78) (ba 18 2047).toArray HT_ ?_
                 refine zu 11 (some 79) (ba 18 4095).toArray HT_ ?_
                 refine zu 12 (some 80) (ba 18 8191).toArray HT_ ?_
                 refine zu 13 (some 81) (ba 18 16383).toArray HT_ ?_
                 refine zu 14 (some 82) (ba 18 32767).toArray HT_ ?_
                 refine zu 15 (some 83) (ba 18 65535).toArray HT_ ?_
                 refine zu 16 (some 84) (ba 18 131071).toArray HT_ ?_
                 refine zq 17 (some 85) (ba 18 262143).toArray HT_ ?_
                 refine done_ (done_of HT_.out (by kernel_rfl)) ?_
                 have hcz78_0 : w77.cell? ⟨gb453, 0, none⟩ = some (.int .i64 a2_0) := (blk_cell BK453.out 0).trans rfl
                 have hcz78_1 : w77.cell? ⟨gb453, 1, none⟩ = some (.string a2_1) := (blk_cell BK453.out 1).trans rfl
                 have hfz78_0 := blk_frozen BK453.out 0
                 have hfz78_1 := blk_frozen BK453.out 1
                 have p68 : 0 ≤ (x61_3 : Int) := zD
                 have q68 : x61_3 < (a2_1.size : Int) := zD
                 have hx68 := bt_at a2_1 x61_3
                 replace p68 := eq_true p68
                 replace q68 := eq_true q68
                 have p72 : 0 ≤ ((ji69) : Int) := zD
                 have q72 : ((ji69) : Int) < ((x8_3.length : Int) : Int) := zD
                 obtain ⟨go72, co72, eo72, gb72, gl72, cl72, HG72⟩ := Kd.R_form HO_8.out (by omega)
                 (first | cases eo72 | (injection eo72 with ea_ en_ ec_; (first | subst ea_ | (injection ea_ with ea_; subst ea_)); subst ec_; clear en_))
                 have GB72 := zM gb72
                 have GG72 := zM HG72
                 clear gb72 gl72 HG72
                 obtain ⟨hx72_0, hf72_0⟩ := Kd.R_celln 0 HO_8.out ((ji69) : Int) p72 q72
                 replace p72 := eq_true p72
                 replace q72 := eq_true q72
                 obtain ⟨hy79_, hz79_⟩ := Kd.R_celln 0 HO_8.out ((ji69) : Int) (zD) (zD)
                 have HP79 := Kd.R_putg HO_8.out ((ji69) : Int) (bt a2_1 x61_3)
                 try go_wp2_with (first | ((with_reducible refine gate_store (t := 5) (p := 94) rfl ?_); refine store_event (t := 5) (p := 94) (v := ?vo_w80) (w1 := (w77.setCell ⟨go72, ((ji69) : Int).toNat, none⟩ (.int .u8 (bt a2_1 x61_3)))) ?hg ?ho ?hn ?hr ?_; (case ho => rfl); (case hg => rfl); (case hn => rfl); (case hr => first | (go_simp; done) | (go_simp; rfl)); intro w80 hw; have hg : w77.grownBy w80 (some go72) := (by rw [hw]; exact HP79.2); have hp_ : Kd.R (Kd.int .u8) 5 w80 w.heap.size (fun _ => True) (.slice (some ⟨go72, 0, none⟩) x8_3.length co72) y473 := (by rw [hw, Ny473.out]; exact HP79.1); clear HP79; have n0_ := zM (hp_); have n1_ := zM (blk_grown (g := gb453) (o := .cells #[.int .i64 a2_0, .string a2_1] 44 (0, 0)) (zP BK453.out) hg (Kd.R_ne HO_8.out BK453.out (by decide))); have n2_ := zM (Kd.R_over' (v := (.slice (some ⟨go72, 0, none⟩) x8_3.length co72)) (zR HO466.out) (Kd.R_typed HO_8.out) (by decide) hg); have n3_ := zM ((by rw [hw]; exact below_set (HB.out) GB72.out : Below w.heap.size w w80)); clear HO_8; clear BK453; clear HO466; clear HB; have HO_8 := n0_; have BK453 := n1_; have HO466 := n2_; have HB := n3_; clear n0_ n1_ n2_ n3_; clear hg hw hp_))
                 go_roundg k3
                 case measure => have := HJ3.out; have := HK2.out; have := HK3.out; omega
                 case rel => exact ⟨(y473), (wrap64 (x61_3 + 1)), zS, H', ⟨by have := HJ3.out; have := HK2.out; have := HK3.out; omega⟩, ⟨(zR HO_8.out)⟩, ⟨(zP BK453.out)⟩, ⟨(zB1 GE453.out HB.out)⟩⟩
                ·rw [if_neg c71] at H
                 exact absurd H (by simp)
               ·rw [if_neg c70] at H
                exact absurd H (by simp)
              ·rw [if_neg c67] at H
               exact absurd H (by simp)
             ·rw [if_neg c66] at H
              exact absurd H (by simp)
           ·rw [if_neg c36] at H
            have c36b0 : decide (x61_3 < (a2_1.size : Int)) = false := decide_eq_false c36
            clear c36
            obtain ⟨y474, hy474⟩ : ∃ y_ : List (S44), y_ = (([] : List (S44))) := ⟨_, rfl⟩
            replace H : ((impl_SpansOf.f k3 l0).bind fun t477 => ((impl_AddSpan.f k3 t477 a2_0 (wrap64 (a2_0 + (a2_1.size : Int)))).bind fun t480 => (impl_AddPiece.l2 k3 l0 x8_3 y474 t480 (t480.length : Int) 0))) = some (r1, r2) := zH hy474 H
            have Ny474 := zM hy474
            clear hy474
            replace H := Option.bind_eq_some_iff.mp H
            obtain ⟨t477, A810, H⟩ := H
            try dsimp only at H
            have A81 := zM A810
            clear A810
            replace H := Option.bind_eq_some_iff.mp H
            obtain ⟨t480, A820, H⟩ := H
            try dsimp only at H
            have A82 := zM A820
            clear A820
            have H' := zM H
            clear H
            try go_wp2_with (first | ((with_reducible refine gate_dst (N := 96) rfl ?_); (try (refine gate_guard (by rfl) ?_; dsimp only)); refine Kd.R_lit k44 _ 44 ?hg (N := 96) ?hd (xs := ([] : List (S44))) (inner := []) (ok := fun _ => True) (okp := fun _ => True) ?hr ?hp (fun _ hk => hk) trivial (Below.refl _ _) (Nat.le_refl _) (by simp) ?_; (case hd => rfl); (case hg => rfl); (case hr => first | (go_simp; done) | (go_simp; rfl)); (case hp => exact (Reps.none _ _)); intro v475 w83 ho84 hb hg_ hnew_; clear hg_ hnew_; (first | rw [← Ny474.out] at ho84 | (simp only [Int.reduceToNat] at ho84; rw [← Ny474.out] at ho84)); have n0_ := zM (Kd.R_below (zR HO_8.out) hb); have n1_ := zM (Kd.R_lower (Kd.R_newB ho84 (g := gb453) (o := .cells #[.int .i64 a2_0, .string a2_1] 44 (0, 0)) (zP BK453.out)) (below_size (zB1 GE453.out HB.out))); have n2_ := zM (blk_below (g := gb453) (o := .cells #[.int .i64 a2_0, .string a2_1] 44 (0, 0)) (zP BK453.out) hb); have n3_ := zM (below_step (zB1 GE453.out HB.out) hb); clear HO_8; clear BK453; clear HB; have HO_8 := n0_; have HO476 := n1_; have BK453 := n2_; have HB := n3_; clear n0_ n1_ n2_ n3_; clear hb ho84))
            have n0_ := zM (Kd.R_drew HO_8.out)
            have n1_ := zM (Kd.R_drew HO476.out)
            have n2_ := zM (blk_drew BK453.out)
            have n3_ := zM (below_drew1 HB.out)
            clear HO_8
            clear HO476
            clear BK453
            clear HB
            have HO_8 := n0_
            have HO476 := n1_
            have BK453 := n2_
            have HB := n3_
            clear n0_ n1_ n2_ n3_
            refine start_ (n := 14) (S := fun w' => w'.cell? ⟨gb453, 0, none⟩ = some (.int .i64 a2_0) ∧ w'.cell? ⟨gb453, 1, none⟩ = some (.string a2_1)) (ds := []) (ba 14 0).toArray (by kernel_rfl) rfl rfl ⟨(blk_cell BK453.out 0).trans rfl, (blk_cell BK453.out 1).trans rfl⟩ (fun hHeld => ?_); refine with_tabW impl_AddPiece.tab18 impl_AddPiece.bits18 (fun HT_ HW_ => ?_)
            generalize w83.drew = w85 at HO_8 HO476 BK453 HB hHeld ⊢
            refine zq 0 (some 97) (ba 14 1).toArray HT_ ?_
            refine zq 2 (some 99) (ba 14 5).toArray HT_ ?_
            refine zq 4 (some 101) (ba 14 21).toArray HT_ ?_
            refine zq 6 (some 103) (ba 14 85).toArray HT_ ?_
            refine zq 13 (some 110) (ba 14 8277).toArray HT_ ?_
            refine zt2 3 (some 100) (ba 14 8285).toArray HT_ HW_ hHeld ?_
            refine zt2 5 (some 102) (ba 14 8317).toArray HT_ HW_ hHeld ?_
            refine zt2 7 (some 104) (ba 14 8445).toArray HT_ HW_ hHeld ?_
            refine zq 8 (some 105) (ba 14 8701).toArray HT_ ?_
            refine zq 9 (some 106) (ba 14 9213).toArray HT_ ?_
            refine zq 10 (some 107) (ba 14 10237).toArray HT_ ?_
            refine one_ (i := 1) (N := some 98) (ba 14 10239).toArray rfl rfl (one_of HT_.out (by kernel_rfl)) (by decide) (fun K hK => ?_)
            refine goes_ Try.func30 (by kernel_rfl) rfl #[.slice A0 l0.length c0] (by rfl) rfl rfl (by (try simp only [List.map_toArray, List.map_cons, List.map_nil]); first | done | rfl | (simp only [List.length_drop, List.length_take]; rfl)) ?_
            with_reducible refine (impl_SpansOf.calls k3 _ _ l0 t477 _ ?side1 ?side2 A81.out).mono ?_
            (case side1 => exact (zC (Kd.C_below HR0.out HB.out)))
            (case side2 => exact HC0.out)
            rintro e w86 ⟨v478, rfl, ho0, hb⟩
            refine ⟨_, rfl, ?_⟩
            have n0_ := zM (Kd.R_below (zR HO_8.out) hb)
            have n1_ := zM (Kd.R_below (zR HO476.out) hb)
            have n2_ := zM (Kd.R_lower ho0 (below_size (zB1 GE453.out HB.out)))
            have n3_ := zM (blk_below (g := gb453) (o := .cells #[.int .i64 a2_0, .string a2_1] 44 (0, 0)) (zP BK453.out) hb)
            have n4_ := zM (below_step (zB1 GE453.out HB.out) hb)
            clear HO_8
            clear HO476
            clear BK453
            clear HB
            have HO_8 := n0_
            have HO476 := n1_
            have HO479 := n2_
            have BK453 := n3_
            have HB := n4_
            clear n0_ n1_ n2_ n3_ n4_
            (try clear hb)
            (try clear hb2)
            (try clear hk)
            (try clear hi)
            (try clear ho0)
            obtain ⟨Ao87, co87, eo87⟩ := Kd.R_slice HO479.out
            (first | subst eo87 | (injection eo87 with f1_ f2_ f3_; have f4_ := f1_.symm; have f5_ := f3_.symm; clear f1_ f2_ f3_; subst f4_; subst f5_))
            refine hK.out _ _ ⟨(blk_cell BK453.out 0).trans rfl, (blk_cell BK453.out 1).trans rfl⟩ (fun hHeld => ?_)
            clear hK K
            refine norm_ (a' := ?_) ?_ ?_
            rotate_left
            ·show Act.put _ (some 98) _ = _
             simp only [Act.put, List.setIfInBounds_toArray, List.set_cons_zero, List.set_cons_succ, i64_w, i32_w]
             rfl
            refine one_ (i := 11) (N := some 108) (ba 14 12287).toArray rfl rfl (one_of HT_.out (by kernel_rfl)) (by decide) (fun K hK => ?_)
            refine goes_ Try.func8 (by kernel_rfl) rfl #[.slice Ao87 t477.length co87, .agg #[.int .i64 a2_0, .int .i64 (wrap64 (a2_0 + (a2_1.size : Int)))]] (by rfl) rfl rfl (by (try simp only [List.map_toArray, List.map_cons, List.map_nil]); first | done | rfl | (simp only [List.length_drop, List.length_take]; rfl)) ?_
            with_reducible refine (impl_AddSpan.calls k3 _ _ t477 a2_0 (wrap64 (a2_0 + (a2_1.size : Int))) t480 _ ?side1 ?side2 A82.out).mono ?_
            (case side1 => exact (zC ((Kd.R_reads' HO479.out).2.2)))
            (case side2 => exact (Kd.R_reads' HO479.out).2.1)
            rintro e w88 ⟨v481, rfl, ho0, hb⟩
            refine ⟨_, rfl, ?_⟩
            have n0_ := zM (Kd.R_below (zR HO_8.out) hb)
            have n1_ := zM (Kd.R_below (zR HO476.out) hb)
            have n2_ := zM (Kd.R_elder' (zR HO479.out) (Kd.R_base ho0) hb)
            have n3_ := zM (Kd.R_lower (Kd.R_new' ho0 (Kd.R_lt (zR HO479.out))) (below_size (zB1 GE453.out HB.out)))
            have n4_ := zM (blk_below (g := gb453) (o := .cells #[.int .i64 a2_0, .string a2_1] 44 (0, 0)) (zP BK453.out) hb)
            have n5_ := zM (below_step (zB1 GE453.out HB.out) hb)
            clear HO_8
            clear HO476
            clear HO479
            clear BK453
            clear HB
            have HO_8 := n0_
            have HO476 := n1_
            have HO479 := n2_
            have HO482 := n3_
            have BK453 := n4_
            have HB := n5_
            clear n0_ n1_ n2_ n3_ n4_ n5_
            (try clear hb)
            (try clear hb2)
            (try clear hk)
            (try clear hi)
            (try clear ho0)
            obtain ⟨Ao89, co89, eo89⟩ := Kd.R_slice HO482.out
            (first | subst eo89 | (injection eo89 with f1_ f2_ f3_; have f4_ := f1_.symm; have f5_ := f3_.symm; clear f1_ f2_ f3_; subst f4_; subst f5_))
            refine hK.out _ _ ⟨(blk_cell BK453.out 0).trans rfl, (blk_cell BK453.out 1).trans rfl⟩ (fun hHeld => ?_)
            clear hK K
            refine norm_ (a' := ?_) ?_ ?_
            rotate_left
            ·show Act.put _ (some 108) _ = _
             simp only [Act.put, List.setIfInBounds_toArray, List.set_cons_zero, List.set_cons_succ, i64_w, i32_w]
             rfl
            refine zq 12 (some 109) (ba 14 16383).toArray HT_ ?_
            refine done_ (done_of HT_.out (by kernel_rfl)) ?_
            try go_wp2
            go_loopg [13, 110] k3 (fun kq v13 v110 w' => ∃ (x13_4 : List (S44)) (x110_4 : Int), v110 = .int .i64 x110_4 ∧ Aside0 (impl_AddPiece.l2 kq l0 x8_3 x13_4 t480 (t480.length : Int) x110_4 = some (r1, r2)) ∧ Aside0 (kq ≤ k3) ∧ Aside0 (Kd.R (Kd.int .u8) 5 w' w.heap.size (fun _ => True) v459 x8_3) ∧ Aside0 (Kd.R k44 44 w' w.heap.size (fun k_ => k_ ≠ gb453) v13 x13_4) ∧ Aside0 (Kd.R k26 26 w' w.heap.size (fun _ => True) (.slice Ao89 t480.length co89) t480) ∧ Aside0 (w'.heap[gb453]? = some (.cells #[.int .i64 a2_0, .string a2_1] 44 (0, 0))) ∧ Aside0 (Below w.heap.size w w'))
            case atStart => exact ⟨(y474), (0), zS, H', ⟨Nat.le_refl _⟩, ⟨(zR HO_8.out)⟩, ⟨(zRm HO476.out (fun _ hk => hk.2))⟩, ⟨(zRm HO482.out (fun _ hk => trivial))⟩, ⟨(zP BK453.out)⟩, ⟨(zB1 GE453.out HB.out)⟩⟩
            case round =>
             clear H'
             try clear c1
             try clear p2
             try clear c3
             try clear c4
             try clear p4
             try clear q4
             try clear hx4
             try clear c6
             try clear p6
             try clear q6
             try clear hx6
             try clear c7
             try clear p7
             try clear q7
             try clear hx7
             try clear hf7
             try clear c8
             try clear c12
             try clear c30
             try clear c36
             try clear c36b0
             try clear c39
             try clear c41
             try clear c42
             try clear c43
             try clear c44
             try clear p45
             try clear q45
             try clear hx45
             try clear c46
             try clear p64
             try clear c66
             try clear c66b0
             try clear c67
             try clear c67b0
             try clear p68
             try clear q68
             try clear hx68
             try clear c70
             try clear c70b0
             try clear c71
             try clear c71b0
             try clear p72
             try clear q72
             try clear hx72
             try clear hf72
             try clear hcz73_0
             try clear hcz73_1
             try clear hcz78_0
             try clear hcz78_1
             try clear hfz73_0
             try clear hfz73_1
             try clear hfz78_0
             try clear hfz78_1
             try clear hx72_0
             try clear p45
             try clear p68
             try clear p72
             try clear q45
             try clear q68
             try clear q72
             obtain ⟨x13_4, x110_4, rfl, HA, HK4, HO_8, HO_13, HO_108, BK453, HB⟩ := hrel
             cases gk with
             | zero => exact absurd HA.out (by simp [impl_AddPiece.l2])
             | succ k4 =>
              have H := HA.out
              clear HA
              simp only [impl_AddPiece.l2] at H
              by_cases c90 : x110_4 < (t480.length : Int)
              ·rw [if_pos c90] at H
               have c90b0 : decide (x110_4 < (t480.length : Int)) = true := decide_eq_true c90
               clear c90
               by_cases c91 : 0 ≤ x110_4
               ·rw [if_pos c91] at H
                have c91b0 : decide (0 ≤ x110_4) = true := decide_eq_true c91
                clear c91
                by_cases c92 : x110_4 < (t480.length : Int)
                ·rw [if_pos c92] at H
                 have c92b0 : decide (x110_4 < (t480.length : Int)) = true := decide_eq_true c92
                 clear c92
                 by_cases c93 : 0 ≤ ((rd_T26 t480 x110_4).f0)
                 ·rw [if_pos c93] at H
                  have c93b0 := eq_true c93
                  have c93b1 : decide (0 ≤ ((rd_T26 t480 x110_4).f0)) = true := decide_eq_true c93
                  clear c93
                  by_cases c94 : ((rd_T26 t480 x110_4).f0) ≤ ((rd_T26 t480 x110_4).f1)
                  ·rw [if_pos c94] at H
                   have c94b0 := eq_true c94
                   have c94b1 : decide (((rd_T26 t480 x110_4).f0) ≤ ((rd_T26 t480 x110_4).f1)) = true := decide_eq_true c94
                   clear c94
                   by_cases c95 : ((rd_T26 t480 x110_4).f1) ≤ (x8_3.length : Int)
                   ·rw [if_pos c95] at H
                    have c95b0 := eq_true c95
                    have c95b1 : decide (((rd_T26 t480 x110_4).f1) ≤ (x8_3.length : Int)) = true := decide_eq_true c95
                    clear c95
                    obtain ⟨y485, hy485⟩ : ∃ y_ : List Int, y_ = ((x8_3.take (((rd_T26 t480 x110_4).f1) : Int).toNat).drop (((rd_T26 t480 x110_4).f0) : Int).toNat) := ⟨_, rfl⟩
                    replace H : (if x13_4.length < 5864062014805 then (impl_AddPiece.l2 k4 l0 x8_3 (x13_4 ++ [(⟨(rd_T26 t480 x110_4).f0, strOfNums y485⟩ : S44)]) t480 (t480.length : Int) (wrap64 (x110_4 + 1))) else (none)) = some (r1, r2) := zH hy485 H
                    have Ny485 := zM hy485
                    clear hy485
                    by_cases c96 : x13_4.length < 5864062014805
                    ·rw [if_pos c96] at H
                     have LMc96 := zM c96
                     clear c96
                     obtain ⟨y489, hy489⟩ : ∃ y_ : List (S44), y_ = (x13_4 ++ [(⟨(rd_T26 t480 x110_4).f0, strOfNums y485⟩ : S44)]) := ⟨_, rfl⟩
                     replace H : (impl_AddPiece.l2 k4 l0 x8_3 y489 t480 (t480.length : Int) (wrap64 (x110_4 + 1))) = some (r1, r2) := zH hy489 H
                     have Ny489 := zM hy489
                     clear hy489
                     have H' := zM H
                     clear H
                     have p483 : 0 ≤ (x110_4 : Int) := zD
                     have q483 : x110_4 < (t480.length : Int) := zD
                     obtain ⟨ad483, e483, hx483_0, hx483_1⟩ := at_T26 (Kd.R_reads' HO_108.out).2.2 x110_4 p483 q483
                     cases e483
                     replace p483 := eq_true p483
                     replace q483 := eq_true q483
                     try go_wp2_with (first | ((with_reducible refine gate_dst (N := 15) rfl ?_); (try (refine gate_guard (by rfl) ?_; dsimp only)); refine box_event ?hg (N := 15) ?hd (cs := #[.int .i64 0, .int .i64 0]) (t := 26) ?hr ?_; (case hd => rfl); (case hg => rfl); (case hr => first | (go_simp; done) | (go_simp; rfl)); intro gb484 hg w97 hbox hb; have n0_ := zM (Kd.R_below (zR HO_8.out) hb); have n1_ := zM (Kd.R_below (zR HO_13.out) hb); have n2_ := zM (Kd.R_below (Kd.R_elderB (zR HO_108.out) gb484 (Nat.le_of_eq hg.symm)) hb); have n3_ := zM (blk_below (g := gb453) (o := .cells #[.int .i64 a2_0, .string a2_1] 44 (0, 0)) (zP BK453.out) hb); have n4_ := zM (below_step (zB1 GE453.out HB.out) hb); have n5_ := zM (hbox); have n6_ := zM ((by rw [hg]; exact (below_size (zB1 GE453.out HB.out)) : w.heap.size ≤ gb484)); have n7_ := zM ((by rw [hg]; exact (below_size (zB1 GE453.out HB.out)) : w.heap.size ≤ gb484)); have n8_ := zM ((by rw [hg]; exact Nat.ne_of_lt (blk_lt (g := gb453) (o := .cells #[.int .i64 a2_0, .string a2_1] 44 (0, 0)) (zP BK453.out)) : gb453 ≠ gb484)); have n9_ := zM ((by rw [hg]; exact Nat.ne_of_gt (blk_lt (g := gb453) (o := .cells #[.int .i64 a2_0, .string a2_1] 44 (0, 0)) (zP BK453.out)) : gb484 ≠ gb453)); clear HO_8; clear HO_13; clear HO_108; clear BK453; clear HB; have HO_8 := n0_; have HO_13 := n1_; have HO_108 := n2_; have BK453 := n3_; have HB := n4_; have BK484 := n5_; have GW484 := n6_; have GE484 := n7_; have NB453_484 := n8_; have NB484_453 := n9_; clear n0_ n1_ n2_ n3_ n4_ n5_ n6_ n7_ n8_ n9_; clear hb hbox hg; have hnb98 := NB484_453.out; have hnc98 := NB453_484.out; have hcz99_0 : w97.cell? ⟨gb484, 0, none⟩ = some (.int .i64 0) := (blk_cell BK484.out 0).trans rfl; have hcz99_1 : w97.cell? ⟨gb484, 1, none⟩ = some (.int .i64 0) := (blk_cell BK484.out 1).trans rfl; have hfz99_0 := blk_frozen BK484.out 0; have hfz99_1 := blk_frozen BK484.out 1))
                     have n0_ : Aside0 (Kd.R (Kd.int .u8) 5 ((w97.setCell ⟨gb484, 0, none⟩ (.int .i64 ((rd_T26 t480 x110_4).f0))).setCell ⟨gb484, 1, none⟩ (.int .i64 ((rd_T26 t480 x110_4).f1))) w.heap.size (fun _ => True) v459 x8_3) := ⟨by (with_reducible repeat (first | apply Kd.R_alloc | apply Kd.R_drewN | apply Kd.R_drew)); exact Kd.R_mono (Kd.R_far (p := ⟨gb484, 1, none⟩) (Kd.R_far (p := ⟨gb484, 0, none⟩) (Kd.R_types HO_8.out BK484.out (by decide)) (fun _ hk => hk.2) (.int .i64 ((rd_T26 t480 x110_4).f0))) (fun _ hk => hk.2) (.int .i64 ((rd_T26 t480 x110_4).f1))) (fun _ hk => trivial)⟩
                     have n1_ : Aside0 (Kd.R k44 44 ((w97.setCell ⟨gb484, 0, none⟩ (.int .i64 ((rd_T26 t480 x110_4).f0))).setCell ⟨gb484, 1, none⟩ (.int .i64 ((rd_T26 t480 x110_4).f1))) w.heap.size (fun k_ => k_ ≠ gb453) u13 x13_4) := ⟨by (with_reducible repeat (first | apply Kd.R_alloc | apply Kd.R_drewN | apply Kd.R_drew)); exact Kd.R_mono (Kd.R_far (p := ⟨gb484, 1, none⟩) (Kd.R_far (p := ⟨gb484, 0, none⟩) (Kd.R_types HO_13.out BK484.out (by decide)) (fun _ hk => hk.2) (.int .i64 ((rd_T26 t480 x110_4).f0))) (fun _ hk => hk.2) (.int .i64 ((rd_T26 t480 x110_4).f1))) (fun _ hk => hk.1)⟩
                     have n2_ : Aside0 (Kd.R k26 26 ((w97.setCell ⟨gb484, 0, none⟩ (.int .i64 ((rd_T26 t480 x110_4).f0))).setCell ⟨gb484, 1, none⟩ (.int .i64 ((rd_T26 t480 x110_4).f1))) w.heap.size (fun k_ => k_ ≠ gb484) (.slice (some ad483) t480.length co89) t480) := ⟨by (with_reducible repeat (first | apply Kd.R_alloc | apply Kd.R_drewN | apply Kd.R_drew)); exact Kd.R_mono (Kd.R_far (p := ⟨gb484, 1, none⟩) (Kd.R_far (p := ⟨gb484, 0, none⟩) (Kd.R_mono HO_108.out (fun k_ hk => (⟨hk, hk.2⟩ : _ ∧ k_ ≠ gb484))) (fun _ hk => hk.2) (.int .i64 ((rd_T26 t480 x110_4).f0))) (fun _ hk => hk.2) (.int .i64 ((rd_T26 t480 x110_4).f1))) (fun _ hk => hk.1.2)⟩
                     have n3_ : Aside0 (((w97.setCell ⟨gb484, 0, none⟩ (.int .i64 ((rd_T26 t480 x110_4).f0))).setCell ⟨gb484, 1, none⟩ (.int .i64 ((rd_T26 t480 x110_4).f1))).heap[gb453]? = some (.cells #[.int .i64 a2_0, .string a2_1] 44 (0, 0))) := ⟨by (with_reducible repeat (first | refine blk_drewN ?_ _ | refine blk_drew ?_ | refine blk_alloc ?_ _)); refine blk_far ?_ NB453_484.out _; (with_reducible repeat (first | refine blk_drewN ?_ _ | refine blk_drew ?_ | refine blk_alloc ?_ _)); refine blk_far ?_ NB453_484.out _; (with_reducible repeat (first | refine blk_drewN ?_ _ | refine blk_drew ?_ | refine blk_alloc ?_ _)); exact BK453.out⟩
                     have n4_ : Aside0 (((w97.setCell ⟨gb484, 0, none⟩ (.int .i64 ((rd_T26 t480 x110_4).f0))).setCell ⟨gb484, 1, none⟩ (.int .i64 ((rd_T26 t480 x110_4).f1))).heap[gb484]? = some (.cells #[.int .i64 ((rd_T26 t480 x110_4).f0), .int .i64 ((rd_T26 t480 x110_4).f1)] 26 (0, 0))) := ⟨by (with_reducible repeat (first | refine blk_drewN ?_ _ | refine blk_drew ?_ | refine blk_alloc ?_ _)); refine blk_put (cs := #[.int .i64 ((rd_T26 t480 x110_4).f0), .int .i64 0]) ?_ 1 _ rfl; (with_reducible repeat (first | refine blk_drewN ?_ _ | refine blk_drew ?_ | refine blk_alloc ?_ _)); refine blk_put (cs := #[.int .i64 0, .int .i64 0]) ?_ 0 _ rfl; (with_reducible repeat (first | refine blk_drewN ?_ _ | refine blk_drew ?_ | refine blk_alloc ?_ _)); exact BK484.out⟩
                     have n5_ : Aside0 (Below w.heap.size w ((w97.setCell ⟨gb484, 0, none⟩ (.int .i64 ((rd_T26 t480 x110_4).f0))).setCell ⟨gb484, 1, none⟩ (.int .i64 ((rd_T26 t480 x110_4).f1)))) := ⟨(zB2 GE453.out GE484.out HB.out)⟩
                     (try clear HO_8)
                     (try clear HO_13)
                     (try clear HO_108)
                     (try clear BK453)
                     (try clear BK484)
                     (try clear HB)
                     generalize ((w97.setCell ⟨gb484, 0, none⟩ (.int .i64 ((rd_T26 t480 x110_4).f0))).setCell ⟨gb484, 1, none⟩ (.int .i64 ((rd_T26 t480 x110_4).f1))) = w100 at n0_ n1_ n2_ n3_ n4_ n5_ ⊢
                     have HO_8 := n0_
                     have HO_13 := n1_
                     have HO_108 := n2_
                     have BK453 := n3_
                     have BK484 := n4_
                     have HB := n5_
                     clear n0_ n1_ n2_ n3_ n4_ n5_
                     have n0_ := zM (Kd.R_drew HO_8.out)
                     have n1_ := zM (Kd.R_drew HO_13.out)
                     have n2_ := zM (Kd.R_drew HO_108.out)
                     have n3_ := zM (blk_drew BK453.out)
                     have n4_ := zM (blk_drew BK484.out)
                     have n5_ := zM (below_drew1 HB.out)
                     clear HO_8
                     clear HO_13
                     clear HO_108
                     clear BK453
                     clear BK484
                     clear HB
                     have HO_8 := n0_
                     have HO_13 := n1_
                     have HO_108 := n2_
                     have BK453 := n3_
                     have BK484 := n4_
                     have HB := n5_
                     clear n0_ n1_ n2_ n3_ n4_ n5_
                     obtain ⟨Ao103, co103, eo103⟩ := Kd.R_slice HO_8.out
                     (first | subst eo103 | (injection eo103 with f1_ f2_ f3_; have f4_ := f1_.symm; have f5_ := f3_.symm; clear f1_ f2_ f3_; subst f4_; subst f5_))
                     have q102 : (((rd_T26 t480 x110_4).f1) : Int) ≤ ((x8_3.length : Int) : Int) := zD
                     obtain ⟨i0102, hi0102, _, hsz102, _⟩ := info_parts info5
                     have hroom102 : x8_3.length ≤ co103 := (Kd.R_reads' HO_8.out).2.1
                     have hC102 : Kd.C (Kd.int .u8) _ Ao103 x8_3.length x8_3 := (Kd.R_reads' HO_8.out).2.2
                     have ql102 : (((rd_T26 t480 x110_4).f0) : Int) ≤ (((rd_T26 t480 x110_4).f1) : Int) := zD
                     have q0102 : (0 : Int) ≤ (((rd_T26 t480 x110_4).f0) : Int) := zD
                     have hcut102 := cut_mid (P := Try.prog) 22 5 .i64 .i64 Try.underlying22 hi0102 1 hsz102 Ao103 x8_3.length co103 ((rd_T26 t480 x110_4).f0) ((rd_T26 t480 x110_4).f1) q0102 ql102 q102 hroom102
                     have hr102 := Kd.C_mid (lo := (((rd_T26 t480 x110_4).f0) : Int).toNat) (hi := (((rd_T26 t480 x110_4).f1) : Int).toNat) (c := co103) hC102 (by omega) (by omega) hroom102
                     obtain ⟨A102, hA102⟩ : ∃ A1, A1 = (if co103 = (((rd_T26 t480 x110_4).f0) : Int).toNat then Ao103 else (Ao103 : Option Addr).map (·.add ((((rd_T26 t480 x110_4).f0) : Int).toNat * 1))) := ⟨_, rfl⟩
                     obtain ⟨c102, hc102⟩ : ∃ c1, c1 = co103 - (((rd_T26 t480 x110_4).f0) : Int).toNat := ⟨_, rfl⟩
                     have hy102 : y485.length = (((rd_T26 t480 x110_4).f1) : Int).toNat - (((rd_T26 t480 x110_4).f0) : Int).toNat := (by rw [Ny485.out, List.length_drop, List.length_take] <;> omega)
                     rw [show ((x8_3).take (((rd_T26 t480 x110_4).f1) : Int).toNat).drop (((rd_T26 t480 x110_4).f0) : Int).toNat = y485 from Ny485.out.symm] at hr102
                     replace hr102 : Kd.C (Kd.int .u8) _ A102 y485.length y485 := (by rw [hA102]; exact hr102)
                     rw [← hy102, ← hA102, ← hc102] at hcut102
                     have HR488 := zM hr102
                     have HC488 := zM (show y485.length ≤ c102 from by rw [hy102, hc102]; exact Nat.sub_le_sub_right (Nat.le_trans (by omega) hroom102) _)
                     clear hr102 hC102 hroom102 hi0102 hsz102 hc102
                     have KY102 := zM hy102
                     have KA102 := zM hA102
                     clear hy102 hA102
                     have KL102 := zM (show (((rd_T26 t480 x110_4).f1) : Int).toNat ≤ x8_3.length from by omega)
                     have KM102 := zM (show (((rd_T26 t480 x110_4).f0) : Int).toNat ≤ (((rd_T26 t480 x110_4).f1) : Int).toNat from by omega)
                     replace q102 := eq_true q102
                     have hcv104 := Kd.C_string (P := Try.prog) (A := A102) (c := c102) Try.underlying22 Try.underlying5 Try.underlying9 (by repeat (first | (with_reducible exact HR488.out) | (with_reducible refine Kd.C_alloc ?_ _) | (with_reducible refine Kd.C_drewN ?_ _) | (with_reducible refine Kd.C_drew ?_) | exact HR488.out))
                     refine start_ (n := 14) (S := fun w' => w'.cell? ⟨gb484, 0, none⟩ = some (.int .i64 ((rd_T26 t480 x110_4).f0)) ∧ w'.cell? ⟨gb484, 1, none⟩ = some (.int .i64 ((rd_T26 t480 x110_4).f1)) ∧ (convert 22 9 (.slice A102 y485.length c102)).run Try.prog w' = .ok (.string (strOfNums y485)) w') (ds := [11, 12]) (ba 14 0).toArray (by kernel_rfl) rfl rfl ⟨(blk_cell BK484.out 0).trans rfl, (blk_cell BK484.out 1).trans rfl, hcv104⟩ (fun hHeld => ?_); refine with_tabW impl_AddPiece.tab21 impl_AddPiece.bits21 (fun HT_ HW_ => ?_)
                     generalize w100.drew = w101 at HO_8 HO_13 HO_108 BK453 BK484 HB HR488 hHeld ⊢
                     refine zq 0 (some 114) (ba 14 1).toArray HT_ ?_
                     refine zq 1 (some 115) (ba 14 3).toArray HT_ ?_
                     refine zq 3 (some 117) (ba 14 11).toArray HT_ ?_
                     refine zq 4 (some 118) (ba 14 27).toArray HT_ ?_
                     refine zq 6 (some 120) (ba 14 91).toArray HT_ ?_
                     refine zt3 2 (some 116) (ba 14 95).toArray HT_ HW_ hHeld ?_
                     refine zt3 5 (some 119) (ba 14 127).toArray HT_ HW_ hHeld ?_
                     refine zt3 7 (some 121) (ba 14 255).toArray HT_ HW_ hHeld ?_
                     refine zq 8 (some 122) (ba 14 511).toArray HT_ ?_
                     refine zt3 9 (some 123) (ba 14 1023).toArray HT_ HW_ hHeld ?_
                     refine zq 10 (some 124) (ba 14 2047).toArray HT_ ?_
                     refine last_ (i := 11) (N := some 125) (ba 14 4095).toArray rfl rfl (one_of HT_.out (by kernel_rfl)) (by decide) (fun K hK => ?_)
                     refine value_ (w1 := ?_) (v := ?_) (by rfl) rfl ?_ ?_
                     rotate_left 2
                     ·go_simp
                      constructor
                      ·rfl
                      ·rfl
                     refine hK.out _ _ ?_
                     clear hK K
                     refine norm_ (a' := ?_) ?_ ?_
                     rotate_left
                     ·show Act.put _ (some 125) _ = _
                      simp only [Act.put, List.setIfInBounds_toArray, List.set_cons_zero, List.set_cons_succ, i64_w, i32_w]
                      rfl
                     refine last_ (i := 12) (N := some 126) (ba 14 8191).toArray rfl rfl (one_of HT_.out (by kernel_rfl)) (by decide) (fun K hK => ?_)
                     refine Kd.R_append_step k44 (w0 := w) w.heap.size (by rfl) (.tmp 114) (.tmp 125) 40 44 (.agg #[(.int .i64 0), (.string ⟨#[]⟩)]) 24 rfl Try.underlying40 info44 rfl (by decide) (by omega) u13 x13_4 (⟨(rd_T26 t480 x110_4).f0, strOfNums y485⟩ : S44) [.int .i64 ((rd_T26 t480 x110_4).f0), .string (strOfNums y485)] (fun k_ => k_ ≠ gb453) (fun _ => False) rfl rfl ?aP (fun _ hk => hk.elim) ?aF ?aO ?aB ?aS ?aL ?_
                     (case aP => exact k44_mkM _ _ _ (⟨(rd_T26 t480 x110_4).f0, strOfNums y485⟩ : S44))
                     (case aB => exact (zB2 GE453.out GE484.out HB.out))
                     (case aF => exact (fun k_ hk => Kd.freshB (g := gb453) (o := .cells #[.int .i64 a2_0, .string a2_1] 44 (0, 0)) (zP BK453.out) k_ hk))
                     (case aO => exact (zR HO_13.out))
                     (case aS => exact (below_size (zB2 GE453.out GE484.out HB.out)))
                     (case aL => have := LMc96.out; omega)
                     intro v490 w105 ho hb hg hat
                     rw [← Ny489.out] at ho
                     have n0_ := zM (Kd.R_over' (zR HO_8.out) (Kd.R_typed (zR HO_13.out)) (by decide) hg)
                     have n1_ := zM (Kd.R_over' (zR HO_108.out) (Kd.R_typed (zR HO_13.out)) (by decide) hg)
                     have n2_ := zM (blk_grown (g := gb453) (o := .cells #[.int .i64 a2_0, .string a2_1] 44 (0, 0)) (zP BK453.out) hg (Kd.R_away HO_13.out (fun _ hk => hk)))
                     have n3_ := zM (blk_grown (g := gb484) (o := .cells #[.int .i64 ((rd_T26 t480 x110_4).f0), .int .i64 ((rd_T26 t480 x110_4).f1)] 26 (0, 0)) (zP BK484.out) hg (Kd.R_ne HO_13.out BK484.out (by decide)))
                     have n4_ := zM (hb)
                     have n5_ := zM ((show Kd.C (Kd.int .u8) w105 A102 y485.length y485 from by rw [Ny485.out, KA102.out]; exact Kd.C_mid (lo := (((rd_T26 t480 x110_4).f0) : Int).toNat) (hi := (((rd_T26 t480 x110_4).f1) : Int).toNat) (c := co103) ((Kd.R_reads' (Kd.R_over' (zR HO_8.out) (Kd.R_typed (zR HO_13.out)) (by decide) hg)).2.2) KM102.out KL102.out ((Kd.R_reads' (Kd.R_over' (zR HO_8.out) (Kd.R_typed (zR HO_13.out)) (by decide) hg)).2.1)))
                     have n6_ := zM (ho)
                     clear HO_8
                     clear HO_108
                     clear BK453
                     clear BK484
                     clear HB
                     clear HR488
                     clear HO_13
                     have HO_8 := n0_
                     have HO_108 := n1_
                     have BK453 := n2_
                     have BK484 := n3_
                     have HB := n4_
                     have HR488 := n5_
                     have HO491 := n6_
                     clear n0_ n1_ n2_ n3_ n4_ n5_ n6_
                     clear ho hb hg hat
                     refine hK.out _ _ ?_
                     clear hK K
                     refine norm_ (a' := ?_) ?_ ?_
                     rotate_left
                     ·show Act.put _ (some 126) _ = _
                      simp only [Act.put, List.setIfInBounds_toArray, List.set_cons_zero, List.set_cons_succ, i64_w, i32_w]
                      rfl
                     refine zq 13 (some 13) (ba 14 16383).toArray HT_ ?_
                     refine done_ (done_of HT_.out (by kernel_rfl)) ?_
                     try go_wp2
                     go_roundg k4
                     case measure => have := HJ3.out; have := HK2.out; have := HK3.out; have := HK4.out; omega
                     case rel => exact ⟨(y489), (wrap64 (x110_4 + 1)), zS, H', ⟨by have := HJ3.out; have := HK2.out; have := HK3.out; have := HK4.out; omega⟩, ⟨(zR HO_8.out)⟩, ⟨(zR HO491.out)⟩, ⟨(zRm HO_108.out (fun _ hk => trivial))⟩, ⟨(zP BK453.out)⟩, ⟨(zB2 GE453.out GE484.out HB.out)⟩⟩
                    ·rw [if_neg c96] at H
                     exact absurd H (by simp)
                   ·rw [if_neg c95] at H
                    exact absurd H (by simp)
                  ·rw [if_neg c94] at H
                   exact absurd H (by simp)
                 ·rw [if_neg c93] at H
                  exact absurd H (by simp)
                ·rw [if_neg c92] at H
                 exact absurd H (by simp)
               ·rw [if_neg c91] at H
                exact absurd H (by simp)
              ·rw [if_neg c90] at H
               have c90b0 : decide (x110_4 < (t480.length : Int)) = false := decide_eq_false c90
               clear c90
               by_cases c106 : (x13_4.length : Int) > 8
               ·rw [if_pos c106] at H
                have c106b0 : decide (8 < (x13_4.length : Int)) = true := decide_eq_true c106
                have c106b1 : decide (8 < x13_4.length) = true := decide_eq_true (by omega)
                clear c106
                replace H := Option.bind_eq_some_iff.mp H
                obtain ⟨t492, A1070, H⟩ := H
                try dsimp only at H
                have A107 := zM A1070
                clear A1070
                simp only [Option.some.injEq, Prod.mk.injEq] at H
                obtain ⟨rfl, rfl⟩ := H
                obtain ⟨Ao108, co108, eo108⟩ := Kd.R_slice HO_13.out
                subst eo108
                go_wp2_with (first | ((with_reducible refine gate_callee (f := 46) rfl ?_); refine zG (some 132) Try.func46 #[.slice A0 l0.length c0] ?_; (with_reducible refine (impl_Piece.calls _ _ l0 t492 _ ?side1 ?side2 A107.out).mono ?_); (case side1 => exact (zC (Kd.C_below HR0.out HB.out))); (case side2 => exact HC0.out); rintro e w109 ⟨v493, rfl, ho0, hb⟩; refine ⟨_, rfl, ?_⟩; have n0_ := zM (Kd.R_below (zR HO_8.out) hb); have n1_ := zM (Kd.R_elder' (zR HO_13.out) (Kd.R_base ho0) hb); have n2_ := zM (Kd.R_below (zR HO_108.out) hb); have n3_ := zM (Kd.R_lower (Kd.R_newB (Kd.R_new' ho0 (Kd.R_lt (zR HO_13.out))) (g := gb453) (o := .cells #[.int .i64 a2_0, .string a2_1] 44 (0, 0)) (zP BK453.out)) (below_size (zB1 GE453.out HB.out))); have n4_ := zM (blk_below (g := gb453) (o := .cells #[.int .i64 a2_0, .string a2_1] 44 (0, 0)) (zP BK453.out) hb); have n5_ := zM (below_step (zB1 GE453.out HB.out) hb); clear HO_8; clear HO_13; clear HO_108; clear BK453; clear HB; have HO_8 := n0_; have HO_13 := n1_; have HO_108 := n2_; have HO494 := n3_; have BK453 := n4_; have HB := n5_; clear n0_ n1_ n2_ n3_ n4_ n5_; (try clear hb); (try clear hb2); (try clear hk); (try clear hi); (try clear ho0)))
                go_ret2
                exact ⟨_, zE, (zRm HO494.out (fun _ hk => trivial)), (zB1 GE453.out HB.out)⟩
               ·rw [if_neg c106] at H
                have c106b0 : decide (8 < (x13_4.length : Int)) = false := decide_eq_false c106
                have c106b1 : decide (8 < x13_4.length) = false := decide_eq_false (by omega)
                clear c106
                simp only [Option.some.injEq, Prod.mk.injEq] at H
                obtain ⟨rfl, rfl⟩ := H
                obtain ⟨Ao110, co110, eo110⟩ := Kd.R_slice HO_13.out
                subst eo110
                go_wp2
                go_ret2
                exact ⟨_, zE, (zRm HO_13.out (fun _ hk => trivial)), (zB1 GE453.out HB.out)⟩
     ·rw [if_neg c21] at H
      exact absurd H (by simp)
    ·rw [if_neg c20] at H
     exact absurd H (by simp)

end Go.Proofs.Yteahdfibipalkaa.G
