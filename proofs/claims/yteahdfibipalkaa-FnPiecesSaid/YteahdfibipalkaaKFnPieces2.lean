/- Texts for: FnPieces holds for every input, without a condition: adding pieces keeps and reads back every byte, in any order. -/
import Derived.Test.YteahdfibipalkaaKFnPieces0
import Derived.Test.YteahdfibipalkaaKFnPieces1

namespace Go.Proofs.Yteahdfibipalkaa.G
open Go.RowKit Go.Proofs.YteahdfibipalkaaW.PrintWords Go.Proofs.YteahdfibipalkaaW.PrintLast Go.Proofs.YteahdfibipalkaaW.PrintMore
attribute [local go_sem] max2_int min2_int max_two min_two max_three min_three max_four min_four   -- for this text's walks alone
set_option linter.unusedVariables false
set_option linter.unusedSimpArgs false

theorem encB_bytes (s : ByteArray) : encB s = (bytesOf s).map (Value.int .u8) := by unfold encB bytesOf; rw [List.map_map]; rfl
theorem encB_length (s : ByteArray) : (encB s).length = s.size := by rw [encB_bytes, List.length_map]; exact bytesOf_length s
theorem inner_eq {w : World} {base : Nat} {ok : Nat → Prop} {xs : List Int} {inner : List Value} (hl : inner.length = xs.length * 1) (hr : Reps ((Kd.int .u8).M w base ok) 1 xs inner) : inner = xs.map (Value.int .u8) := by
 apply List.ext_getElem
 ·simp [hl]
 ·intro j h1 h2
  have h3 : j < xs.length := by simpa using h2
  have h4 := hr.2 j _ (List.getElem?_eq_getElem h3)
  have h5 : (inner.drop (j * 1)).take 1 = [Value.int .u8 xs[j]] := h4
  rw [Nat.mul_one, List.drop_eq_getElem_cons h1] at h5
  simp only [List.take_succ_cons, List.take_zero, List.cons.injEq, and_true] at h5
  rw [h5, List.getElem_map]
theorem reps_map {w : World} {base : Nat} {ok : Nat → Prop} (xs : List Int) : Reps ((Kd.int .u8).M w base ok) 1 xs (xs.map (Value.int .u8)) := by
 refine ⟨by simp, fun j p hj => ?_⟩
 obtain ⟨h, e⟩ := List.getElem?_eq_some_iff.1 hj
 show (List.drop (j * 1) _).take 1 = [Value.int .u8 p]
 rw [Nat.mul_one, List.drop_eq_getElem_cons (by simpa using h)]
 simp [e]
theorem splice_take {α : Type} (a b v : List α) (lo n : Nat) (ha : a.length = n) (h : lo + v.length ≤ n) : ((a ++ b).take lo ++ v ++ (a ++ b).drop (lo + v.length)).take n = a.take lo ++ v ++ a.drop (lo + v.length) := by
 rw [show (a ++ b).take lo = a.take lo from List.take_append_of_le_length (by omega), show (a ++ b).drop (lo + v.length) = a.drop (lo + v.length) ++ b from List.drop_append_of_le_length (by omega), ← List.append_assoc]
 exact List.take_left' (by simp; omega)
theorem R_copy {w : World} {base g cap lo : Nat} {ok : Nat → Prop} {xs : List Int} (h : Kd.R (Kd.int .u8) 5 w base ok (.slice (some ⟨g, 0, none⟩) xs.length cap) xs) (s : ByteArray) (hfit : lo + s.size ≤ xs.length) (hp : 0 < s.size) :
  Kd.R (Kd.int .u8) 5 (w.setCells g lo (encB s)) base ok (.slice (some ⟨g, 0, none⟩) xs.length cap) (xs.take lo ++ bytesOf s ++ xs.drop (lo + s.size)) := by
 obtain ⟨h0, inner, ⟨hl, ho⟩, hr⟩ := h
 have hsz : (Kd.int .u8).sz = 1 := rfl
 rw [hsz] at hl ho hr
 obtain rfl := inner_eq hl hr
 have hlen : (xs.take lo ++ bytesOf s ++ xs.drop (lo + s.size)).length = xs.length := by
  have : (bytesOf s).length = s.size := bytesOf_length s
  simp [this]; omega
 refine ⟨h0, (xs.take lo ++ bytesOf s ++ xs.drop (lo + s.size)).map (Value.int .u8), ?_, reps_map _⟩
 rw [hlen, hsz]
 refine ⟨by rw [List.length_map, hlen, Nat.mul_one], ?_⟩
 rcases ho with ⟨h1, h2⟩ | ⟨g', cap', cur, he, hb, hh, hn, hc, hz, ht⟩
 ·omega
 ·injection he with e1 e2 e3
  injection e1 with e1
  injection e1 with e1
  subst e1; subst e3
  right
  obtain ⟨cur', k1, k2, k3⟩ := setCells_row (encB s) lo w cur hh (by rw [encB_length]; omega)
  refine ⟨g, cap, cur', rfl, hb, k1, hn, hc, by rw [k2, hz], ?_⟩
  have e : cur.toList = xs.map (Value.int .u8) ++ cur.toList.drop xs.length := by
   have := List.take_append_drop (xs.length * 1) cur.toList
   rw [ht, Nat.mul_one] at this
   exact this.symm
  rw [k3, e, encB_bytes, Nat.mul_one, splice_take (xs.map (Value.int .u8)) _ _ lo xs.length (by simp) (by rw [List.length_map, bytesOf_length]; exact hfit)]
  rw [List.length_map, bytesOf_length]
  simp
theorem copyAt_inv {l : List Int} {lo : Int} {s : ByteArray} {r : List Int} (h : copyAt.f l lo s = some r) : ∃ m : Nat, lo = (m : Int) ∧ 0 < s.size ∧ m + s.size ≤ l.length ∧ r = l.take m ++ bytesOf s ++ l.drop (m + s.size) := by
 unfold copyAt.f at h
 by_cases c : 0 ≤ lo
 ·rw [if_pos c] at h
  by_cases c1 : 0 < s.size
  ·rw [if_pos c1] at h
   by_cases c2 : lo + (s.size : Int) ≤ (l.length : Int)
   ·rw [if_pos c2] at h
    obtain ⟨m, rfl⟩ := Int.eq_ofNat_of_zero_le c
    refine ⟨m, rfl, c1, by omega, ?_⟩
    rw [Int.toNat_natCast] at h
    exact (Option.some.inj h).symm
   ·rw [if_neg c2] at h; cases h
  ·rw [if_neg c1] at h; cases h
 ·rw [if_neg c] at h; cases h
theorem slice_at {P : Program} {t e : TypeId} (ht : P.underlying t = some (.slice e)) (hz : ∀ w, (Go.sizeOf e).run P w = .ok 1 w) (g n c m : Nat) (W : World) (h1 : m ≤ n) (h2 : m < c) :
  (Instr.slice t (.slice (some ⟨g, 0, none⟩) n c) (some (.int .i64 (m : Int))) none none).run P W = .ok (.slice (some ⟨g, m, none⟩) (n - m) (c - m)) W := by
 have hel : P.elem t = e := by simp [Program.elem, ht]
 have hu : P.underlying t = some (.slice (P.elem t)) := by rw [hel]; exact ht
 rw [run_slice_l W t (some ⟨g, 0, none⟩) n c hu .i64 (m : Int) (Int.natCast_nonneg _) (by omega), hel, hz]
 have ha : (⟨g, 0, none⟩ : Addr).add m = ⟨g, m, none⟩ := by unfold Addr.add; split <;> simp_all
 simp only [Result.andThen, sliced, Int.toNat_natCast, Nat.mul_one]
 rw [if_neg (by omega)]
 simp [ha]
theorem copy_at {P : Program} {w : World} {base g cap lo : Nat} {ok : Nat → Prop} {xs : List Int} (ht : P.underlying 22 = some (.slice 5)) (hz : ∀ w, (Go.sizeOf 5).run P w = .ok 1 w) (h : Kd.R (Kd.int .u8) 5 w base ok (.slice (some ⟨g, 0, none⟩) xs.length cap) xs) (s : ByteArray) (hfit : lo + s.size ≤ xs.length) :
  (Builtin.copy_ #[22, 9] 3 #[.slice (some ⟨g, lo, none⟩) (xs.length - lo) (cap - lo), .string s]).run P w = .ok (goInt s.size) (w.setCells g lo (encB s)) := by
 obtain ⟨h0, inner, ⟨hl, ho⟩, hr⟩ := h
 have hsz : (Kd.int .u8).sz = 1 := rfl
 rw [hsz] at hl ho hr
 rcases ho with ⟨h1, h2⟩ | ⟨g', cap', cur, he, hb, hh, hn, hc, hz', htk⟩
 ·cases h1
 ·injection he with e1 e2 e3
  injection e1 with e1
  injection e1 with e1
  subst e1; subst e3
  exact run_copy_string w 22 9 3 5 g lo _ _ s ht hz (by omega) (fun j hj => by rw [blk_cell hh]; simp; omega) (fun j hj => blk_frozen hh (lo + j))
theorem blk_other {w : World} {g1 g2 : Nat} {c1 c2 : Array Value} {t1 t2 : TypeId} (h1 : w.heap[g1]? = some (.cells c1 t1 (0, 0))) (h2 : w.heap[g2]? = some (.cells c2 t2 (0, 0))) (hne : t1 ≠ t2) : g1 ≠ g2 := by
 intro e
 subst e
 rw [h1] at h2
 injection h2 with h2
 injection h2 with _ h2
 exact hne h2
/-! ### impl_AddPiece: function 23 -/
def impl_AddPiece.T13 : Bool × List (List Nat × List Nat) := (true, [([], []), ([0], [0]), ([], []), ([], []), ([3], [3]), ([2, 4], [2, 4]), ([1, 5, 1], [1, 5]), ([6, 6], [6]), ([7], [7]), ([7], [7]), ([8, 9, 7], [7, 8, 9]), ([10, 7], [7, 10]), ([7], [7]), ([12, 7], [7, 12]), ([7], [7]), ([13, 14, 7], [7, 13, 14]), ([11, 15, 7], [7, 11, 15]), ([7, 16], [7, 16])])
def impl_AddPiece.B13 : List Nat := [0, 1, 0, 0, 8, 28, 63, 127, 255, 255, 1023, 2047, 255, 4351, 255, 28927, 65535, 131071]
theorem impl_AddPiece.tab13 : rtab .any (opsOf Try.f23 13) = impl_AddPiece.T13 := by kernel_rfl
theorem impl_AddPiece.bits13 : waitsOk impl_AddPiece.T13.2 impl_AddPiece.B13 = true := by kernel_rfl
def impl_AddPiece.T18 : Bool × List (List Nat × List Nat) := (true, [([], []), ([0], [0]), ([], []), ([2], [2]), ([], []), ([4], [4]), ([], []), ([6], [6]), ([7], [7]), ([5, 8], [5, 8]), ([3, 9], [3, 9]), ([1, 10, 1], [1, 10]), ([11], [11]), ([], [])])
def impl_AddPiece.B18 : List Nat := [0, 1, 0, 4, 0, 16, 0, 64, 192, 496, 1020, 2047, 4095, 0]
theorem impl_AddPiece.tab18 : rtab .any (opsOf Try.f23 18) = impl_AddPiece.T18 := by kernel_rfl
theorem impl_AddPiece.bits18 : waitsOk impl_AddPiece.T18.2 impl_AddPiece.B18 = true := by kernel_rfl
def impl_AddPiece.T21 : Bool × List (List Nat × List Nat) := (true, [([], []), ([], []), ([1], [1]), ([], []), ([], []), ([4], [4]), ([], []), ([6], [6]), ([3, 5, 7], [3, 5, 7]), ([8], [8]), ([2, 9], [2, 9]), ([10], [10]), ([0, 11], [0, 11]), ([12, 12, 0, 1, 2, 3, 4, 5, 6, 7, 8, 9, 10, 11, 12], [0, 12])])
def impl_AddPiece.B21 : List Nat := [0, 0, 2, 0, 0, 16, 0, 64, 248, 504, 1022, 2046, 4095, 8191]
theorem impl_AddPiece.tab21 : rtab .any (opsOf Try.f23 21) = impl_AddPiece.T21 := by kernel_rfl
theorem impl_AddPiece.bits21 : waitsOk impl_AddPiece.T21.2 impl_AddPiece.B21 = true := by kernel_rfl
set_option maxHeartbeats 8000000 in
set_option maxRecDepth 100000 in
theorem impl_AddPiece.calls (k : Nat) (A0 : Option Addr) (c0 : Nat) (l0 : List (S44)) (a1 : Int) (a2_0 : Int) (a2_1 : ByteArray) (r1 : List (S44)) (r2 : Bool) (w : World) (hr0 : Kd.C k44 w A0 l0.length l0) (hc0 : l0.length ≤ c0) (h : impl_AddPiece.f k l0 a1 a2_0 a2_1 = some (r1, r2)) :
  Calls Try.prog 23 #[.slice A0 l0.length c0, .int .i64 a1, .agg #[.int .i64 a2_0, .string a2_1]] w fun e w' => ∃ v0_ : Value, e = .returned (.tuple #[v0_, .bool r2]) ∧ Kd.R k44 44 w' w.heap.size (fun _ => True) v0_ r1 ∧ Below w.heap.size w w' := by
 have hu44 := Try.underlying44
 have hu26 := Try.underlying26
 have HR0 := zM hr0
 have HC0 := zM hc0
 clear hr0 hc0
 have HB := zM (Below.refl w.heap.size w)
 have H : ((impl_ArePieces.f k l0 a1).bind fun t454 => (if t454 = true then (if a2_1.toList = ([] : List UInt8) then (impl_AddPiece.j0 k l0 a1 true a2_0 a2_1) else (if a2_0 < 0 then (impl_AddPiece.j0 k l0 a1 true a2_0 a2_1) else (impl_AddPiece.j0 k l0 a1 (decide (a2_0 > (wrap64 (a1 - (a2_1.size : Int))))) a2_0 a2_1))) else (impl_AddPiece.j0 k l0 a1 true a2_0 a2_1))) = some (r1, r2) := h
 clear h
 have HC4 := zM H
 clear H
 go_enter Try.func23, Try.ntmps23
 go_upto_region 1 with (first | ((with_reducible refine gate_dst (N := 5) rfl ?_); (try (refine gate_guard (by rfl) ?_; dsimp only)); refine box_event ?hg (N := 5) ?hd (cs := #[.int .i64 a2_0, .string a2_1]) (t := 44) ?hr ?_; (case hd => rfl); (case hg => rfl); (case hr => first | (go_simp; done) | (go_simp; rfl)); intro gb453 hg w5 hbox hb; have n0_ := zM (below_step (zB HB.out) hb); have n1_ := zM (hbox); have n2_ := zM ((by rw [hg]; exact (below_size (zB HB.out)) : w.heap.size ≤ gb453)); have n3_ := zM ((by rw [hg]; exact (below_size (zB HB.out)) : w.heap.size ≤ gb453)); clear HB; have HB := n0_; have BK453 := n1_; have GW453 := n2_; have GE453 := n3_; clear n0_ n1_ n2_ n3_; clear hb hbox hg))
 (try simp only [Act.put, List.setIfInBounds_toArray, List.set_cons_zero, List.set_cons_succ])
 go_cut [39] (fun v39 wc => ∃ (kq : Nat) (x39_3 : Bool), v39 = .bool x39_3 ∧ Aside0 (impl_AddPiece.j0 kq l0 a1 x39_3 a2_0 a2_1 = some (r1, r2)) ∧ Aside0 (kq ≤ k) ∧ Aside0 (wc.heap[gb453]? = some (.cells #[.int .i64 a2_0, .string a2_1] 44 (0, 0))) ∧ Aside0 (Below w.heap.size w wc))
 case first =>
  have H := HC4.out
  clear HC4
  replace H := Option.bind_eq_some_iff.mp H
  obtain ⟨t454, A60, H⟩ := H
  try dsimp only at H
  have A6 := zM A60
  clear A60
  by_cases c7 : t454 = true
  ·subst c7
   rw [if_pos rfl] at H
   by_cases c8 : a2_1.toList = ([] : List UInt8)
   ·rw [if_pos c8] at H
    have c8b0 : (a2_1.toList == ([] : List UInt8)) = true := beq_iff_eq.mpr c8
    have c8b1 : (a2_1.toList != ([] : List UInt8)) = false := bne_eq_false_iff_eq.mpr c8
    clear c8
    (first | rw [c8b0] | (simp only [i64_w, i32_w]; rw [c8b0]) | skip)
    have H' := zM H
    clear H
    go_wp2_with (first | ((with_reducible refine gate_callee (f := 45) rfl ?_); refine zG (some 18) Try.func45 #[.slice A0 l0.length c0, .int .i64 a1] ?_; (with_reducible refine (impl_ArePieces.calls k _ _ l0 a1 true _ ?side1 ?side2 A6.out).mono ?_); (case side1 => exact (zC (Kd.C_below HR0.out HB.out))); (case side2 => exact HC0.out); rintro e w9 ⟨rfl, hb⟩; refine ⟨_, rfl, ?_⟩; have n0_ := zM (blk_below (g := gb453) (o := .cells #[.int .i64 a2_0, .string a2_1] 44 (0, 0)) (zP BK453.out) hb); have n1_ := zM (below_step (zB1 GE453.out HB.out) hb); clear BK453; clear HB; have BK453 := n0_; have HB := n1_; clear n0_ n1_; (try clear hb); (try clear hb2); (try clear hk); (try clear hi); have hcz10_0 : w9.cell? ⟨gb453, 0, none⟩ = some (.int .i64 a2_0) := (blk_cell BK453.out 0).trans rfl; have hcz10_1 : w9.cell? ⟨gb453, 1, none⟩ = some (.string a2_1) := (blk_cell BK453.out 1).trans rfl; have hfz10_0 := blk_frozen BK453.out 0; have hfz10_1 := blk_frozen BK453.out 1))
    go_meet
    case rel => exact ⟨_, (true), zS, H', ⟨by first | omega | exact Nat.le_refl _⟩, ⟨(zP BK453.out)⟩, ⟨(zB1 GE453.out HB.out)⟩⟩
   ·rw [if_neg c8] at H
    have c8b0 : (a2_1.toList == ([] : List UInt8)) = false := beq_eq_false_iff_ne.mpr c8
    have c8b1 : (a2_1.toList != ([] : List UInt8)) = true := bne_iff_ne.mpr c8
    (first | rw [c8b0] | (simp only [i64_w, i32_w]; rw [c8b0]) | skip)
    by_cases c11 : a2_0 < 0
    ·rw [if_pos c11] at H
     have c11b0 : decide (a2_0 < 0) = true := decide_eq_true c11
     clear c11
     have H' := zM H
     clear H
     go_wp2_with (first | ((with_reducible refine gate_callee (f := 45) rfl ?_); refine zG (some 18) Try.func45 #[.slice A0 l0.length c0, .int .i64 a1] ?_; (with_reducible refine (impl_ArePieces.calls k _ _ l0 a1 true _ ?side1 ?side2 A6.out).mono ?_); (case side1 => exact (zC (Kd.C_below HR0.out HB.out))); (case side2 => exact HC0.out); rintro e w12 ⟨rfl, hb⟩; refine ⟨_, rfl, ?_⟩; have n0_ := zM (blk_below (g := gb453) (o := .cells #[.int .i64 a2_0, .string a2_1] 44 (0, 0)) (zP BK453.out) hb); have n1_ := zM (below_step (zB1 GE453.out HB.out) hb); clear BK453; clear HB; have BK453 := n0_; have HB := n1_; clear n0_ n1_; (try clear hb); (try clear hb2); (try clear hk); (try clear hi); have hcz13_0 : w12.cell? ⟨gb453, 0, none⟩ = some (.int .i64 a2_0) := (blk_cell BK453.out 0).trans rfl; have hcz13_1 : w12.cell? ⟨gb453, 1, none⟩ = some (.string a2_1) := (blk_cell BK453.out 1).trans rfl; have hfz13_0 := blk_frozen BK453.out 0; have hfz13_1 := blk_frozen BK453.out 1))
     go_meet
     case rel => exact ⟨_, (true), zS, H', ⟨by first | omega | exact Nat.le_refl _⟩, ⟨(zP BK453.out)⟩, ⟨(zB1 GE453.out HB.out)⟩⟩
    ·rw [if_neg c11] at H
     have c11b0 : decide (a2_0 < 0) = false := decide_eq_false c11
     clear c11
     have H' := zM H
     clear H
     go_wp2_with (first | ((with_reducible refine gate_callee (f := 45) rfl ?_); refine zG (some 18) Try.func45 #[.slice A0 l0.length c0, .int .i64 a1] ?_; (with_reducible refine (impl_ArePieces.calls k _ _ l0 a1 true _ ?side1 ?side2 A6.out).mono ?_); (case side1 => exact (zC (Kd.C_below HR0.out HB.out))); (case side2 => exact HC0.out); rintro e w14 ⟨rfl, hb⟩; refine ⟨_, rfl, ?_⟩; have n0_ := zM (blk_below (g := gb453) (o := .cells #[.int .i64 a2_0, .string a2_1] 44 (0, 0)) (zP BK453.out) hb); have n1_ := zM (below_step (zB1 GE453.out HB.out) hb); clear BK453; clear HB; have BK453 := n0_; have HB := n1_; clear n0_ n1_; (try clear hb); (try clear hb2); (try clear hk); (try clear hi); have hcz15_0 : w14.cell? ⟨gb453, 0, none⟩ = some (.int .i64 a2_0) := (blk_cell BK453.out 0).trans rfl; have hcz15_1 : w14.cell? ⟨gb453, 1, none⟩ = some (.string a2_1) := (blk_cell BK453.out 1).trans rfl; have hfz15_0 := blk_frozen BK453.out 0; have hfz15_1 := blk_frozen BK453.out 1))
     go_meet
     case rel => exact ⟨_, (decide (a2_0 > (wrap64 (a1 - (a2_1.size : Int))))), zS, H', ⟨by first | omega | exact Nat.le_refl _⟩, ⟨(zP BK453.out)⟩, ⟨(zB1 GE453.out HB.out)⟩⟩
  ·replace c7 := Bool.eq_false_iff.mpr c7
   subst c7
   rw [if_neg (show ¬ (false = true) by decide)] at H
   have H' := zM H
   clear H
   go_wp2_with (first | ((with_reducible refine gate_callee (f := 45) rfl ?_); refine zG (some 18) Try.func45 #[.slice A0 l0.length c0, .int .i64 a1] ?_; (with_reducible refine (impl_ArePieces.calls k _ _ l0 a1 false _ ?side1 ?side2 A6.out).mono ?_); (case side1 => exact (zC (Kd.C_below HR0.out HB.out))); (case side2 => exact HC0.out); rintro e w16 ⟨rfl, hb⟩; refine ⟨_, rfl, ?_⟩; have n0_ := zM (blk_below (g := gb453) (o := .cells #[.int .i64 a2_0, .string a2_1] 44 (0, 0)) (zP BK453.out) hb); have n1_ := zM (below_step (zB1 GE453.out HB.out) hb); clear BK453; clear HB; have BK453 := n0_; have HB := n1_; clear n0_ n1_; (try clear hb); (try clear hb2); (try clear hk); (try clear hi)))
   go_meet
   case rel => exact ⟨_, (true), zS, H', ⟨by first | omega | exact Nat.le_refl _⟩, ⟨(zP BK453.out)⟩, ⟨(zB1 GE453.out HB.out)⟩⟩
 case rest =>
  clear HC4
  try clear c1
  try clear c2
  try clear p2
  try clear c4
  try clear p6
  try clear c7
  try clear c8
  try clear c8b0
  try clear c8b1
  try clear c11
  try clear c11b0
  try clear hcz10_0
  try clear hcz10_1
  try clear hcz13_0
  try clear hcz13_1
  try clear hcz15_0
  try clear hcz15_1
  try clear hfz10_0
  try clear hfz10_1
  try clear hfz13_0
  try clear hfz13_1
  try clear hfz15_0
  try clear hfz15_1
  obtain ⟨kq, x39_3, rfl, HA, HJ3, BK453, HB⟩ := hcut
  cases kq with
  | zero => exact absurd HA.out (by simp [impl_AddPiece.j0])
  | succ kj3 =>
   have H := HA.out
   clear HA
   simp only [impl_AddPiece.j0] at H
   by_cases c17 : x39_3 = true
   ·subst c17
    rw [if_pos rfl] at H
    replace H := Option.bind_eq_some_iff.mp H
    obtain ⟨t455, A180, H⟩ := H
    try dsimp only at H
    have A18 := zM A180
    clear A180
    simp only [Option.some.injEq, Prod.mk.injEq] at H
    obtain ⟨rfl, rfl⟩ := H
    go_wp2_with (first | ((with_reducible refine gate_callee (f := 46) rfl ?_); refine zG (some 41) Try.func46 #[.slice A0 l0.length c0] ?_; (with_reducible refine (impl_Piece.calls _ _ l0 t455 _ ?side1 ?side2 A18.out).mono ?_); (case side1 => exact (zC (Kd.C_below HR0.out HB.out))); (case side2 => exact HC0.out); rintro e w19 ⟨v456, rfl, ho0, hb⟩; refine ⟨_, rfl, ?_⟩; have n0_ := zM (Kd.R_lower (Kd.R_newB ho0 (g := gb453) (o := .cells #[.int .i64 a2_0, .string a2_1] 44 (0, 0)) (zP BK453.out)) (below_size (zB1 GE453.out HB.out))); have n1_ := zM (blk_below (g := gb453) (o := .cells #[.int .i64 a2_0, .string a2_1] 44 (0, 0)) (zP BK453.out) hb); have n2_ := zM (below_step (zB1 GE453.out HB.out) hb); clear BK453; clear HB; have HO457 := n0_; have BK453 := n1_; have HB := n2_; clear n0_ n1_ n2_; (try clear hb); (try clear hb2); (try clear hk); (try clear hi); (try clear ho0)))
    go_ret2
    exact ⟨_, zE, (zRm HO457.out (fun _ hk => trivial)), (zB1 GE453.out HB.out)⟩
   ·replace c17 := Bool.eq_false_iff.mpr c17
    subst c17
    rw [if_neg (show ¬ (false = true) by decide)] at H
    by_cases c20 : 0 ≤ a1
    ·rw [if_pos c20] at H
     have c20b0 := eq_true c20
     have c20b1 : decide (0 ≤ a1) = true := decide_eq_true c20
     clear c20
     by_cases c21 : (a1 : Int).toNat ≤ 281474976710656
     ·rw [if_pos c21] at H
      have c21b0 := eq_true c21
      have c21b1 : decide ((a1 : Int).toNat ≤ 281474976710656) = true := decide_eq_true c21
      clear c21
      obtain ⟨y458, hy458⟩ : ∃ y_ : List Int, y_ = (List.replicate (a1 : Int).toNat 0) := ⟨_, rfl⟩
      replace H : (impl_AddPiece.l0 kj3 l0 y458 l0 (l0.length : Int) 0 a2_0 a2_1) = some (r1, r2) := zH hy458 H
      have Ny458 := zM hy458
      clear hy458
      have H' := zM H
      clear H
      go_wp2_with (first | ((with_reducible refine gate_dst (N := 43) rfl ?_); (try (refine gate_guard (by rfl) ?_; dsimp only)); refine Kd.R_make (Kd.int .u8) _ 5 rfl (N := 43) rfl 22 _ _ rfl a1 rfl rfl Try.underlying22 (.int .u8 0) 1 info5 rfl (by decide) (by omega) 0 (ok := fun _ => True) (okp := fun _ => True) rfl (fun _ hk => hk) trivial (zD) (Nat.le_trans (Nat.mul_le_mul_right _ (zD : a1.toNat ≤ 281474976710656)) (by omega)) (Below.refl _ _) (Nat.le_refl _) ?_; intro v459 w22 ho23 hb hg_ hnew_; clear hg_ hnew_; (first | rw [← Ny458.out] at ho23 | (simp only [Int.reduceToNat] at ho23; rw [← Ny458.out] at ho23)); have n0_ := zM (Kd.R_lower ho23 (below_size (zB1 GE453.out HB.out))); have n1_ := zM (blk_below (g := gb453) (o := .cells #[.int .i64 a2_0, .string a2_1] 44 (0, 0)) (zP BK453.out) hb); have n2_ := zM (below_step (zB1 GE453.out HB.out) hb); clear BK453; clear HB; have HO460 := n0_; have BK453 := n1_; have HB := n2_; clear n0_ n1_ n2_; clear hb ho23))
      go_loopg [46] kj3 (fun kq v46 w' => ∃ (x8_2 : List Int) (x46_2 : Int), v46 = .int .i64 x46_2 ∧ Aside0 (impl_AddPiece.l0 kq l0 x8_2 l0 (l0.length : Int) x46_2 a2_0 a2_1 = some (r1, r2)) ∧ Aside0 (kq ≤ kj3) ∧ Aside0 (Kd.R (Kd.int .u8) 5 w' w.heap.size (fun _ => True) v459 x8_2) ∧ Aside0 (w'.heap[gb453]? = some (.cells #[.int .i64 a2_0, .string a2_1] 44 (0, 0))) ∧ Aside0 (Below w.heap.size w w'))
      case atStart => exact ⟨(y458), (0), zS, H', ⟨Nat.le_refl _⟩, ⟨(zR HO460.out)⟩, ⟨(zP BK453.out)⟩, ⟨(zB1 GE453.out HB.out)⟩⟩
      case round =>
       clear H'
       try clear c1
       try clear c2
       try clear p2
       try clear c4
       try clear p6
       try clear c7
       try clear c8
       try clear c8b0
       try clear c8b1
       try clear c11
       try clear c11b0
       try clear c17
       try clear c20
       try clear c20b0
       try clear c20b1
       try clear c21
       try clear c21b0
       try clear c21b1
       try clear c23
       try clear hcz10_0
       try clear hcz10_1
       try clear hcz13_0
       try clear hcz13_1
       try clear hcz15_0
       try clear hcz15_1
       try clear hfz10_0
       try clear hfz10_1
       try clear hfz13_0
       try clear hfz13_1
       try clear hfz15_0
       try clear hfz15_1
       try clear p2
       try clear p6
       obtain ⟨x8_2, x46_2, rfl, HA, HK2, HO_8, BK453, HB⟩ := hrel
       cases gk with
       | zero => exact absurd HA.out (by simp [impl_AddPiece.l0])
       | succ k2 =>
        have H := HA.out
        clear HA
        simp only [impl_AddPiece.l0] at H
        by_cases c24 : x46_2 < (l0.length : Int)
        ·rw [if_pos c24] at H
         have c24b0 : decide (x46_2 < (l0.length : Int)) = true := decide_eq_true c24
         clear c24
         by_cases c25 : 0 ≤ x46_2
         ·rw [if_pos c25] at H
          have c25b0 : decide (0 ≤ x46_2) = true := decide_eq_true c25
          clear c25
          by_cases c26 : x46_2 < (l0.length : Int)
          ·rw [if_pos c26] at H
           have c26b0 : decide (x46_2 < (l0.length : Int)) = true := decide_eq_true c26
           clear c26
           replace H := Option.bind_eq_some_iff.mp H
           obtain ⟨t463, A270, H⟩ := H
           try dsimp only at H
           have A27 := zM A270
           clear A270
           have H' := zM H
           clear H
           have p461 : 0 ≤ (x46_2 : Int) := zD
           have q461 : x46_2 < (l0.length : Int) := zD
           obtain ⟨ad461, e461, hx461_0, hx461_1⟩ := at_T44 HR0.out x46_2 p461 q461
           cases e461
           replace hx461_0 := (HB.out.cell (World.block_lt_of_cell? w _ hx461_0)).trans hx461_0
           replace hx461_1 := (HB.out.cell (World.block_lt_of_cell? w _ hx461_1)).trans hx461_1
           replace p461 := eq_true p461
           replace q461 := eq_true q461
           go_wp2_with (first | ((with_reducible refine gate_dst (N := 10) rfl ?_); (try (refine gate_guard (by rfl) ?_; dsimp only)); refine box_event ?hg (N := 10) ?hd (cs := #[.int .i64 0, .string (⟨#[]⟩ : ByteArray)]) (t := 44) ?hr ?_; (case hd => rfl); (case hg => rfl); (case hr => first | (go_simp; done) | (go_simp; rfl)); intro gb462 hg w28 hbox hb; have n0_ := zM (Kd.R_below (zR HO_8.out) hb); have n1_ := zM (blk_below (g := gb453) (o := .cells #[.int .i64 a2_0, .string a2_1] 44 (0, 0)) (zP BK453.out) hb); have n2_ := zM (below_step (zB1 GE453.out HB.out) hb); have n3_ := zM (hbox); have n4_ := zM ((by rw [hg]; exact (below_size (zB1 GE453.out HB.out)) : w.heap.size ≤ gb462)); have n5_ := zM ((by rw [hg]; exact (below_size (zB1 GE453.out HB.out)) : w.heap.size ≤ gb462)); have n6_ := zM ((by rw [hg]; exact Nat.ne_of_lt (blk_lt (g := gb453) (o := .cells #[.int .i64 a2_0, .string a2_1] 44 (0, 0)) (zP BK453.out)) : gb453 ≠ gb462)); have n7_ := zM ((by rw [hg]; exact Nat.ne_of_gt (blk_lt (g := gb453) (o := .cells #[.int .i64 a2_0, .string a2_1] 44 (0, 0)) (zP BK453.out)) : gb462 ≠ gb453)); clear HO_8; clear BK453; clear HB; have HO_8 := n0_; have BK453 := n1_; have HB := n2_; have BK462 := n3_; have GW462 := n4_; have GE462 := n5_; have NB453_462 := n6_; have NB462_453 := n7_; clear n0_ n1_ n2_ n3_ n4_ n5_ n6_ n7_; clear hb hbox hg; have hnb29 := NB462_453.out; have hnc29 := NB453_462.out; have hcz30_0 : w28.cell? ⟨gb462, 0, none⟩ = some (.int .i64 0) := (blk_cell BK462.out 0).trans rfl; have hcz30_1 : w28.cell? ⟨gb462, 1, none⟩ = some (.string (⟨#[]⟩ : ByteArray)) := (blk_cell BK462.out 1).trans rfl; have hfz30_0 := blk_frozen BK462.out 0; have hfz30_1 := blk_frozen BK462.out 1) | ((with_reducible refine gate_store (t := 44) (p := 10) rfl ?_); refine store_event (t := 44) (p := 10) (v := ?vo_w31) (w1 := ((w28.setCell ⟨gb462, 0, none⟩ (.int .i64 ((rd_T44 l0 x46_2).f0))).setCell ⟨gb462, 1, none⟩ (.string ((rd_T44 l0 x46_2).f1)))) ?hg ?ho ?hn ?hr ?_; (case ho => rfl); (case hg => rfl); (case hn => rfl); (case hr => first | (go_simp; done) | (go_simp; rfl)); intro w31 hw; have n0_ : Aside0 (Kd.R (Kd.int .u8) 5 w31 w.heap.size (fun _ => True) v459 x8_2) := ⟨(by rw [hw]; exact (by (with_reducible repeat (first | apply Kd.R_alloc | apply Kd.R_drewN | apply Kd.R_drew)); exact Kd.R_mono (Kd.R_far (p := ⟨gb462, 1, none⟩) (Kd.R_far (p := ⟨gb462, 0, none⟩) (Kd.R_types HO_8.out BK462.out (by decide)) (fun _ hk => hk.2) (.int .i64 ((rd_T44 l0 x46_2).f0))) (fun _ hk => hk.2) (.string ((rd_T44 l0 x46_2).f1))) (fun _ hk => trivial)))⟩; have n1_ : Aside0 (w31.heap[gb453]? = some (.cells #[.int .i64 a2_0, .string a2_1] 44 (0, 0))) := ⟨(by rw [hw]; exact (by (with_reducible repeat (first | refine blk_drewN ?_ _ | refine blk_drew ?_ | refine blk_alloc ?_ _)); refine blk_far ?_ NB453_462.out _; (with_reducible repeat (first | refine blk_drewN ?_ _ | refine blk_drew ?_ | refine blk_alloc ?_ _)); refine blk_far ?_ NB453_462.out _; (with_reducible repeat (first | refine blk_drewN ?_ _ | refine blk_drew ?_ | refine blk_alloc ?_ _)); exact BK453.out))⟩; have n2_ : Aside0 (w31.heap[gb462]? = some (.cells #[.int .i64 ((rd_T44 l0 x46_2).f0), .string ((rd_T44 l0 x46_2).f1)] 44 (0, 0))) := ⟨(by rw [hw]; exact (by (with_reducible repeat (first | refine blk_drewN ?_ _ | refine blk_drew ?_ | refine blk_alloc ?_ _)); refine blk_put (cs := #[.int .i64 ((rd_T44 l0 x46_2).f0), .string (⟨#[]⟩ : ByteArray)]) ?_ 1 _ rfl; (with_reducible repeat (first | refine blk_drewN ?_ _ | refine blk_drew ?_ | refine blk_alloc ?_ _)); refine blk_put (cs := #[.int .i64 0, .string (⟨#[]⟩ : ByteArray)]) ?_ 0 _ rfl; (with_reducible repeat (first | refine blk_drewN ?_ _ | refine blk_drew ?_ | refine blk_alloc ?_ _)); exact BK462.out))⟩; have n3_ : Aside0 (Below w.heap.size w w31) := ⟨(by rw [hw]; exact (zB2 GE453.out GE462.out HB.out))⟩; clear hw; clear HO_8; clear BK453; clear BK462; clear HB; have HO_8 := n0_; have BK453 := n1_; have BK462 := n2_; have HB := n3_; clear n0_ n1_ n2_ n3_; have hcz32_0 : w31.cell? ⟨gb462, 0, none⟩ = some (.int .i64 ((rd_T44 l0 x46_2).f0)) := (blk_cell BK462.out 0).trans rfl; have hcz32_1 : w31.cell? ⟨gb462, 1, none⟩ = some (.string ((rd_T44 l0 x46_2).f1)) := (blk_cell BK462.out 1).trans rfl; have hfz32_0 := blk_frozen BK462.out 0; have hfz32_1 := blk_frozen BK462.out 1; obtain ⟨Ao33, co33, eo33⟩ := Kd.R_slice HO_8.out; subst eo33))
           have n0_ := zM (Kd.R_drew HO_8.out)
           have n1_ := zM (blk_drew BK453.out)
           have n2_ := zM (blk_drew BK462.out)
           have n3_ := zM (below_drew1 HB.out)
           clear HO_8
           clear BK453
           clear BK462
           clear HB
           have HO_8 := n0_
           have BK453 := n1_
           have BK462 := n2_
           have HB := n3_
           clear n0_ n1_ n2_ n3_
           obtain ⟨mZ, hmZ, hpZ, hfZ, htZ⟩ := copyAt_inv A27.out
           have HMZ := zM hmZ
           have HPZ := zM hpZ
           have HFZ := zM hfZ
           have HTZ := zM htZ
           obtain ⟨goZ, coZ, eoZ, gbZ, glZ, clZ, HGZ⟩ := Kd.R_form HO_8.out (by omega)
           injection eoZ with ea_ en_ ec_; subst Ao33; subst co33; clear en_
           have hcZ := (Kd.R_reads' HO_8.out).2.1
           have hslZ := fun W => slice_at (P := Try.prog) (t := 22) (e := 5) Try.underlying22 Try.sizeOf5 goZ x8_2.length coZ mZ W (by omega) (by omega)
           rw [← hmZ] at hslZ
           have GBZ := zM gbZ
           have HGZ := zM HGZ
           clear hmZ hpZ hfZ htZ gbZ glZ hcZ
           refine start_ (n := 7) (S := fun w' => w'.cell? ⟨gb462, 0, none⟩ = some (.int .i64 ((rd_T44 l0 x46_2).f0)) ∧ w'.cell? ⟨gb462, 1, none⟩ = some (.string ((rd_T44 l0 x46_2).f1))) (ds := [6]) (ba 7 0).toArray (by kernel_rfl) rfl rfl ⟨(blk_cell BK462.out 0).trans rfl, (blk_cell BK462.out 1).trans rfl⟩ (fun hHeld => ?_)
           generalize w31.drew = wZ at HO_8 BK453 BK462 HB HGZ hHeld ⊢
           refine pure_ (i := 0) (N := some 50) (v := ?_) (a' := ?_) (ba 7 1).toArray rfl rfl (by kernel_rfl) (fun _ _ _ h => h) (Or.inl ⟨by rfl, ?_⟩) ?_ ?_
           rotate_left
           ·intro w'
            go_simp
            with_reducible rfl
           rotate_left
           ·simp only [Act.put, List.setIfInBounds_toArray, List.set_cons_zero, List.set_cons_succ, i64_w, i32_w]
            rfl
           refine pure_ (i := 1) (N := some 51) (v := ?_) (a' := ?_) (ba 7 3).toArray rfl rfl (by kernel_rfl) (fun _ _ _ h => h) (Or.inl ⟨by rfl, ?_⟩) ?_ ?_
           rotate_left
           ·intro w'
            go_simp
            with_reducible rfl
           rotate_left
           ·simp only [Act.put, List.setIfInBounds_toArray, List.set_cons_zero, List.set_cons_succ, i64_w, i32_w]
            rfl
           refine pure_ (i := 4) (N := some 54) (v := ?_) (a' := ?_) (ba 7 19).toArray rfl rfl (by kernel_rfl) (fun _ _ _ h => h) (Or.inl ⟨by rfl, ?_⟩) ?_ ?_
           rotate_left
           ·intro w'
            go_simp
            with_reducible rfl
           rotate_left
           ·simp only [Act.put, List.setIfInBounds_toArray, List.set_cons_zero, List.set_cons_succ, i64_w, i32_w]
            rfl
           refine take_ (i := 2) (N := some 52) (v := ?_) (a' := ?_) (ba 7 23).toArray rfl rfl (by kernel_rfl) (fun _ _ _ h => h) (Or.inl ⟨by rfl, ?_⟩) hHeld ?_ ?_
           rotate_left
           ·rintro w' ⟨s0, s1⟩
            go_simp
            with_reducible rfl
           rotate_left
           ·simp only [Act.put, List.setIfInBounds_toArray, List.set_cons_zero, List.set_cons_succ, i64_w, i32_w]
            rfl
           refine take_ (i := 5) (N := some 55) (v := ?_) (a' := ?_) (ba 7 55).toArray rfl rfl (by kernel_rfl) (fun _ _ _ h => h) (Or.inl ⟨by rfl, ?_⟩) hHeld ?_ ?_
           rotate_left
           ·rintro w' ⟨s0, s1⟩
            go_simp
            with_reducible rfl
           rotate_left
           ·simp only [Act.put, List.setIfInBounds_toArray, List.set_cons_zero, List.set_cons_succ, i64_w, i32_w]
            rfl
           refine pure_ (i := 3) (N := some 53) (v := ?_) (a' := ?_) (ba 7 63).toArray rfl rfl (by kernel_rfl) (fun _ _ _ h => h) (Or.inl ⟨by rfl, ?_⟩) ?_ ?_
           rotate_left
           ·intro w'
            go_simp
            with_reducible rfl
           rotate_left
           ·simp only [Act.put, List.setIfInBounds_toArray, List.set_cons_zero, List.set_cons_succ, i64_w, i32_w]
            rfl
           refine last_ (i := 6) (N := some 56) (ba 7 127).toArray rfl rfl (by kernel_rfl) (by decide) (fun K hK => ?_)
           have hcpZ := copy_at (P := Try.prog) Try.underlying22 Try.sizeOf5 HO_8.out ((rd_T44 l0 x46_2).f1) HFZ.out
           refine value_ (w1 := ?_) (v := ?_) (by rfl) rfl ?_ ?_
           rotate_left 2
           ·go_simp
            constructor
            ·rfl
            ·rfl
           refine hK.out _ _ ?_
           clear hK K
           refine norm_ (a' := ?_) ?_ ?_
           rotate_left
           ·show Act.put _ (some 56) _ = _
            simp only [Act.put, List.setIfInBounds_toArray, List.set_cons_zero, List.set_cons_succ, i64_w, i32_w]
            rfl
           refine done_ (by kernel_rfl) ?_
           have n0_ : Aside0 (Kd.R (Kd.int .u8) 5 (wZ.setCells goZ mZ (encB ((rd_T44 l0 x46_2).f1))) w.heap.size (fun _ => True) (.slice (some ⟨goZ, 0, none⟩) x8_2.length coZ) t463) := ⟨by rw [HTZ.out]; exact R_copy HO_8.out ((rd_T44 l0 x46_2).f1) HFZ.out HPZ.out⟩
           have n1_ : Aside0 ((wZ.setCells goZ mZ (encB ((rd_T44 l0 x46_2).f1))).heap[gb453]? = some (.cells #[.int .i64 a2_0, .string a2_1] 44 (0, 0))) := ⟨(setCells_far _ _ _ (blk_other BK453.out HGZ.out (by decide))).trans BK453.out⟩
           have n2_ : Aside0 (Below w.heap.size w (wZ.setCells goZ mZ (encB ((rd_T44 l0 x46_2).f1)))) := ⟨below_setCells GBZ.out _ _ _ HB.out⟩
           clear HO_8
           clear BK453
           clear BK462
           clear HB
           clear hcpZ
           clear HGZ
           generalize wZ.setCells goZ mZ (encB ((rd_T44 l0 x46_2).f1)) = wY at n0_ n1_ n2_ ⊢
           have HO_8 := n0_
           have BK453 := n1_
           have HB := n2_
           clear n0_ n1_ n2_
           go_wp2
           go_roundg k2
           case measure => have := HJ3.out; have := HK2.out; omega
           case rel => exact ⟨(t463), (wrap64 (x46_2 + 1)), zS, H', ⟨by have := HJ3.out; have := HK2.out; omega⟩, ⟨(zR HO_8.out)⟩, ⟨(zP BK453.out)⟩, ⟨(zB2 GE453.out GE462.out HB.out)⟩⟩
          ·rw [if_neg c26] at H
           exact absurd H (by simp)
         ·rw [if_neg c25] at H
          exact absurd H (by simp)
        ·rw [if_neg c24] at H
         have c24b0 : decide (x46_2 < (l0.length : Int)) = false := decide_eq_false c24
         clear c24
         have H' := zM H
         clear H
         have hcz35_0 : wr.cell? ⟨gb453, 0, none⟩ = some (.int .i64 a2_0) := (blk_cell BK453.out 0).trans rfl
         have hcz35_1 : wr.cell? ⟨gb453, 1, none⟩ = some (.string a2_1) := (blk_cell BK453.out 1).trans rfl
         have hfz35_0 := blk_frozen BK453.out 0
         have hfz35_1 := blk_frozen BK453.out 1
         go_wp2
         go_loopg [61] k2 (fun kq v61 w' => ∃ (x8_3 : List Int) (x61_3 : Int), v61 = .int .i64 x61_3 ∧ Aside0 (impl_AddPiece.l1 kq l0 x8_3 (a2_1.size : Int) x61_3 a2_0 a2_1 = some (r1, r2)) ∧ Aside0 (kq ≤ k2) ∧ Aside0 (Kd.R (Kd.int .u8) 5 w' w.heap.size (fun _ => True) v459 x8_3) ∧ Aside0 (w'.heap[gb453]? = some (.cells #[.int .i64 a2_0, .string a2_1] 44 (0, 0))) ∧ Aside0 (Below w.heap.size w w'))
         case atStart => exact ⟨(x8_2), (0), zS, H', ⟨Nat.le_refl _⟩, ⟨(zR HO_8.out)⟩, ⟨(zP BK453.out)⟩, ⟨(zB1 GE453.out HB.out)⟩⟩
         case round =>
          clear H'
          try clear c1
          try clear c2
          try clear p2
          try clear c4
          try clear p4
          try clear q4
          try clear hx4
          try clear p6
          try clear c7
          try clear c8
          try clear c8b0
          try clear c8b1
          try clear c9
          try clear c11
          try clear c11b0
          try clear c17
          try clear c20
          try clear c20b0
          try clear c20b1
          try clear c21
          try clear c21b0
          try clear c21b1
          try clear c23
          try clear c24
          try clear c24b0
          try clear c25
          try clear c25b0
          try clear c26
          try clear c26b0
          try clear c29
          try clear hcz10_0
          try clear hcz10_1
          try clear hcz13_0
          try clear hcz13_1
          try clear hcz15_0
          try clear hcz15_1
          try clear hcz30_0
          try clear hcz30_1
          try clear hcz32_0
          try clear hcz32_1
          try clear hcz35_0
          try clear hcz35_1
          try clear hfz10_0
          try clear hfz10_1
          try clear hfz13_0
          try clear hfz13_1
          try clear hfz15_0
          try clear hfz15_1
          try clear hfz30_0
          try clear hfz30_1
          try clear hfz32_0
          try clear hfz32_1
          try clear hfz35_0
          try clear hfz35_1
          try clear hx461_0
          try clear hx461_1
          try clear p2
          try clear p461
          try clear p6
          try clear q461
          obtain ⟨x8_3, x61_3, rfl, HA, HK3, HO_8, BK453, HB⟩ := hrel
          cases gk with
          | zero => exact absurd HA.out (by simp [impl_AddPiece.l1])
          | succ k3 =>
           have H := HA.out
           clear HA
           simp only [impl_AddPiece.l1] at H
           by_cases c36 : x61_3 < (a2_1.size : Int)
           ·rw [if_pos c36] at H
            have c36b0 : decide (x61_3 < (a2_1.size : Int)) = true := decide_eq_true c36
            clear c36
            replace H := Option.bind_eq_some_iff.mp H
            obtain ⟨t464, A370, H⟩ := H
            try dsimp only at H
            have A37 := zM A370
            clear A370
            replace H := Option.bind_eq_some_iff.mp H
            obtain ⟨t467, A380, H⟩ := H
            try dsimp only at H
            have A38 := zM A380
            clear A380
            by_cases c39 : t467 = true
            ·subst c39
             rw [if_pos rfl] at H
             obtain ⟨ji40, hji40⟩ : ∃ j_ : Int, (wrap64 (a2_0 + x61_3)) = j_ := ⟨_, rfl⟩
             replace H : (if 0 ≤ (ji40) then (if (ji40) < (x8_3.length : Int) then (if 0 ≤ x61_3 then (if x61_3 < (a2_1.size : Int) then (if (rd x8_3 (ji40)) = (bt a2_1 x61_3) then (impl_AddPiece.l1 k3 l0 (x8_3.set ((ji40) : Int).toNat (bt a2_1 x61_3)) (a2_1.size : Int) (wrap64 (x61_3 + 1)) a2_0 a2_1) else ((impl_Piece.f l0).bind fun t470 => (some (t470, false)))) else (none)) else (none)) else (none)) else (none)) = some (r1, r2) := by first | (rw [hji40] at H; exact H) | (simp only [hji40] at H ⊢; exact H)
             (try rw [hji40] at A37)
             (try rw [hji40] at A38)
             have hji40w : (IntKind.i64.wrap (a2_0 + x61_3)) = ji40 := (i64_w _).trans hji40
             by_cases c41 : 0 ≤ (ji40)
             ·rw [if_pos c41] at H
              have c41b0 : decide (0 ≤ (ji40)) = true := decide_eq_true c41
              clear c41
              by_cases c42 : (ji40) < (x8_3.length : Int)
              ·rw [if_pos c42] at H
               have c42b0 : decide ((ji40) < (x8_3.length : Int)) = true := decide_eq_true c42
               clear c42
               by_cases c43 : 0 ≤ x61_3
               ·rw [if_pos c43] at H
                have c43b0 : decide (0 ≤ x61_3) = true := decide_eq_true c43
                clear c43
                by_cases c44 : x61_3 < (a2_1.size : Int)
                ·rw [if_pos c44] at H
                 have c44b0 : decide (x61_3 < (a2_1.size : Int)) = true := decide_eq_true c44
                 clear c44
                 by_cases c46 : (rd x8_3 (ji40)) = (bt a2_1 x61_3)
                 ·rw [if_pos c46] at H
                  have c46b0 : ((rd x8_3 (ji40)) == (bt a2_1 x61_3)) = true := beq_iff_eq.mpr c46
                  have c46b1 : ((rd x8_3 (ji40)) != (bt a2_1 x61_3)) = false := bne_eq_false_iff_eq.mpr c46
                  clear c46
                  obtain ⟨y469, hy469⟩ : ∃ y_ : List Int, y_ = (x8_3.set ((ji40) : Int).toNat (bt a2_1 x61_3)) := ⟨_, rfl⟩
                  replace H : (impl_AddPiece.l1 k3 l0 y469 (a2_1.size : Int) (wrap64 (x61_3 + 1)) a2_0 a2_1) = some (r1, r2) := zH hy469 H
                  have Ny469 := zM hy469
                  clear hy469
                  have H' := zM H
                  clear H
                  have hcz49_0 : wr.cell? ⟨gb453, 0, none⟩ = some (.int .i64 a2_0) := (blk_cell BK453.out 0).trans rfl
                  have hcz49_1 : wr.cell? ⟨gb453, 1, none⟩ = some (.string a2_1) := (blk_cell BK453.out 1).trans rfl
                  have hfz49_0 := blk_frozen BK453.out 0
                  have hfz49_1 := blk_frozen BK453.out 1
                  try go_wp2
                  have n0_ := zM (Kd.R_drew HO_8.out)
                  have n1_ := zM (blk_drew BK453.out)
                  have n2_ := zM (below_drew1 HB.out)
                  clear HO_8
                  clear BK453
                  clear HB
                  have HO_8 := n0_
                  have BK453 := n1_
                  have HB := n2_
                  clear n0_ n1_ n2_
                  obtain ⟨Aoz1, coz1, eoz1⟩ := Kd.R_slice HO_8.out
                  subst eoz1
                  have p468 : 0 ≤ ((ji40) : Int) := zD
                  have q468 : (ji40) < (x8_3.length : Int) := zD
                  obtain ⟨ad468, e468, hx468_0⟩ := Kd.at_int (Kd.R_reads' HO_8.out).2.2 (ji40) p468 q468
                  cases e468
                  replace p468 := eq_true p468
                  replace q468 := eq_true q468
                  refine start_ (n := 18) (S := fun w' => w'.cell? ⟨gb453, 0, none⟩ = some (.int .i64 a2_0) ∧ w'.cell? ⟨gb453, 1, none⟩ = some (.string a2_1) ∧ w'.cell? (ad468.add ((ji40)).toNat) = some (.int .u8 (rd x8_3 (ji40)))) (ds := []) (ba 18 0).toArray (by kernel_rfl) rfl rfl ⟨(blk_cell BK453.out 0).trans rfl, (blk_cell BK453.out 1).trans rfl, hx468_0⟩ (fun hHeld => ?_); refine with_tabW impl_AddPiece.tab13 impl_AddPiece.bits13 (fun HT_ HW_ => ?_)
                  generalize wr.drew = w50 at HO_8 BK453 HB hx468_0 hHeld ⊢
                  refine zq 0 (some 68) (ba 18 1).toArray HT_ ?_
                  refine zq 2 (some 70) (ba 18 5).toArray HT_ ?_
                  refine zq 3 (some 71) (ba 18 13).toArray HT_ ?_
                  refine zq 4 (some 72) (ba 18 29).toArray HT_ ?_
                  refine zq 5 (some 73) (ba 18 61).toArray HT_ ?_
                  refine one_ (i := 1) (N := some 69) (ba 18 63).toArray rfl rfl (one_of HT_.out (by kernel_rfl)) (by decide) (fun K hK => ?_)
                  refine goes_ Try.func30 (by kernel_rfl) rfl #[.slice A0 l0.length c0] (by rfl) rfl rfl (by (try simp only [List.map_toArray, List.map_cons, List.map_nil]); first | done | rfl | (simp only [List.length_drop, List.length_take]; rfl)) ?_
                  with_reducible refine (impl_SpansOf.calls k3 _ _ l0 t464 _ ?side1 ?side2 A37.out).mono ?_
                  (case side1 => exact (zC (Kd.C_below HR0.out HB.out)))
                  (case side2 => exact HC0.out)
                  rintro e w51 ⟨v465, rfl, ho0, hb⟩
                  have HS2_ := (hb.cell (World.block_lt_of_cell? _ _ (hHeld.2.2))).trans (hHeld.2.2)
                  refine ⟨_, rfl, ?_⟩
                  have n0_ := zM (Kd.R_below (zR HO_8.out) hb)
                  have n1_ := zM (Kd.R_lower ho0 (below_size (zB1 GE453.out HB.out)))
                  have n2_ := zM (blk_below (g := gb453) (o := .cells #[.int .i64 a2_0, .string a2_1] 44 (0, 0)) (zP BK453.out) hb)
                  have n3_ := zM (below_step (zB1 GE453.out HB.out) hb)
                  clear HO_8
                  clear BK453
                  clear HB
                  have HO_8 := n0_
                  have HO466 := n1_
                  have BK453 := n2_
                  have HB := n3_
                  clear n0_ n1_ n2_ n3_
                  (try clear hb)
                  (try clear hb2)
                  (try clear hk)
                  (try clear hi)
                  (try clear ho0)
                  obtain ⟨Ao52, co52, eo52⟩ := Kd.R_slice HO466.out
                  (first | subst eo52 | (injection eo52 with f1_ f2_ f3_; have f4_ := f1_.symm; have f5_ := f3_.symm; clear f1_ f2_ f3_; subst f4_; subst f5_))
                  refine hK.out _ _ ⟨(blk_cell BK453.out 0).trans rfl, (blk_cell BK453.out 1).trans rfl, HS2_⟩ (fun hHeld => ?_)
                  clear hK K
                  refine norm_ (a' := ?_) ?_ ?_
                  rotate_left
                  ·show Act.put _ (some 69) _ = _
                   simp only [Act.put, List.setIfInBounds_toArray, List.set_cons_zero, List.set_cons_succ, i64_w, i32_w]
                   rfl
                  refine one_ (i := 6) (N := some 74) (ba 18 127).toArray rfl rfl (one_of HT_.out (by kernel_rfl)) (by decide) (fun K hK => ?_)
                  refine goes_ Try.func12 (by kernel_rfl) rfl #[.slice Ao52 t464.length co52, .agg #[.int .i64 ji40, .int .i64 (wrap64 ((ji40) + 1))]] (by rfl) rfl rfl (by (try simp only [List.map_toArray, List.map_cons, List.map_nil]); first | done | (simp only [hji40]; rfl) | rfl | (simp only [List.length_drop, List.length_take]; rfl)) ?_
                  with_reducible refine (impl_CoversSpan.calls _ _ t464 ji40 (wrap64 ((ji40) + 1)) true _ ?side1 ?side2 A38.out).mono ?_
                  (case side1 => exact (zC ((Kd.R_reads' HO466.out).2.2)))
                  (case side2 => exact (Kd.R_reads' HO466.out).2.1)
                  rintro e w53 ⟨rfl, hb⟩
                  have HS2_ := (hb.cell (World.block_lt_of_cell? _ _ (hHeld.2.2))).trans (hHeld.2.2)
                  refine ⟨_, rfl, ?_⟩
                  have n0_ := zM (Kd.R_below (zR HO_8.out) hb)
                  have n1_ := zM (Kd.R_below (zR HO466.out) hb)
                  have n2_ := zM (blk_below (g := gb453) (o := .cells #[.int .i64 a2_0, .string a2_1] 44 (0, 0)) (zP BK453.out) hb)
                  have n3_ := zM (below_step (zB1 GE453.out HB.out) hb)
                  clear HO_8
                  clear HO466
                  clear BK453
                  clear HB
                  have HO_8 := n0_
                  have HO466 := n1_
                  have BK453 := n2_
                  have HB := n3_
                  clear n0_ n1_ n2_ n3_
                  (try clear hb)
                  (try clear hb2)
                  (try clear hk)
                  (try clear hi)
                  obtain ⟨Ao54, co54, eo54⟩ := Kd.R_slice HO_8.out
                  (first | subst eo54 | (injection eo54 with f1_ f2_ f3_; have f4_ := f1_.symm; have f5_ := f3_.symm; clear f1_ f2_ f3_; subst f4_; subst f5_))
                  have p45 : 0 ≤ (x61_3 : Int) := zD
                  have q45 : x61_3 < (a2_1.size : Int) := zD
                  have hx45 := bt_at a2_1 x61_3
                  replace p45 := eq_true p45
                  replace q45 := eq_true q45
                  refine hK.out _ _ ⟨(blk_cell BK453.out 0).trans rfl, (blk_cell BK453.out 1).trans rfl, HS2_⟩ (fun hHeld => ?_)
                  clear hK K
                  refine norm_ (a' := ?_) ?_ ?_
                  rotate_left
                  ·show Act.put _ (some 74) _ = _
                   simp only [Act.put, List.setIfInBounds_toArray, List.set_cons_zero, List.set_cons_succ, i64_w, i32_w]
                   rfl
                  refine zq 7 (some 75) (ba 18 255).toArray HT_ ?_
                  refine zq 8 (some 76) (ba 18 511).toArray HT_ ?_
                  refine zq 9 (some 77) (ba 18 1023).toArray HT_ ?_
                  refine zq 10 (some 78) (ba 18 2047).toArray HT_ ?_
                  refine zq 12 (some 80) (ba 18 6143).toArray HT_ ?_
                  refine zq 14 (some 82) (ba 18 22527).toArray HT_ ?_
                  refine zt3 11 (some 79) (ba 18 24575).toArray HT_ HW_ hHeld ?_
                  refine zt3 13 (some 81) (ba 18 32767).toArray HT_ HW_ hHeld ?_
                  refine zt3 15 (some 83) (ba 18 65535).toArray HT_ HW_ hHeld ?_
                  refine zq 16 (some 84) (ba 18 131071).toArray HT_ ?_
                  refine zq 17 (some 85) (ba 18 262143).toArray HT_ ?_
                  refine done_ (done_of HT_.out (by kernel_rfl)) ?_
                  have hcz55_0 : w53.cell? ⟨gb453, 0, none⟩ = some (.int .i64 a2_0) := (blk_cell BK453.out 0).trans rfl
                  have hcz55_1 : w53.cell? ⟨gb453, 1, none⟩ = some (.string a2_1) := (blk_cell BK453.out 1).trans rfl
                  have hfz55_0 := blk_frozen BK453.out 0
                  have hfz55_1 := blk_frozen BK453.out 1
                  have p47 : 0 ≤ (x61_3 : Int) := zD
                  have q47 : x61_3 < (a2_1.size : Int) := zD
                  have hx47 := bt_at a2_1 x61_3
                  replace p47 := eq_true p47
                  replace q47 := eq_true q47
                  have p48 : 0 ≤ ((ji40) : Int) := zD
                  have q48 : ((ji40) : Int) < ((x8_3.length : Int) : Int) := zD
                  obtain ⟨go48, co48, eo48, gb48, gl48, cl48, HG48⟩ := Kd.R_form HO_8.out (by omega)
                  (first | cases eo48 | (injection eo48 with ea_ en_ ec_; (first | subst ea_ | (injection ea_ with ea_; subst ea_)); subst ec_; clear en_))
                  have GB48 := zM gb48
                  have GG48 := zM HG48
                  clear gb48 gl48 HG48
                  (first | simp only [add_plain] at hx468_0 | skip)
                  obtain ⟨hx48_0, hf48_0⟩ := Kd.R_celln 0 HO_8.out ((ji40) : Int) p48 q48
                  replace p48 := eq_true p48
                  replace q48 := eq_true q48
                  obtain ⟨hy56_, hz56_⟩ := Kd.R_celln 0 HO_8.out ((ji40) : Int) (zD) (zD)
                  have HP56 := Kd.R_putg HO_8.out ((ji40) : Int) (bt a2_1 x61_3)
                  try go_wp2_with (first | ((with_reducible refine gate_store (t := 5) (p := 94) rfl ?_); refine store_event (t := 5) (p := 94) (v := ?vo_w57) (w1 := (w53.setCell ⟨go48, ((ji40) : Int).toNat, none⟩ (.int .u8 (bt a2_1 x61_3)))) ?hg ?ho ?hn ?hr ?_; (case ho => rfl); (case hg => rfl); (case hn => rfl); (case hr => first | (go_simp; done) | (go_simp; rfl)); intro w57 hw; have hg : w53.grownBy w57 (some go48) := (by rw [hw]; exact HP56.2); have hp_ : Kd.R (Kd.int .u8) 5 w57 w.heap.size (fun _ => True) (.slice (some ⟨go48, 0, none⟩) x8_3.length co54) y469 := (by rw [hw, Ny469.out]; exact HP56.1); clear HP56; have n0_ := zM (hp_); have n1_ := zM (blk_grown (g := gb453) (o := .cells #[.int .i64 a2_0, .string a2_1] 44 (0, 0)) (zP BK453.out) hg (Kd.R_ne HO_8.out BK453.out (by decide))); have n2_ := zM (Kd.R_over' (v := (.slice (some ⟨go48, 0, none⟩) x8_3.length co54)) (zR HO466.out) (Kd.R_typed HO_8.out) (by decide) hg); have n3_ := zM ((by rw [hw]; exact below_set (HB.out) GB48.out : Below w.heap.size w w57)); clear HO_8; clear BK453; clear HO466; clear HB; have HO_8 := n0_; have BK453 := n1_; have HO466 := n2_; have HB := n3_; clear n0_ n1_ n2_ n3_; clear hg hw hp_))
                  go_roundg k3
                  case measure => have := HJ3.out; have := HK2.out; have := HK3.out; omega
                  case rel => exact ⟨(y469), (wrap64 (x61_3 + 1)), zS, H', ⟨by have := HJ3.out; have := HK2.out; have := HK3.out; omega⟩, ⟨(zR HO_8.out)⟩, ⟨(zP BK453.out)⟩, ⟨(zB1 GE453.out HB.out)⟩⟩
                 ·rw [if_neg c46] at H
                  have c46b0 : ((rd x8_3 (ji40)) == (bt a2_1 x61_3)) = false := beq_eq_false_iff_ne.mpr c46
                  have c46b1 : ((rd x8_3 (ji40)) != (bt a2_1 x61_3)) = true := bne_iff_ne.mpr c46
                  replace H := Option.bind_eq_some_iff.mp H
                  obtain ⟨t470, A580, H⟩ := H
                  try dsimp only at H
                  have A58 := zM A580
                  clear A580
                  simp only [Option.some.injEq, Prod.mk.injEq] at H
                  obtain ⟨rfl, rfl⟩ := H
                  have hcz59_0 : wr.cell? ⟨gb453, 0, none⟩ = some (.int .i64 a2_0) := (blk_cell BK453.out 0).trans rfl
                  have hcz59_1 : wr.cell? ⟨gb453, 1, none⟩ = some (.string a2_1) := (blk_cell BK453.out 1).trans rfl
                  have hfz59_0 := blk_frozen BK453.out 0
                  have hfz59_1 := blk_frozen BK453.out 1
                  try go_wp2
                  have n0_ := zM (Kd.R_drew HO_8.out)
                  have n1_ := zM (blk_drew BK453.out)
                  have n2_ := zM (below_drew1 HB.out)
                  clear HO_8
                  clear BK453
                  clear HB
                  have HO_8 := n0_
                  have BK453 := n1_
                  have HB := n2_
                  clear n0_ n1_ n2_
                  obtain ⟨Aoz2, coz2, eoz2⟩ := Kd.R_slice HO_8.out
                  subst eoz2
                  have p468 : 0 ≤ ((ji40) : Int) := zD
                  have q468 : (ji40) < (x8_3.length : Int) := zD
                  obtain ⟨ad468, e468, hx468_0⟩ := Kd.at_int (Kd.R_reads' HO_8.out).2.2 (ji40) p468 q468
                  cases e468
                  replace p468 := eq_true p468
                  replace q468 := eq_true q468
                  refine start_ (n := 18) (S := fun w' => w'.cell? ⟨gb453, 0, none⟩ = some (.int .i64 a2_0) ∧ w'.cell? ⟨gb453, 1, none⟩ = some (.string a2_1) ∧ w'.cell? (ad468.add ((ji40)).toNat) = some (.int .u8 (rd x8_3 (ji40)))) (ds := []) (ba 18 0).toArray (by kernel_rfl) rfl rfl ⟨(blk_cell BK453.out 0).trans rfl, (blk_cell BK453.out 1).trans rfl, hx468_0⟩ (fun hHeld => ?_); refine with_tabW impl_AddPiece.tab13 impl_AddPiece.bits13 (fun HT_ HW_ => ?_)
                  generalize wr.drew = w60 at HO_8 BK453 HB hx468_0 hHeld ⊢
                  refine zq 0 (some 68) (ba 18 1).toArray HT_ ?_
                  refine zq 2 (some 70) (ba 18 5).toArray HT_ ?_
                  refine zq 3 (some 71) (ba 18 13).toArray HT_ ?_
                  refine zq 4 (some 72) (ba 18 29).toArray HT_ ?_
                  refine zq 5 (some 73) (ba 18 61).toArray HT_ ?_
                  refine one_ (i := 1) (N := some 69) (ba 18 63).toArray rfl rfl (one_of HT_.out (by kernel_rfl)) (by decide) (fun K hK => ?_)
                  refine goes_ Try.func30 (by kernel_rfl) rfl #[.slice A0 l0.length c0] (by rfl) rfl rfl (by (try simp only [List.map_toArray, List.map_cons, List.map_nil]); first | done | rfl | (simp only [List.length_drop, List.length_take]; rfl)) ?_
                  with_reducible refine (impl_SpansOf.calls k3 _ _ l0 t464 _ ?side1 ?side2 A37.out).mono ?_
                  (case side1 => exact (zC (Kd.C_below HR0.out HB.out)))
                  (case side2 => exact HC0.out)
                  rintro e w61 ⟨v465, rfl, ho0, hb⟩
                  have HS2_ := (hb.cell (World.block_lt_of_cell? _ _ (hHeld.2.2))).trans (hHeld.2.2)
                  refine ⟨_, rfl, ?_⟩
                  have n0_ := zM (Kd.R_below (zR HO_8.out) hb)
                  have n1_ := zM (Kd.R_lower ho0 (below_size (zB1 GE453.out HB.out)))
                  have n2_ := zM (blk_below (g := gb453) (o := .cells #[.int .i64 a2_0, .string a2_1] 44 (0, 0)) (zP BK453.out) hb)
                  have n3_ := zM (below_step (zB1 GE453.out HB.out) hb)
                  clear HO_8
                  clear BK453
                  clear HB
                  have HO_8 := n0_
                  have HO466 := n1_
                  have BK453 := n2_
                  have HB := n3_
                  clear n0_ n1_ n2_ n3_
                  (try clear hb)
                  (try clear hb2)
                  (try clear hk)
                  (try clear hi)
                  (try clear ho0)
                  obtain ⟨Ao62, co62, eo62⟩ := Kd.R_slice HO466.out
                  (first | subst eo62 | (injection eo62 with f1_ f2_ f3_; have f4_ := f1_.symm; have f5_ := f3_.symm; clear f1_ f2_ f3_; subst f4_; subst f5_))
                  refine hK.out _ _ ⟨(blk_cell BK453.out 0).trans rfl, (blk_cell BK453.out 1).trans rfl, HS2_⟩ (fun hHeld => ?_)
                  clear hK K
                  refine norm_ (a' := ?_) ?_ ?_
                  rotate_left
                  ·show Act.put _ (some 69) _ = _
                   simp only [Act.put, List.setIfInBounds_toArray, List.set_cons_zero, List.set_cons_succ, i64_w, i32_w]
                   rfl
                  refine one_ (i := 6) (N := some 74) (ba 18 127).toArray rfl rfl (one_of HT_.out (by kernel_rfl)) (by decide) (fun K hK => ?_)
                  refine goes_ Try.func12 (by kernel_rfl) rfl #[.slice Ao62 t464.length co62, .agg #[.int .i64 ji40, .int .i64 (wrap64 ((ji40) + 1))]] (by rfl) rfl rfl (by (try simp only [List.map_toArray, List.map_cons, List.map_nil]); first | done | (simp only [hji40]; rfl) | rfl | (simp only [List.length_drop, List.length_take]; rfl)) ?_
                  with_reducible refine (impl_CoversSpan.calls _ _ t464 ji40 (wrap64 ((ji40) + 1)) true _ ?side1 ?side2 A38.out).mono ?_
                  (case side1 => exact (zC ((Kd.R_reads' HO466.out).2.2)))
                  (case side2 => exact (Kd.R_reads' HO466.out).2.1)
                  rintro e w63 ⟨rfl, hb⟩
                  have HS2_ := (hb.cell (World.block_lt_of_cell? _ _ (hHeld.2.2))).trans (hHeld.2.2)
                  refine ⟨_, rfl, ?_⟩
                  have n0_ := zM (Kd.R_below (zR HO_8.out) hb)
                  have n1_ := zM (Kd.R_below (zR HO466.out) hb)
                  have n2_ := zM (blk_below (g := gb453) (o := .cells #[.int .i64 a2_0, .string a2_1] 44 (0, 0)) (zP BK453.out) hb)
                  have n3_ := zM (below_step (zB1 GE453.out HB.out) hb)
                  clear HO_8
                  clear HO466
                  clear BK453
                  clear HB
                  have HO_8 := n0_
                  have HO466 := n1_
                  have BK453 := n2_
                  have HB := n3_
                  clear n0_ n1_ n2_ n3_
                  (try clear hb)
                  (try clear hb2)
                  (try clear hk)
                  (try clear hi)
                  obtain ⟨Ao64, co64, eo64⟩ := Kd.R_slice HO_8.out
                  (first | subst eo64 | (injection eo64 with f1_ f2_ f3_; have f4_ := f1_.symm; have f5_ := f3_.symm; clear f1_ f2_ f3_; subst f4_; subst f5_))
                  have p45 : 0 ≤ (x61_3 : Int) := zD
                  have q45 : x61_3 < (a2_1.size : Int) := zD
                  have hx45 := bt_at a2_1 x61_3
                  replace p45 := eq_true p45
                  replace q45 := eq_true q45
                  refine hK.out _ _ ⟨(blk_cell BK453.out 0).trans rfl, (blk_cell BK453.out 1).trans rfl, HS2_⟩ (fun hHeld => ?_)
                  clear hK K
                  refine norm_ (a' := ?_) ?_ ?_
                  rotate_left
                  ·show Act.put _ (some 74) _ = _
                   simp only [Act.put, List.setIfInBounds_toArray, List.set_cons_zero, List.set_cons_succ, i64_w, i32_w]
                   rfl
                  refine zq 7 (some 75) (ba 18 255).toArray HT_ ?_
                  refine zq 8 (some 76) (ba 18 511).toArray HT_ ?_
                  refine zq 9 (some 77) (ba 18 1023).toArray HT_ ?_
                  refine zq 10 (some 78) (ba 18 2047).toArray HT_ ?_
                  refine zq 12 (some 80) (ba 18 6143).toArray HT_ ?_
                  refine zq 14 (some 82) (ba 18 22527).toArray HT_ ?_
                  refine zt3 11 (some 79) (ba 18 24575).toArray HT_ HW_ hHeld ?_
                  refine zt3 13 (some 81) (ba 18 32767).toArray HT_ HW_ hHeld ?_
                  refine zt3 15 (some 83) (ba 18 65535).toArray HT_ HW_ hHeld ?_
                  refine zq 16 (some 84) (ba 18 131071).toArray HT_ ?_
                  refine zq 17 (some 85) (ba 18 262143).toArray HT_ ?_
                  refine done_ (done_of HT_.out (by kernel_rfl)) ?_
                  try go_wp2_with (first | ((with_reducible refine gate_callee (f := 46) rfl ?_); refine zG (some 87) Try.func46 #[.slice A0 l0.length c0] ?_; (with_reducible refine (impl_Piece.calls _ _ l0 t470 _ ?side1 ?side2 A58.out).mono ?_); (case side1 => exact (zC (Kd.C_below HR0.out HB.out))); (case side2 => exact HC0.out); rintro e w65 ⟨v471, rfl, ho0, hb⟩; refine ⟨_, rfl, ?_⟩; have n0_ := zM (Kd.R_below (zR HO_8.out) hb); have n1_ := zM (Kd.R_below (zR HO466.out) hb); have n2_ := zM (Kd.R_lower (Kd.R_newB ho0 (g := gb453) (o := .cells #[.int .i64 a2_0, .string a2_1] 44 (0, 0)) (zP BK453.out)) (below_size (zB1 GE453.out HB.out))); have n3_ := zM (blk_below (g := gb453) (o := .cells #[.int .i64 a2_0, .string a2_1] 44 (0, 0)) (zP BK453.out) hb); have n4_ := zM (below_step (zB1 GE453.out HB.out) hb); clear HO_8; clear HO466; clear BK453; clear HB; have HO_8 := n0_; have HO466 := n1_; have HO472 := n2_; have BK453 := n3_; have HB := n4_; clear n0_ n1_ n2_ n3_ n4_; (try clear hb); (try clear hb2); (try clear hk); (try clear hi); (try clear ho0)))
                  go_ret2
                  exact ⟨_, by first | rfl | (simp [errW_none, errW_some] <;> rfl) | (simp only [← hji40]; first | rfl | (simp [errW_none, errW_some] <;> rfl)) | (simp [*, errW_none, errW_some] <;> rfl), (zRm HO472.out (fun _ hk => trivial)), (zB1 GE453.out HB.out)⟩
                ·rw [if_neg c44] at H
                 exact absurd H (by simp)
               ·rw [if_neg c43] at H
                exact absurd H (by simp)
              ·rw [if_neg c42] at H
               exact absurd H (by simp)
             ·rw [if_neg c41] at H
              exact absurd H (by simp)
            ·replace c39 := Bool.eq_false_iff.mpr c39
             subst c39
             rw [if_neg (show ¬ (false = true) by decide)] at H
             by_cases c66 : 0 ≤ x61_3
             ·rw [if_pos c66] at H
              have c66b0 : decide (0 ≤ x61_3) = true := decide_eq_true c66
              clear c66
              by_cases c67 : x61_3 < (a2_1.size : Int)
              ·rw [if_pos c67] at H
               have c67b0 : decide (x61_3 < (a2_1.size : Int)) = true := decide_eq_true c67
               clear c67
               obtain ⟨ji69, hji69⟩ : ∃ j_ : Int, (wrap64 (a2_0 + x61_3)) = j_ := ⟨_, rfl⟩
               replace H : (if 0 ≤ (ji69) then (if (ji69) < (x8_3.length : Int) then (impl_AddPiece.l1 k3 l0 (x8_3.set ((ji69) : Int).toNat (bt a2_1 x61_3)) (a2_1.size : Int) (wrap64 (x61_3 + 1)) a2_0 a2_1) else (none)) else (none)) = some (r1, r2) := by first | (rw [hji69] at H; exact H) | (simp only [hji69] at H ⊢; exact H)
               (try rw [hji69] at A37)
               (try rw [hji69] at A38)
               have hji69w : (IntKind.i64.wrap (a2_0 + x61_3)) = ji69 := (i64_w _).trans hji69
               by_cases c70 : 0 ≤ (ji69)
               ·rw [if_pos c70] at H
                have c70b0 : decide (0 ≤ (ji69)) = true := decide_eq_true c70
                clear c70
                by_cases c71 : (ji69) < (x8_3.length : Int)
                ·rw [if_pos c71] at H
                 have c71b0 : decide ((ji69) < (x8_3.length : Int)) = true := decide_eq_true c71
                 clear c71
                 obtain ⟨y473, hy473⟩ : ∃ y_ : List Int, y_ = (x8_3.set ((ji69) : Int).toNat (bt a2_1 x61_3)) := ⟨_, rfl⟩
                 replace H : (impl_AddPiece.l1 k3 l0 y473 (a2_1.size : Int) (wrap64 (x61_3 + 1)) a2_0 a2_1) = some (r1, r2) := zH hy473 H
                 have Ny473 := zM hy473
                 clear hy473
                 have H' := zM H
                 clear H
                 have hcz73_0 : wr.cell? ⟨gb453, 0, none⟩ = some (.int .i64 a2_0) := (blk_cell BK453.out 0).trans rfl
                 have hcz73_1 : wr.cell? ⟨gb453, 1, none⟩ = some (.string a2_1) := (blk_cell BK453.out 1).trans rfl
                 have hfz73_0 := blk_frozen BK453.out 0
                 have hfz73_1 := blk_frozen BK453.out 1
                 try go_wp2
                 have n0_ := zM (Kd.R_drew HO_8.out)
                 have n1_ := zM (blk_drew BK453.out)
                 have n2_ := zM (below_drew1 HB.out)
                 clear HO_8
                 clear BK453
                 clear HB
                 have HO_8 := n0_
                 have BK453 := n1_
                 have HB := n2_
                 clear n0_ n1_ n2_
                 refine start_ (n := 18) (S := fun w' => True) (ds := []) (ba 18 0).toArray (by kernel_rfl) rfl rfl trivial (fun hHeld => ?_); refine with_tabW impl_AddPiece.tab13 impl_AddPiece.bits13 (fun HT_ HW_ => ?_)
                 generalize wr.drew = w74 at HO_8 BK453 HB hHeld ⊢
                 refine zq 0 (some 68) (ba 18 1).toArray HT_ ?_
                 refine zq 2 (some 70) (ba 18 5).toArray HT_ ?_
                 refine zq 3 (some 71) (ba 18 13).toArray HT_ ?_
                 refine zq 4 (some 72) (ba 18 29).toArray HT_ ?_
                 refine zq 5 (some 73) (ba 18 61).toArray HT_ ?_
                 refine one_ (i := 1) (N := some 69) (ba 18 63).toArray rfl rfl (one_of HT_.out (by kernel_rfl)) (by decide) (fun K hK => ?_)
                 refine goes_ Try.func30 (by kernel_rfl) rfl #[.slice A0 l0.length c0] (by rfl) rfl rfl (by (try simp only [List.map_toArray, List.map_cons, List.map_nil]); first | done | rfl | (simp only [List.length_drop, List.length_take]; rfl)) ?_
                 with_reducible refine (impl_SpansOf.calls k3 _ _ l0 t464 _ ?side1 ?side2 A37.out).mono ?_
                 (case side1 => exact (zC (Kd.C_below HR0.out HB.out)))
                 (case side2 => exact HC0.out)
                 rintro e w75 ⟨v465, rfl, ho0, hb⟩
                 refine ⟨_, rfl, ?_⟩
                 have n0_ := zM (Kd.R_below (zR HO_8.out) hb)
                 have n1_ := zM (Kd.R_lower ho0 (below_size (zB1 GE453.out HB.out)))
                 have n2_ := zM (blk_below (g := gb453) (o := .cells #[.int .i64 a2_0, .string a2_1] 44 (0, 0)) (zP BK453.out) hb)
                 have n3_ := zM (below_step (zB1 GE453.out HB.out) hb)
                 clear HO_8
                 clear BK453
                 clear HB
                 have HO_8 := n0_
                 have HO466 := n1_
                 have BK453 := n2_
                 have HB := n3_
                 clear n0_ n1_ n2_ n3_
                 (try clear hb)
                 (try clear hb2)
                 (try clear hk)
                 (try clear hi)
                 (try clear ho0)
                 obtain ⟨Ao76, co76, eo76⟩ := Kd.R_slice HO466.out
                 (first | subst eo76 | (injection eo76 with f1_ f2_ f3_; have f4_ := f1_.symm; have f5_ := f3_.symm; clear f1_ f2_ f3_; subst f4_; subst f5_))
                 refine hK.out _ _ trivial (fun hHeld => ?_)
                 clear hK K
                 refine norm_ (a' := ?_) ?_ ?_
                 rotate_left
                 ·show Act.put _ (some 69) _ = _
                  simp only [Act.put, List.setIfInBounds_toArray, List.set_cons_zero, List.set_cons_succ, i64_w, i32_w]
                  rfl
                 refine one_ (i := 6) (N := some 74) (ba 18 127).toArray rfl rfl (one_of HT_.out (by kernel_rfl)) (by decide) (fun K hK => ?_)
                 refine goes_ Try.func12 (by kernel_rfl) rfl #[.slice Ao76 t464.length co76, .agg #[.int .i64 ji69, .int .i64 (wrap64 ((ji69) + 1))]] (by rfl) rfl rfl (by (try simp only [List.map_toArray, List.map_cons, List.map_nil]); first | done | (simp only [hji69]; rfl) | rfl | (simp only [List.length_drop, List.length_take]; rfl)) ?_
                 with_reducible refine (impl_CoversSpan.calls _ _ t464 ji69 (wrap64 ((ji69) + 1)) false _ ?side1 ?side2 A38.out).mono ?_
                 (case side1 => exact (zC ((Kd.R_reads' HO466.out).2.2)))
                 (case side2 => exact (Kd.R_reads' HO466.out).2.1)
                 rintro e w77 ⟨rfl, hb⟩
                 refine ⟨_, rfl, ?_⟩
                 have n0_ := zM (Kd.R_below (zR HO_8.out) hb)
                 have n1_ := zM (Kd.R_below (zR HO466.out) hb)
                 have n2_ := zM (blk_below (g := gb453) (o := .cells #[.int .i64 a2_0, .string a2_1] 44 (0, 0)) (zP BK453.out) hb)
                 have n3_ := zM (below_step (zB1 GE453.out HB.out) hb)
                 clear HO_8
                 clear HO466
                 clear BK453
                 clear HB
                 have HO_8 := n0_
                 have HO466 := n1_
                 have BK453 := n2_
                 have HB := n3_
                 clear n0_ n1_ n2_ n3_
                 (try clear hb)
                 (try clear hb2)
                 (try clear hk)
                 (try clear hi)
                 refine hK.out _ _ trivial (fun hHeld => ?_)
                 clear hK K
                 refine norm_ (a' := ?_) ?_ ?_
                 rotate_left
                 ·show Act.put _ (some 74) _ = _
                  simp only [Act.put, List.setIfInBounds_toArray, List.set_cons_zero, List.set_cons_succ, i64_w, i32_w]
                  rfl
                 refine zq 7 (some 75) (ba 18 255).toArray HT_ ?_
                 refine zu 8 (some 76) (ba 18 511).toArray HT_ ?_
                 refine zu 9 (some 77) (ba 18 1023).toArray HT_ ?_
                 refine zu 10 (some 78) (ba 18 2047).toArray HT_ ?_
                 refine zu 11 (some 79) (ba 18 4095).toArray HT_ ?_
                 refine zu 12 (some 80) (ba 18 8191).toArray HT_ ?_
                 refine zu 13 (some 81) (ba 18 16383).toArray HT_ ?_
                 refine zu 14 (some 82) (ba 18 32767).toArray HT_ ?_
                 refine zu 15 (some 83) (ba 18 65535).toArray HT_ ?_
                 refine zu 16 (some 84) (ba 18 131071).toArray HT_ ?_
                 refine zq 17 (some 85) (ba 18 262143).toArray HT_ ?_
                 refine done_ (done_of HT_.out (by kernel_rfl)) ?_
                 have hcz78_0 : w77.cell? ⟨gb453, 0, none⟩ = some (.int .i64 a2_0) := (blk_cell BK453.out 0).trans rfl
                 have hcz78_1 : w77.cell? ⟨gb453, 1, none⟩ = some (.string a2_1) := (blk_cell BK453.out 1).trans rfl
                 have hfz78_0 := blk_frozen BK453.out 0
                 have hfz78_1 := blk_frozen BK453.out 1
                 have p68 : 0 ≤ (x61_3 : Int) := zD
                 have q68 : x61_3 < (a2_1.size : Int) := zD
                 have hx68 := bt_at a2_1 x61_3
                 replace p68 := eq_true p68
                 replace q68 := eq_true q68
                 have p72 : 0 ≤ ((ji69) : Int) := zD
                 have q72 : ((ji69) : Int) < ((x8_3.length : Int) : Int) := zD
                 obtain ⟨go72, co72, eo72, gb72, gl72, cl72, HG72⟩ := Kd.R_form HO_8.out (by omega)
                 (first | cases eo72 | (injection eo72 with ea_ en_ ec_; (first | subst ea_ | (injection ea_ with ea_; subst ea_)); subst ec_; clear en_))
                 have GB72 := zM gb72
                 have GG72 := zM HG72
                 clear gb72 gl72 HG72
                 obtain ⟨hx72_0, hf72_0⟩ := Kd.R_celln 0 HO_8.out ((ji69) : Int) p72 q72
                 replace p72 := eq_true p72
                 replace q72 := eq_true q72
                 obtain ⟨hy79_, hz79_⟩ := Kd.R_celln 0 HO_8.out ((ji69) : Int) (zD) (zD)
                 have HP79 := Kd.R_putg HO_8.out ((ji69) : Int) (bt a2_1 x61_3)
                 try go_wp2_with (first | ((with_reducible refine gate_store (t := 5) (p := 94) rfl ?_); refine store_event (t := 5) (p := 94) (v := ?vo_w80) (w1 := (w77.setCell ⟨go72, ((ji69) : Int).toNat, none⟩ (.int .u8 (bt a2_1 x61_3)))) ?hg ?ho ?hn ?hr ?_; (case ho => rfl); (case hg => rfl); (case hn => rfl); (case hr => first | (go_simp; done) | (go_simp; rfl)); intro w80 hw; have hg : w77.grownBy w80 (some go72) := (by rw [hw]; exact HP79.2); have hp_ : Kd.R (Kd.int .u8) 5 w80 w.heap.size (fun _ => True) (.slice (some ⟨go72, 0, none⟩) x8_3.length co72) y473 := (by rw [hw, Ny473.out]; exact HP79.1); clear HP79; have n0_ := zM (hp_); have n1_ := zM (blk_grown (g := gb453) (o := .cells #[.int .i64 a2_0, .string a2_1] 44 (0, 0)) (zP BK453.out) hg (Kd.R_ne HO_8.out BK453.out (by decide))); have n2_ := zM (Kd.R_over' (v := (.slice (some ⟨go72, 0, none⟩) x8_3.length co72)) (zR HO466.out) (Kd.R_typed HO_8.out) (by decide) hg); have n3_ := zM ((by rw [hw]; exact below_set (HB.out) GB72.out : Below w.heap.size w w80)); clear HO_8; clear BK453; clear HO466; clear HB; have HO_8 := n0_; have BK453 := n1_; have HO466 := n2_; have HB := n3_; clear n0_ n1_ n2_ n3_; clear hg hw hp_))
                 go_roundg k3
                 case measure => have := HJ3.out; have := HK2.out; have := HK3.out; omega
                 case rel => exact ⟨(y473), (wrap64 (x61_3 + 1)), zS, H', ⟨by have := HJ3.out; have := HK2.out; have := HK3.out; omega⟩, ⟨(zR HO_8.out)⟩, ⟨(zP BK453.out)⟩, ⟨(zB1 GE453.out HB.out)⟩⟩
                ·rw [if_neg c71] at H
                 exact absurd H (by simp)
               ·rw [if_neg c70] at H
                exact absurd H (by simp)
              ·rw [if_neg c67] at H
               exact absurd H (by simp)
             ·rw [if_neg c66] at H
              exact absurd H (by simp)
           ·rw [if_neg c36] at H
            have c36b0 : decide (x61_3 < (a2_1.size : Int)) = false := decide_eq_false c36
            clear c36
            obtain ⟨y474, hy474⟩ : ∃ y_ : List (S44), y_ = (([] : List (S44))) := ⟨_, rfl⟩
            replace H : ((impl_SpansOf.f k3 l0).bind fun t477 => ((impl_AddSpan.f k3 t477 a2_0 (wrap64 (a2_0 + (a2_1.size : Int)))).bind fun t480 => (impl_AddPiece.l2 k3 l0 x8_3 y474 t480 (t480.length : Int) 0))) = some (r1, r2) := zH hy474 H
            have Ny474 := zM hy474
            clear hy474
            replace H := Option.bind_eq_some_iff.mp H
            obtain ⟨t477, A810, H⟩ := H
            try dsimp only at H
            have A81 := zM A810
            clear A810
            replace H := Option.bind_eq_some_iff.mp H
            obtain ⟨t480, A820, H⟩ := H
            try dsimp only at H
            have A82 := zM A820
            clear A820
            have H' := zM H
            clear H
            try go_wp2_with (first | ((with_reducible refine gate_dst (N := 96) rfl ?_); (try (refine gate_guard (by rfl) ?_; dsimp only)); refine Kd.R_lit k44 _ 44 ?hg (N := 96) ?hd (xs := ([] : List (S44))) (inner := []) (ok := fun _ => True) (okp := fun _ => True) ?hr ?hp (fun _ hk => hk) trivial (Below.refl _ _) (Nat.le_refl _) (by simp) ?_; (case hd => rfl); (case hg => rfl); (case hr => first | (go_simp; done) | (go_simp; rfl)); (case hp => exact (Reps.none _ _)); intro v475 w83 ho84 hb hg_ hnew_; clear hg_ hnew_; (first | rw [← Ny474.out] at ho84 | (simp only [Int.reduceToNat] at ho84; rw [← Ny474.out] at ho84)); have n0_ := zM (Kd.R_below (zR HO_8.out) hb); have n1_ := zM (Kd.R_lower (Kd.R_newB ho84 (g := gb453) (o := .cells #[.int .i64 a2_0, .string a2_1] 44 (0, 0)) (zP BK453.out)) (below_size (zB1 GE453.out HB.out))); have n2_ := zM (blk_below (g := gb453) (o := .cells #[.int .i64 a2_0, .string a2_1] 44 (0, 0)) (zP BK453.out) hb); have n3_ := zM (below_step (zB1 GE453.out HB.out) hb); clear HO_8; clear BK453; clear HB; have HO_8 := n0_; have HO476 := n1_; have BK453 := n2_; have HB := n3_; clear n0_ n1_ n2_ n3_; clear hb ho84))
            have n0_ := zM (Kd.R_drew HO_8.out)
            have n1_ := zM (Kd.R_drew HO476.out)
            have n2_ := zM (blk_drew BK453.out)
            have n3_ := zM (below_drew1 HB.out)
            clear HO_8
            clear HO476
            clear BK453
            clear HB
            have HO_8 := n0_
            have HO476 := n1_
            have BK453 := n2_
            have HB := n3_
            clear n0_ n1_ n2_ n3_
            refine start_ (n := 14) (S := fun w' => w'.cell? ⟨gb453, 0, none⟩ = some (.int .i64 a2_0) ∧ w'.cell? ⟨gb453, 1, none⟩ = some (.string a2_1)) (ds := []) (ba 14 0).toArray (by kernel_rfl) rfl rfl ⟨(blk_cell BK453.out 0).trans rfl, (blk_cell BK453.out 1).trans rfl⟩ (fun hHeld => ?_); refine with_tabW impl_AddPiece.tab18 impl_AddPiece.bits18 (fun HT_ HW_ => ?_)
            generalize w83.drew = w85 at HO_8 HO476 BK453 HB hHeld ⊢
            refine zq 0 (some 97) (ba 14 1).toArray HT_ ?_
            refine zq 2 (some 99) (ba 14 5).toArray HT_ ?_
            refine zq 4 (some 101) (ba 14 21).toArray HT_ ?_
            refine zq 6 (some 103) (ba 14 85).toArray HT_ ?_
            refine zq 13 (some 110) (ba 14 8277).toArray HT_ ?_
            refine zt2 3 (some 100) (ba 14 8285).toArray HT_ HW_ hHeld ?_
            refine zt2 5 (some 102) (ba 14 8317).toArray HT_ HW_ hHeld ?_
            refine zt2 7 (some 104) (ba 14 8445).toArray HT_ HW_ hHeld ?_
            refine zq 8 (some 105) (ba 14 8701).toArray HT_ ?_
            refine zq 9 (some 106) (ba 14 9213).toArray HT_ ?_
            refine zq 10 (some 107) (ba 14 10237).toArray HT_ ?_
            refine one_ (i := 1) (N := some 98) (ba 14 10239).toArray rfl rfl (one_of HT_.out (by kernel_rfl)) (by decide) (fun K hK => ?_)
            refine goes_ Try.func30 (by kernel_rfl) rfl #[.slice A0 l0.length c0] (by rfl) rfl rfl (by (try simp only [List.map_toArray, List.map_cons, List.map_nil]); first | done | rfl | (simp only [List.length_drop, List.length_take]; rfl)) ?_
            with_reducible refine (impl_SpansOf.calls k3 _ _ l0 t477 _ ?side1 ?side2 A81.out).mono ?_
            (case side1 => exact (zC (Kd.C_below HR0.out HB.out)))
            (case side2 => exact HC0.out)
            rintro e w86 ⟨v478, rfl, ho0, hb⟩
            refine ⟨_, rfl, ?_⟩
            have n0_ := zM (Kd.R_below (zR HO_8.out) hb)
            have n1_ := zM (Kd.R_below (zR HO476.out) hb)
            have n2_ := zM (Kd.R_lower ho0 (below_size (zB1 GE453.out HB.out)))
            have n3_ := zM (blk_below (g := gb453) (o := .cells #[.int .i64 a2_0, .string a2_1] 44 (0, 0)) (zP BK453.out) hb)
            have n4_ := zM (below_step (zB1 GE453.out HB.out) hb)
            clear HO_8
            clear HO476
            clear BK453
            clear HB
            have HO_8 := n0_
            have HO476 := n1_
            have HO479 := n2_
            have BK453 := n3_
            have HB := n4_
            clear n0_ n1_ n2_ n3_ n4_
            (try clear hb)
            (try clear hb2)
            (try clear hk)
            (try clear hi)
            (try clear ho0)
            obtain ⟨Ao87, co87, eo87⟩ := Kd.R_slice HO479.out
            (first | subst eo87 | (injection eo87 with f1_ f2_ f3_; have f4_ := f1_.symm; have f5_ := f3_.symm; clear f1_ f2_ f3_; subst f4_; subst f5_))
            refine hK.out _ _ ⟨(blk_cell BK453.out 0).trans rfl, (blk_cell BK453.out 1).trans rfl⟩ (fun hHeld => ?_)
            clear hK K
            refine norm_ (a' := ?_) ?_ ?_
            rotate_left
            ·show Act.put _ (some 98) _ = _
             simp only [Act.put, List.setIfInBounds_toArray, List.set_cons_zero, List.set_cons_succ, i64_w, i32_w]
             rfl
            refine one_ (i := 11) (N := some 108) (ba 14 12287).toArray rfl rfl (one_of HT_.out (by kernel_rfl)) (by decide) (fun K hK => ?_)
            refine goes_ Try.func8 (by kernel_rfl) rfl #[.slice Ao87 t477.length co87, .agg #[.int .i64 a2_0, .int .i64 (wrap64 (a2_0 + (a2_1.size : Int)))]] (by rfl) rfl rfl (by (try simp only [List.map_toArray, List.map_cons, List.map_nil]); first | done | rfl | (simp only [List.length_drop, List.length_take]; rfl)) ?_
            with_reducible refine (impl_AddSpan.calls k3 _ _ t477 a2_0 (wrap64 (a2_0 + (a2_1.size : Int))) t480 _ ?side1 ?side2 A82.out).mono ?_
            (case side1 => exact (zC ((Kd.R_reads' HO479.out).2.2)))
            (case side2 => exact (Kd.R_reads' HO479.out).2.1)
            rintro e w88 ⟨v481, rfl, ho0, hb⟩
            refine ⟨_, rfl, ?_⟩
            have n0_ := zM (Kd.R_below (zR HO_8.out) hb)
            have n1_ := zM (Kd.R_below (zR HO476.out) hb)
            have n2_ := zM (Kd.R_elder' (zR HO479.out) (Kd.R_base ho0) hb)
            have n3_ := zM (Kd.R_lower (Kd.R_new' ho0 (Kd.R_lt (zR HO479.out))) (below_size (zB1 GE453.out HB.out)))
            have n4_ := zM (blk_below (g := gb453) (o := .cells #[.int .i64 a2_0, .string a2_1] 44 (0, 0)) (zP BK453.out) hb)
            have n5_ := zM (below_step (zB1 GE453.out HB.out) hb)
            clear HO_8
            clear HO476
            clear HO479
            clear BK453
            clear HB
            have HO_8 := n0_
            have HO476 := n1_
            have HO479 := n2_
            have HO482 := n3_
            have BK453 := n4_
            have HB := n5_
            clear n0_ n1_ n2_ n3_ n4_ n5_
            (try clear hb)
            (try clear hb2)
            (try clear hk)
            (try clear hi)
            (try clear ho0)
            obtain ⟨Ao89, co89, eo89⟩ := Kd.R_slice HO482.out
            (first | subst eo89 | (injection eo89 with f1_ f2_ f3_; have f4_ := f1_.symm; have f5_ := f3_.symm; clear f1_ f2_ f3_; subst f4_; subst f5_))
            refine hK.out _ _ ⟨(blk_cell BK453.out 0).trans rfl, (blk_cell BK453.out 1).trans rfl⟩ (fun hHeld => ?_)
            clear hK K
            refine norm_ (a' := ?_) ?_ ?_
            rotate_left
            ·show Act.put _ (some 108) _ = _
             simp only [Act.put, List.setIfInBounds_toArray, List.set_cons_zero, List.set_cons_succ, i64_w, i32_w]
             rfl
            refine zq 12 (some 109) (ba 14 16383).toArray HT_ ?_
            refine done_ (done_of HT_.out (by kernel_rfl)) ?_
            try go_wp2
            go_loopg [13, 110] k3 (fun kq v13 v110 w' => ∃ (x13_4 : List (S44)) (x110_4 : Int), v110 = .int .i64 x110_4 ∧ Aside0 (impl_AddPiece.l2 kq l0 x8_3 x13_4 t480 (t480.length : Int) x110_4 = some (r1, r2)) ∧ Aside0 (kq ≤ k3) ∧ Aside0 (Kd.R (Kd.int .u8) 5 w' w.heap.size (fun _ => True) v459 x8_3) ∧ Aside0 (Kd.R k44 44 w' w.heap.size (fun k_ => k_ ≠ gb453) v13 x13_4) ∧ Aside0 (Kd.R k26 26 w' w.heap.size (fun _ => True) (.slice Ao89 t480.length co89) t480) ∧ Aside0 (w'.heap[gb453]? = some (.cells #[.int .i64 a2_0, .string a2_1] 44 (0, 0))) ∧ Aside0 (Below w.heap.size w w'))
            case atStart => exact ⟨(y474), (0), zS, H', ⟨Nat.le_refl _⟩, ⟨(zR HO_8.out)⟩, ⟨(zRm HO476.out (fun _ hk => hk.2))⟩, ⟨(zRm HO482.out (fun _ hk => trivial))⟩, ⟨(zP BK453.out)⟩, ⟨(zB1 GE453.out HB.out)⟩⟩
            case round =>
             clear H'
             try clear c1
             try clear p2
             try clear c3
             try clear c4
             try clear p4
             try clear q4
             try clear hx4
             try clear c6
             try clear p6
             try clear q6
             try clear hx6
             try clear c7
             try clear p7
             try clear q7
             try clear hx7
             try clear hf7
             try clear c8
             try clear c12
             try clear c30
             try clear c36
             try clear c36b0
             try clear c39
             try clear c41
             try clear c42
             try clear c43
             try clear c44
             try clear p45
             try clear q45
             try clear hx45
             try clear c46
             try clear p64
             try clear c66
             try clear c66b0
             try clear c67
             try clear c67b0
             try clear p68
             try clear q68
             try clear hx68
             try clear c70
             try clear c70b0
             try clear c71
             try clear c71b0
             try clear p72
             try clear q72
             try clear hx72
             try clear hf72
             try clear hcz73_0
             try clear hcz73_1
             try clear hcz78_0
             try clear hcz78_1
             try clear hfz73_0
             try clear hfz73_1
             try clear hfz78_0
             try clear hfz78_1
             try clear hx72_0
             try clear p45
             try clear p68
             try clear p72
             try clear q45
             try clear q68
             try clear q72
             obtain ⟨x13_4, x110_4, rfl, HA, HK4, HO_8, HO_13, HO_108, BK453, HB⟩ := hrel
             cases gk with
             | zero => exact absurd HA.out (by simp [impl_AddPiece.l2])
             | succ k4 =>
              have H := HA.out
              clear HA
              simp only [impl_AddPiece.l2] at H
              by_cases c90 : x110_4 < (t480.length : Int)
              ·rw [if_pos c90] at H
               have c90b0 : decide (x110_4 < (t480.length : Int)) = true := decide_eq_true c90
               clear c90
               by_cases c91 : 0 ≤ x110_4
               ·rw [if_pos c91] at H
                have c91b0 : decide (0 ≤ x110_4) = true := decide_eq_true c91
                clear c91
                by_cases c92 : x110_4 < (t480.length : Int)
                ·rw [if_pos c92] at H
                 have c92b0 : decide (x110_4 < (t480.length : Int)) = true := decide_eq_true c92
                 clear c92
                 by_cases c93 : 0 ≤ ((rd_T26 t480 x110_4).f0)
                 ·rw [if_pos c93] at H
                  have c93b0 := eq_true c93
                  have c93b1 : decide (0 ≤ ((rd_T26 t480 x110_4).f0)) = true := decide_eq_true c93
                  clear c93
                  by_cases c94 : ((rd_T26 t480 x110_4).f0) ≤ ((rd_T26 t480 x110_4).f1)
                  ·rw [if_pos c94] at H
                   have c94b0 := eq_true c94
                   have c94b1 : decide (((rd_T26 t480 x110_4).f0) ≤ ((rd_T26 t480 x110_4).f1)) = true := decide_eq_true c94
                   clear c94
                   by_cases c95 : ((rd_T26 t480 x110_4).f1) ≤ (x8_3.length : Int)
                   ·rw [if_pos c95] at H
                    have c95b0 := eq_true c95
                    have c95b1 : decide (((rd_T26 t480 x110_4).f1) ≤ (x8_3.length : Int)) = true := decide_eq_true c95
                    clear c95
                    obtain ⟨y485, hy485⟩ : ∃ y_ : List Int, y_ = ((x8_3.take (((rd_T26 t480 x110_4).f1) : Int).toNat).drop (((rd_T26 t480 x110_4).f0) : Int).toNat) := ⟨_, rfl⟩
                    replace H : (if x13_4.length < 5864062014805 then (impl_AddPiece.l2 k4 l0 x8_3 (x13_4 ++ [(⟨(rd_T26 t480 x110_4).f0, strOfNums y485⟩ : S44)]) t480 (t480.length : Int) (wrap64 (x110_4 + 1))) else (none)) = some (r1, r2) := zH hy485 H
                    have Ny485 := zM hy485
                    clear hy485
                    by_cases c96 : x13_4.length < 5864062014805
                    ·rw [if_pos c96] at H
                     have LMc96 := zM c96
                     clear c96
                     obtain ⟨y489, hy489⟩ : ∃ y_ : List (S44), y_ = (x13_4 ++ [(⟨(rd_T26 t480 x110_4).f0, strOfNums y485⟩ : S44)]) := ⟨_, rfl⟩
                     replace H : (impl_AddPiece.l2 k4 l0 x8_3 y489 t480 (t480.length : Int) (wrap64 (x110_4 + 1))) = some (r1, r2) := zH hy489 H
                     have Ny489 := zM hy489
                     clear hy489
                     have H' := zM H
                     clear H
                     have p483 : 0 ≤ (x110_4 : Int) := zD
                     have q483 : x110_4 < (t480.length : Int) := zD
                     obtain ⟨ad483, e483, hx483_0, hx483_1⟩ := at_T26 (Kd.R_reads' HO_108.out).2.2 x110_4 p483 q483
                     cases e483
                     replace p483 := eq_true p483
                     replace q483 := eq_true q483
                     try go_wp2_with (first | ((with_reducible refine gate_dst (N := 15) rfl ?_); (try (refine gate_guard (by rfl) ?_; dsimp only)); refine box_event ?hg (N := 15) ?hd (cs := #[.int .i64 0, .int .i64 0]) (t := 26) ?hr ?_; (case hd => rfl); (case hg => rfl); (case hr => first | (go_simp; done) | (go_simp; rfl)); intro gb484 hg w97 hbox hb; have n0_ := zM (Kd.R_below (zR HO_8.out) hb); have n1_ := zM (Kd.R_below (zR HO_13.out) hb); have n2_ := zM (Kd.R_below (Kd.R_elderB (zR HO_108.out) gb484 (Nat.le_of_eq hg.symm)) hb); have n3_ := zM (blk_below (g := gb453) (o := .cells #[.int .i64 a2_0, .string a2_1] 44 (0, 0)) (zP BK453.out) hb); have n4_ := zM (below_step (zB1 GE453.out HB.out) hb); have n5_ := zM (hbox); have n6_ := zM ((by rw [hg]; exact (below_size (zB1 GE453.out HB.out)) : w.heap.size ≤ gb484)); have n7_ := zM ((by rw [hg]; exact (below_size (zB1 GE453.out HB.out)) : w.heap.size ≤ gb484)); have n8_ := zM ((by rw [hg]; exact Nat.ne_of_lt (blk_lt (g := gb453) (o := .cells #[.int .i64 a2_0, .string a2_1] 44 (0, 0)) (zP BK453.out)) : gb453 ≠ gb484)); have n9_ := zM ((by rw [hg]; exact Nat.ne_of_gt (blk_lt (g := gb453) (o := .cells #[.int .i64 a2_0, .string a2_1] 44 (0, 0)) (zP BK453.out)) : gb484 ≠ gb453)); clear HO_8; clear HO_13; clear HO_108; clear BK453; clear HB; have HO_8 := n0_; have HO_13 := n1_; have HO_108 := n2_; have BK453 := n3_; have HB := n4_; have BK484 := n5_; have GW484 := n6_; have GE484 := n7_; have NB453_484 := n8_; have NB484_453 := n9_; clear n0_ n1_ n2_ n3_ n4_ n5_ n6_ n7_ n8_ n9_; clear hb hbox hg; have hnb98 := NB484_453.out; have hnc98 := NB453_484.out; have hcz99_0 : w97.cell? ⟨gb484, 0, none⟩ = some (.int .i64 0) := (blk_cell BK484.out 0).trans rfl; have hcz99_1 : w97.cell? ⟨gb484, 1, none⟩ = some (.int .i64 0) := (blk_cell BK484.out 1).trans rfl; have hfz99_0 := blk_frozen BK484.out 0; have hfz99_1 := blk_frozen BK484.out 1))
                     have n0_ : Aside0 (Kd.R (Kd.int .u8) 5 ((w97.setCell ⟨gb484, 0, none⟩ (.int .i64 ((rd_T26 t480 x110_4).f0))).setCell ⟨gb484, 1, none⟩ (.int .i64 ((rd_T26 t480 x110_4).f1))) w.heap.size (fun _ => True) v459 x8_3) := ⟨by (with_reducible repeat (first | apply Kd.R_alloc | apply Kd.R_drewN | apply Kd.R_drew)); exact Kd.R_mono (Kd.R_far (p := ⟨gb484, 1, none⟩) (Kd.R_far (p := ⟨gb484, 0, none⟩) (Kd.R_types HO_8.out BK484.out (by decide)) (fun _ hk => hk.2) (.int .i64 ((rd_T26 t480 x110_4).f0))) (fun _ hk => hk.2) (.int .i64 ((rd_T26 t480 x110_4).f1))) (fun _ hk => trivial)⟩
                     have n1_ : Aside0 (Kd.R k44 44 ((w97.setCell ⟨gb484, 0, none⟩ (.int .i64 ((rd_T26 t480 x110_4).f0))).setCell ⟨gb484, 1, none⟩ (.int .i64 ((rd_T26 t480 x110_4).f1))) w.heap.size (fun k_ => k_ ≠ gb453) u13 x13_4) := ⟨by (with_reducible repeat (first | apply Kd.R_alloc | apply Kd.R_drewN | apply Kd.R_drew)); exact Kd.R_mono (Kd.R_far (p := ⟨gb484, 1, none⟩) (Kd.R_far (p := ⟨gb484, 0, none⟩) (Kd.R_types HO_13.out BK484.out (by decide)) (fun _ hk => hk.2) (.int .i64 ((rd_T26 t480 x110_4).f0))) (fun _ hk => hk.2) (.int .i64 ((rd_T26 t480 x110_4).f1))) (fun _ hk => hk.1)⟩
                     have n2_ : Aside0 (Kd.R k26 26 ((w97.setCell ⟨gb484, 0, none⟩ (.int .i64 ((rd_T26 t480 x110_4).f0))).setCell ⟨gb484, 1, none⟩ (.int .i64 ((rd_T26 t480 x110_4).f1))) w.heap.size (fun k_ => k_ ≠ gb484) (.slice (some ad483) t480.length co89) t480) := ⟨by (with_reducible repeat (first | apply Kd.R_alloc | apply Kd.R_drewN | apply Kd.R_drew)); exact Kd.R_mono (Kd.R_far (p := ⟨gb484, 1, none⟩) (Kd.R_far (p := ⟨gb484, 0, none⟩) (Kd.R_mono HO_108.out (fun k_ hk => (⟨hk, hk.2⟩ : _ ∧ k_ ≠ gb484))) (fun _ hk => hk.2) (.int .i64 ((rd_T26 t480 x110_4).f0))) (fun _ hk => hk.2) (.int .i64 ((rd_T26 t480 x110_4).f1))) (fun _ hk => hk.1.2)⟩
                     have n3_ : Aside0 (((w97.setCell ⟨gb484, 0, none⟩ (.int .i64 ((rd_T26 t480 x110_4).f0))).setCell ⟨gb484, 1, none⟩ (.int .i64 ((rd_T26 t480 x110_4).f1))).heap[gb453]? = some (.cells #[.int .i64 a2_0, .string a2_1] 44 (0, 0))) := ⟨by (with_reducible repeat (first | refine blk_drewN ?_ _ | refine blk_drew ?_ | refine blk_alloc ?_ _)); refine blk_far ?_ NB453_484.out _; (with_reducible repeat (first | refine blk_drewN ?_ _ | refine blk_drew ?_ | refine blk_alloc ?_ _)); refine blk_far ?_ NB453_484.out _; (with_reducible repeat (first | refine blk_drewN ?_ _ | refine blk_drew ?_ | refine blk_alloc ?_ _)); exact BK453.out⟩
                     have n4_ : Aside0 (((w97.setCell ⟨gb484, 0, none⟩ (.int .i64 ((rd_T26 t480 x110_4).f0))).setCell ⟨gb484, 1, none⟩ (.int .i64 ((rd_T26 t480 x110_4).f1))).heap[gb484]? = some (.cells #[.int .i64 ((rd_T26 t480 x110_4).f0), .int .i64 ((rd_T26 t480 x110_4).f1)] 26 (0, 0))) := ⟨by (with_reducible repeat (first | refine blk_drewN ?_ _ | refine blk_drew ?_ | refine blk_alloc ?_ _)); refine blk_put (cs := #[.int .i64 ((rd_T26 t480 x110_4).f0), .int .i64 0]) ?_ 1 _ rfl; (with_reducible repeat (first | refine blk_drewN ?_ _ | refine blk_drew ?_ | refine blk_alloc ?_ _)); refine blk_put (cs := #[.int .i64 0, .int .i64 0]) ?_ 0 _ rfl; (with_reducible repeat (first | refine blk_drewN ?_ _ | refine blk_drew ?_ | refine blk_alloc ?_ _)); exact BK484.out⟩
                     have n5_ : Aside0 (Below w.heap.size w ((w97.setCell ⟨gb484, 0, none⟩ (.int .i64 ((rd_T26 t480 x110_4).f0))).setCell ⟨gb484, 1, none⟩ (.int .i64 ((rd_T26 t480 x110_4).f1)))) := ⟨(zB2 GE453.out GE484.out HB.out)⟩
                     (try clear HO_8)
                     (try clear HO_13)
                     (try clear HO_108)
                     (try clear BK453)
                     (try clear BK484)
                     (try clear HB)
                     generalize ((w97.setCell ⟨gb484, 0, none⟩ (.int .i64 ((rd_T26 t480 x110_4).f0))).setCell ⟨gb484, 1, none⟩ (.int .i64 ((rd_T26 t480 x110_4).f1))) = w100 at n0_ n1_ n2_ n3_ n4_ n5_ ⊢
                     have HO_8 := n0_
                     have HO_13 := n1_
                     have HO_108 := n2_
                     have BK453 := n3_
                     have BK484 := n4_
                     have HB := n5_
                     clear n0_ n1_ n2_ n3_ n4_ n5_
                     have n0_ := zM (Kd.R_drew HO_8.out)
                     have n1_ := zM (Kd.R_drew HO_13.out)
                     have n2_ := zM (Kd.R_drew HO_108.out)
                     have n3_ := zM (blk_drew BK453.out)
                     have n4_ := zM (blk_drew BK484.out)
                     have n5_ := zM (below_drew1 HB.out)
                     clear HO_8
                     clear HO_13
                     clear HO_108
                     clear BK453
                     clear BK484
                     clear HB
                     have HO_8 := n0_
                     have HO_13 := n1_
                     have HO_108 := n2_
                     have BK453 := n3_
                     have BK484 := n4_
                     have HB := n5_
                     clear n0_ n1_ n2_ n3_ n4_ n5_
                     obtain ⟨Ao103, co103, eo103⟩ := Kd.R_slice HO_8.out
                     (first | subst eo103 | (injection eo103 with f1_ f2_ f3_; have f4_ := f1_.symm; have f5_ := f3_.symm; clear f1_ f2_ f3_; subst f4_; subst f5_))
                     have q102 : (((rd_T26 t480 x110_4).f1) : Int) ≤ ((x8_3.length : Int) : Int) := zD
                     obtain ⟨i0102, hi0102, _, hsz102, _⟩ := info_parts info5
                     have hroom102 : x8_3.length ≤ co103 := (Kd.R_reads' HO_8.out).2.1
                     have hC102 : Kd.C (Kd.int .u8) _ Ao103 x8_3.length x8_3 := (Kd.R_reads' HO_8.out).2.2
                     have ql102 : (((rd_T26 t480 x110_4).f0) : Int) ≤ (((rd_T26 t480 x110_4).f1) : Int) := zD
                     have q0102 : (0 : Int) ≤ (((rd_T26 t480 x110_4).f0) : Int) := zD
                     have hcut102 := cut_mid (P := Try.prog) 22 5 .i64 .i64 Try.underlying22 hi0102 1 hsz102 Ao103 x8_3.length co103 ((rd_T26 t480 x110_4).f0) ((rd_T26 t480 x110_4).f1) q0102 ql102 q102 hroom102
                     have hr102 := Kd.C_mid (lo := (((rd_T26 t480 x110_4).f0) : Int).toNat) (hi := (((rd_T26 t480 x110_4).f1) : Int).toNat) (c := co103) hC102 (by omega) (by omega) hroom102
                     obtain ⟨A102, hA102⟩ : ∃ A1, A1 = (if co103 = (((rd_T26 t480 x110_4).f0) : Int).toNat then Ao103 else (Ao103 : Option Addr).map (·.add ((((rd_T26 t480 x110_4).f0) : Int).toNat * 1))) := ⟨_, rfl⟩
                     obtain ⟨c102, hc102⟩ : ∃ c1, c1 = co103 - (((rd_T26 t480 x110_4).f0) : Int).toNat := ⟨_, rfl⟩
                     have hy102 : y485.length = (((rd_T26 t480 x110_4).f1) : Int).toNat - (((rd_T26 t480 x110_4).f0) : Int).toNat := (by rw [Ny485.out, List.length_drop, List.length_take] <;> omega)
                     rw [show ((x8_3).take (((rd_T26 t480 x110_4).f1) : Int).toNat).drop (((rd_T26 t480 x110_4).f0) : Int).toNat = y485 from Ny485.out.symm] at hr102
                     replace hr102 : Kd.C (Kd.int .u8) _ A102 y485.length y485 := (by rw [hA102]; exact hr102)
                     rw [← hy102, ← hA102, ← hc102] at hcut102
                     have HR488 := zM hr102
                     have HC488 := zM (show y485.length ≤ c102 from by rw [hy102, hc102]; exact Nat.sub_le_sub_right (Nat.le_trans (by omega) hroom102) _)
                     clear hr102 hC102 hroom102 hi0102 hsz102 hc102
                     have KY102 := zM hy102
                     have KA102 := zM hA102
                     clear hy102 hA102
                     have KL102 := zM (show (((rd_T26 t480 x110_4).f1) : Int).toNat ≤ x8_3.length from by omega)
                     have KM102 := zM (show (((rd_T26 t480 x110_4).f0) : Int).toNat ≤ (((rd_T26 t480 x110_4).f1) : Int).toNat from by omega)
                     replace q102 := eq_true q102
                     have hcv104 := Kd.C_string (P := Try.prog) (A := A102) (c := c102) Try.underlying22 Try.underlying5 Try.underlying9 (by repeat (first | (with_reducible exact HR488.out) | (with_reducible refine Kd.C_alloc ?_ _) | (with_reducible refine Kd.C_drewN ?_ _) | (with_reducible refine Kd.C_drew ?_) | exact HR488.out))
                     refine start_ (n := 14) (S := fun w' => w'.cell? ⟨gb484, 0, none⟩ = some (.int .i64 ((rd_T26 t480 x110_4).f0)) ∧ w'.cell? ⟨gb484, 1, none⟩ = some (.int .i64 ((rd_T26 t480 x110_4).f1)) ∧ (convert 22 9 (.slice A102 y485.length c102)).run Try.prog w' = .ok (.string (strOfNums y485)) w') (ds := [11, 12]) (ba 14 0).toArray (by kernel_rfl) rfl rfl ⟨(blk_cell BK484.out 0).trans rfl, (blk_cell BK484.out 1).trans rfl, hcv104⟩ (fun hHeld => ?_); refine with_tabW impl_AddPiece.tab21 impl_AddPiece.bits21 (fun HT_ HW_ => ?_)
                     generalize w100.drew = w101 at HO_8 HO_13 HO_108 BK453 BK484 HB HR488 hHeld ⊢
                     refine zq 0 (some 114) (ba 14 1).toArray HT_ ?_
                     refine zq 1 (some 115) (ba 14 3).toArray HT_ ?_
                     refine zq 3 (some 117) (ba 14 11).toArray HT_ ?_
                     refine zq 4 (some 118) (ba 14 27).toArray HT_ ?_
                     refine zq 6 (some 120) (ba 14 91).toArray HT_ ?_
                     refine zt3 2 (some 116) (ba 14 95).toArray HT_ HW_ hHeld ?_
                     refine zt3 5 (some 119) (ba 14 127).toArray HT_ HW_ hHeld ?_
                     refine zt3 7 (some 121) (ba 14 255).toArray HT_ HW_ hHeld ?_
                     refine zq 8 (some 122) (ba 14 511).toArray HT_ ?_
                     refine zt3 9 (some 123) (ba 14 1023).toArray HT_ HW_ hHeld ?_
                     refine zq 10 (some 124) (ba 14 2047).toArray HT_ ?_
                     refine last_ (i := 11) (N := some 125) (ba 14 4095).toArray rfl rfl (one_of HT_.out (by kernel_rfl)) (by decide) (fun K hK => ?_)
                     refine value_ (w1 := ?_) (v := ?_) (by rfl) rfl ?_ ?_
                     rotate_left 2
                     ·go_simp
                      constructor
                      ·rfl
                      ·rfl
                     refine hK.out _ _ ?_
                     clear hK K
                     refine norm_ (a' := ?_) ?_ ?_
                     rotate_left
                     ·show Act.put _ (some 125) _ = _
                      simp only [Act.put, List.setIfInBounds_toArray, List.set_cons_zero, List.set_cons_succ, i64_w, i32_w]
                      rfl
                     refine last_ (i := 12) (N := some 126) (ba 14 8191).toArray rfl rfl (one_of HT_.out (by kernel_rfl)) (by decide) (fun K hK => ?_)
                     refine Kd.R_append_step k44 (w0 := w) w.heap.size (by rfl) (.tmp 114) (.tmp 125) 40 44 (.agg #[(.int .i64 0), (.string ⟨#[]⟩)]) 24 rfl Try.underlying40 info44 rfl (by decide) (by omega) u13 x13_4 (⟨(rd_T26 t480 x110_4).f0, strOfNums y485⟩ : S44) [.int .i64 ((rd_T26 t480 x110_4).f0), .string (strOfNums y485)] (fun k_ => k_ ≠ gb453) (fun _ => False) rfl rfl ?aP (fun _ hk => hk.elim) ?aF ?aO ?aB ?aS ?aL ?_
                     (case aP => exact k44_mkM _ _ _ (⟨(rd_T26 t480 x110_4).f0, strOfNums y485⟩ : S44))
                     (case aB => exact (zB2 GE453.out GE484.out HB.out))
                     (case aF => exact (fun k_ hk => Kd.freshB (g := gb453) (o := .cells #[.int .i64 a2_0, .string a2_1] 44 (0, 0)) (zP BK453.out) k_ hk))
                     (case aO => exact (zR HO_13.out))
                     (case aS => exact (below_size (zB2 GE453.out GE484.out HB.out)))
                     (case aL => have := LMc96.out; omega)
                     intro v490 w105 ho hb hg hat
                     rw [← Ny489.out] at ho
                     have n0_ := zM (Kd.R_over' (zR HO_8.out) (Kd.R_typed (zR HO_13.out)) (by decide) hg)
                     have n1_ := zM (Kd.R_over' (zR HO_108.out) (Kd.R_typed (zR HO_13.out)) (by decide) hg)
                     have n2_ := zM (blk_grown (g := gb453) (o := .cells #[.int .i64 a2_0, .string a2_1] 44 (0, 0)) (zP BK453.out) hg (Kd.R_away HO_13.out (fun _ hk => hk)))
                     have n3_ := zM (blk_grown (g := gb484) (o := .cells #[.int .i64 ((rd_T26 t480 x110_4).f0), .int .i64 ((rd_T26 t480 x110_4).f1)] 26 (0, 0)) (zP BK484.out) hg (Kd.R_ne HO_13.out BK484.out (by decide)))
                     have n4_ := zM (hb)
                     have n5_ := zM ((show Kd.C (Kd.int .u8) w105 A102 y485.length y485 from by rw [Ny485.out, KA102.out]; exact Kd.C_mid (lo := (((rd_T26 t480 x110_4).f0) : Int).toNat) (hi := (((rd_T26 t480 x110_4).f1) : Int).toNat) (c := co103) ((Kd.R_reads' (Kd.R_over' (zR HO_8.out) (Kd.R_typed (zR HO_13.out)) (by decide) hg)).2.2) KM102.out KL102.out ((Kd.R_reads' (Kd.R_over' (zR HO_8.out) (Kd.R_typed (zR HO_13.out)) (by decide) hg)).2.1)))
                     have n6_ := zM (ho)
                     clear HO_8
                     clear HO_108
                     clear BK453
                     clear BK484
                     clear HB
                     clear HR488
                     clear HO_13
                     have HO_8 := n0_
                     have HO_108 := n1_
                     have BK453 := n2_
                     have BK484 := n3_
                     have HB := n4_
                     have HR488 := n5_
                     have HO491 := n6_
                     clear n0_ n1_ n2_ n3_ n4_ n5_ n6_
                     clear ho hb hg hat
                     refine hK.out _ _ ?_
                     clear hK K
                     refine norm_ (a' := ?_) ?_ ?_
                     rotate_left
                     ·show Act.put _ (some 126) _ = _
                      simp only [Act.put, List.setIfInBounds_toArray, List.set_cons_zero, List.set_cons_succ, i64_w, i32_w]
                      rfl
                     refine zq 13 (some 13) (ba 14 16383).toArray HT_ ?_
                     refine done_ (done_of HT_.out (by kernel_rfl)) ?_
                     try go_wp2
                     go_roundg k4
                     case measure => have := HJ3.out; have := HK2.out; have := HK3.out; have := HK4.out; omega
                     case rel => exact ⟨(y489), (wrap64 (x110_4 + 1)), zS, H', ⟨by have := HJ3.out; have := HK2.out; have := HK3.out; have := HK4.out; omega⟩, ⟨(zR HO_8.out)⟩, ⟨(zR HO491.out)⟩, ⟨(zRm HO_108.out (fun _ hk => trivial))⟩, ⟨(zP BK453.out)⟩, ⟨(zB2 GE453.out GE484.out HB.out)⟩⟩
                    ·rw [if_neg c96] at H
                     exact absurd H (by simp)
                   ·rw [if_neg c95] at H
                    exact absurd H (by simp)
                  ·rw [if_neg c94] at H
                   exact absurd H (by simp)
                 ·rw [if_neg c93] at H
                  exact absurd H (by simp)
                ·rw [if_neg c92] at H
                 exact absurd H (by simp)
               ·rw [if_neg c91] at H
                exact absurd H (by simp)
              ·rw [if_neg c90] at H
               have c90b0 : decide (x110_4 < (t480.length : Int)) = false := decide_eq_false c90
               clear c90
               by_cases c106 : (x13_4.length : Int) > 8
               ·rw [if_pos c106] at H
                have c106b0 : decide (8 < (x13_4.length : Int)) = true := decide_eq_true c106
                have c106b1 : decide (8 < x13_4.length) = true := decide_eq_true (by omega)
                clear c106
                replace H := Option.bind_eq_some_iff.mp H
                obtain ⟨t492, A1070, H⟩ := H
                try dsimp only at H
                have A107 := zM A1070
                clear A1070
                simp only [Option.some.injEq, Prod.mk.injEq] at H
                obtain ⟨rfl, rfl⟩ := H
                obtain ⟨Ao108, co108, eo108⟩ := Kd.R_slice HO_13.out
                subst eo108
                go_wp2_with (first | ((with_reducible refine gate_callee (f := 46) rfl ?_); refine zG (some 132) Try.func46 #[.slice A0 l0.length c0] ?_; (with_reducible refine (impl_Piece.calls _ _ l0 t492 _ ?side1 ?side2 A107.out).mono ?_); (case side1 => exact (zC (Kd.C_below HR0.out HB.out))); (case side2 => exact HC0.out); rintro e w109 ⟨v493, rfl, ho0, hb⟩; refine ⟨_, rfl, ?_⟩; have n0_ := zM (Kd.R_below (zR HO_8.out) hb); have n1_ := zM (Kd.R_elder' (zR HO_13.out) (Kd.R_base ho0) hb); have n2_ := zM (Kd.R_below (zR HO_108.out) hb); have n3_ := zM (Kd.R_lower (Kd.R_newB (Kd.R_new' ho0 (Kd.R_lt (zR HO_13.out))) (g := gb453) (o := .cells #[.int .i64 a2_0, .string a2_1] 44 (0, 0)) (zP BK453.out)) (below_size (zB1 GE453.out HB.out))); have n4_ := zM (blk_below (g := gb453) (o := .cells #[.int .i64 a2_0, .string a2_1] 44 (0, 0)) (zP BK453.out) hb); have n5_ := zM (below_step (zB1 GE453.out HB.out) hb); clear HO_8; clear HO_13; clear HO_108; clear BK453; clear HB; have HO_8 := n0_; have HO_13 := n1_; have HO_108 := n2_; have HO494 := n3_; have BK453 := n4_; have HB := n5_; clear n0_ n1_ n2_ n3_ n4_ n5_; (try clear hb); (try clear hb2); (try clear hk); (try clear hi); (try clear ho0)))
                go_ret2
                exact ⟨_, zE, (zRm HO494.out (fun _ hk => trivial)), (zB1 GE453.out HB.out)⟩
               ·rw [if_neg c106] at H
                have c106b0 : decide (8 < (x13_4.length : Int)) = false := decide_eq_false c106
                have c106b1 : decide (8 < x13_4.length) = false := decide_eq_false (by omega)
                clear c106
                simp only [Option.some.injEq, Prod.mk.injEq] at H
                obtain ⟨rfl, rfl⟩ := H
                obtain ⟨Ao110, co110, eo110⟩ := Kd.R_slice HO_13.out
                subst eo110
                go_wp2
                go_ret2
                exact ⟨_, zE, (zRm HO_13.out (fun _ hk => trivial)), (zB1 GE453.out HB.out)⟩
     ·rw [if_neg c21] at H
      exact absurd H (by simp)
    ·rw [if_neg c20] at H
     exact absurd H (by simp)

end Go.Proofs.Yteahdfibipalkaa.G

namespace Go.Proofs.Yteahdfibipalkaa.G
open Go.RowKit Go.Proofs.YteahdfibipalkaaW.PrintWords Go.Proofs.YteahdfibipalkaaW.PrintLast Go.Proofs.YteahdfibipalkaaW.PrintMore
attribute [local go_sem] max2_int min2_int max_two min_two max_three min_three max_four min_four   -- for this text's walks alone
set_option linter.unusedVariables false
set_option linter.unusedSimpArgs false

/-- A state of type 73 at block g of W; what its slices lead to came in by w0. -/
def IsS73 (w0 W : World) (g : Nat) (f0 : List Int) (f1 : Int) (f2 : Int) : Prop := ∃ A0 c0, W.heap[g]? = some (.cells #[.slice A0 f0.length c0, .int .i64 f1, .int .i64 f2] 73 (0, 0)) ∧ w0.heap.size ≤ g ∧ Kd.C (Kd.int .u8) w0 A0 f0.length f0
theorem IsS73.grown {w0 W : World} {g : Nat} {f0 : List Int} {f1 : Int} {f2 : Int} {W1 : World} {row : Option Nat} (h : IsS73 w0 W g f0 f1 f2) (hw : W.grownBy W1 row) (hne : some g ≠ row) : IsS73 w0 W1 g f0 f1 f2 := by
 obtain ⟨A0, c0, hb, hg, hr0⟩ := h
 exact ⟨A0, c0, blk_grown hb hw hne, hg, hr0⟩
theorem IsS73.own_neN {w0 W : World} {g : Nat} {f0 : List Int} {f1 : Int} {f2 : Int} {α : Type} {d : Kd α} {e : Nat} {base : Nat} {ok : Nat → Prop} {v : Value} {xs : List α} (h : IsS73 w0 W g f0 f1 f2) (ho : Kd.N d e W base ok v xs) (ht : e ≠ 73) : some g ≠ v.ownBlock := by
 obtain ⟨A0, c0, hb, hg, hr0⟩ := h
 exact Kd.N_ne ho hb ht
theorem IsS73.fresh {w0 W : World} {g : Nat} {f0 : List Int} {f1 : Int} {f2 : Int} (h : IsS73 w0 W g f0 f1 f2) : ∀ k, W.heap.size ≤ k → k ≠ g := by
 obtain ⟨A0, c0, hb, hg, hr0⟩ := h
 exact Kd.freshB hb
theorem IsS73.kept {w0 W : World} {g : Nat} {f0 : List Int} {f1 : Int} {f2 : Int} {W1 : World} {S : Nat → Prop} (h : IsS73 w0 W g f0 f1 f2) (hk : Kept W W1 S) (hne : ¬ S g) : IsS73 w0 W1 g f0 f1 f2 := by
 obtain ⟨A0, c0, hb, hg, hr0⟩ := h
 exact ⟨A0, c0, blk_kept hb hk hne, hg, hr0⟩
theorem IsS73.below {w0 W : World} {g : Nat} {f0 : List Int} {f1 : Int} {f2 : Int} {W1 : World} (h : IsS73 w0 W g f0 f1 f2) (hw : Below W.heap.size W W1) : IsS73 w0 W1 g f0 f1 f2 := h.grown (grown_of_below hw none) (by simp)
theorem IsS73.alloc {w0 W : World} {g : Nat} {f0 : List Int} {f1 : Int} {f2 : Int} (h : IsS73 w0 W g f0 f1 f2) (o : Obj) : IsS73 w0 (W.alloc o) g f0 f1 f2 := h.below (below_alloc (Below.refl _ _) o)
theorem IsS73.drewN {w0 W : World} {g : Nat} {f0 : List Int} {f1 : Int} {f2 : Int} (h : IsS73 w0 W g f0 f1 f2) (m : Nat) : IsS73 w0 (W.drewN m) g f0 f1 f2 := h
theorem IsS73.drew {w0 W : World} {g : Nat} {f0 : List Int} {f1 : Int} {f2 : Int} (h : IsS73 w0 W g f0 f1 f2) : IsS73 w0 W.drew g f0 f1 f2 := h
theorem IsS73.at_ {w0 W : World} {g : Nat} {f0 : List Int} {f1 : Int} {f2 : Int} {w' : World} {m : Nat} (hq : W.drewN m = w') (h : IsS73 w0 W g f0 f1 f2) : IsS73 w0 w' g f0 f1 f2 := by subst hq; exact IsS73.drewN h m
theorem IsS73.apart {w0 W : World} {g : Nat} {f0 : List Int} {f1 : Int} {f2 : Int} {α : Type} {d : Kd α} {e : Nat} {base : Nat} {ok : Nat → Prop} {v : Value} {xs : List α} (h : IsS73 w0 W g f0 f1 f2) (ho : d.R e W base ok v xs) (ht : ∀ q, q ∈ e :: d.E → q ≠ 73) : d.R e W base (fun k => ok k ∧ k ≠ g) v xs := by
 obtain ⟨A0, c0, hb, hg, hr0⟩ := h
 exact Kd.R_types ho hb ht
theorem IsS73.own_ne {w0 W : World} {g : Nat} {f0 : List Int} {f1 : Int} {f2 : Int} {α : Type} {d : Kd α} {e : Nat} {base : Nat} {ok : Nat → Prop} {v : Value} {xs : List α} (h : IsS73 w0 W g f0 f1 f2) (ho : d.R e W base ok v xs) (ht : e ≠ 73) : some g ≠ v.ownBlock := by
 obtain ⟨A0, c0, hb, hg, hr0⟩ := h
 exact Kd.R_ne ho hb ht
theorem IsS73.apartQ {w0 W : World} {g : Nat} {f0 : List Int} {f1 : Int} {f2 : Int} {α : Type} {d : Kd α} {e : Nat} {base : Nat} {ok : Nat → Prop} {v : Value} {xs : List α} (h : IsS73 w0 W g f0 f1 f2) (ho : d.Q e W base ok v xs) (ht : ∀ q, q ∈ e :: d.E → q ≠ 73) : d.Q e W base (fun k => ok k ∧ k ≠ g) v xs := by
 obtain ⟨A0, c0, hb, hg, hr0⟩ := h
 exact Kd.Q_types ho hb ht
theorem IsS73.own_neQ {w0 W : World} {g : Nat} {f0 : List Int} {f1 : Int} {f2 : Int} {α : Type} {d : Kd α} {e : Nat} {base : Nat} {ok : Nat → Prop} {v : Value} {xs : List α} (h : IsS73 w0 W g f0 f1 f2) (ho : d.Q e W base ok v xs) (ht : e ≠ 73) : some g ≠ v.ownBlock := by
 obtain ⟨A0, c0, hb, hg, hr0⟩ := h
 exact Kd.Q_ne ho hb ht
theorem IsS73.apartS {w0 W : World} {g : Nat} {f0 : List Int} {f1 : Int} {f2 : Int} {α : Type} {d : Kd α} {e : Nat} {base : Nat} {ok : Nat → Prop} {v : Value} {xs : List α} (h : IsS73 w0 W g f0 f1 f2) (ho : d.S e W base ok v xs) (ht : ∀ q, q ∈ e :: d.E → q ≠ 73) : d.S e W base (fun k => ok k ∧ k ≠ g) v xs := by
 obtain ⟨A0, c0, hb, hg, hr0⟩ := h
 exact Kd.S_types ho hb ht
theorem IsS73.own_neS {w0 W : World} {g : Nat} {f0 : List Int} {f1 : Int} {f2 : Int} {α : Type} {d : Kd α} {e : Nat} {base : Nat} {ok : Nat → Prop} {v : Value} {xs : List α} (h : IsS73 w0 W g f0 f1 f2) (ho : d.S e W base ok v xs) (ht : e ≠ 73) : some g ≠ v.ownBlock := by
 obtain ⟨A0, c0, hb, hg, hr0⟩ := h
 exact Kd.S_ne ho hb ht
theorem IsS73.lt {w0 W : World} {g : Nat} {f0 : List Int} {f1 : Int} {f2 : Int} (h : IsS73 w0 W g f0 f1 f2) : g < W.heap.size := by
 obtain ⟨A0, c0, hb, hg, hr0⟩ := h
 exact blk_lt hb
theorem IsS73.ge {w0 W : World} {g : Nat} {f0 : List Int} {f1 : Int} {f2 : Int} (h : IsS73 w0 W g f0 f1 f2) : w0.heap.size ≤ g := by
 obtain ⟨A0, c0, hb, hg, hr0⟩ := h
 exact hg
theorem IsS73.ne_blk {w0 W : World} {g : Nat} {f0 : List Int} {f1 : Int} {f2 : Int} {a : Nat} {cs : Array Value} {t : TypeId} {fr : Nat × Nat} (h : IsS73 w0 W g f0 f1 f2) (hb2 : W.heap[a]? = some (.cells cs t fr)) (ht : t ≠ 73) : g ≠ a := by
 obtain ⟨A0, c0, hb, hg, hr0⟩ := h
 rintro rfl
 rw [hb] at hb2
 injection hb2 with hb2
 injection hb2 with _ ht2
 exact ht ht2.symm
theorem IsS73.far {w0 W : World} {g : Nat} {f0 : List Int} {f1 : Int} {f2 : Int} {p : Addr} (h : IsS73 w0 W g f0 f1 f2) (hne : g ≠ p.block) (u : Value) : IsS73 w0 (W.setCell p u) g f0 f1 f2 := by
 obtain ⟨A0, c0, hb, hg, hr0⟩ := h
 exact ⟨A0, c0, blk_far hb hne u, hg, hr0⟩
theorem cellS73_0 {W : World} {g : Nat} {A0 : Option Addr} {c0 : Nat} {f0 : List Int} {f1 : Int} {f2 : Int} (h : W.heap[g]? = some (.cells #[.slice A0 f0.length c0, .int .i64 f1, .int .i64 f2] 73 (0, 0))) : W.cell? ⟨g, 0, none⟩ = some (.slice A0 f0.length c0) := (blk_cell h 0).trans rfl
theorem cellS73_1 {W : World} {g : Nat} {A0 : Option Addr} {c0 : Nat} {f0 : List Int} {f1 : Int} {f2 : Int} (h : W.heap[g]? = some (.cells #[.slice A0 f0.length c0, .int .i64 f1, .int .i64 f2] 73 (0, 0))) : W.cell? ⟨g, 1, none⟩ = some (.int .i64 f1) := (blk_cell h 1).trans rfl
theorem IsS73.set_1 {w0 W : World} {g : Nat} {f0 : List Int} {f1 : Int} {f2 : Int} (h : IsS73 w0 W g f0 f1 f2) (x : Int) : IsS73 w0 (W.setCell ⟨g, 1, none⟩ (.int .i64 x)) g f0 x f2 := by
 obtain ⟨A0, c0, hb, hg, hr0⟩ := h
 exact ⟨A0, c0, by simpa using blk_set hb 1 (.int .i64 x), hg, hr0⟩
theorem cellS73_2 {W : World} {g : Nat} {A0 : Option Addr} {c0 : Nat} {f0 : List Int} {f1 : Int} {f2 : Int} (h : W.heap[g]? = some (.cells #[.slice A0 f0.length c0, .int .i64 f1, .int .i64 f2] 73 (0, 0))) : W.cell? ⟨g, 2, none⟩ = some (.int .i64 f2) := (blk_cell h 2).trans rfl
theorem IsS73.set_2 {w0 W : World} {g : Nat} {f0 : List Int} {f1 : Int} {f2 : Int} (h : IsS73 w0 W g f0 f1 f2) (x : Int) : IsS73 w0 (W.setCell ⟨g, 2, none⟩ (.int .i64 x)) g f0 f1 x := by
 obtain ⟨A0, c0, hb, hg, hr0⟩ := h
 exact ⟨A0, c0, by simpa using blk_set hb 2 (.int .i64 x), hg, hr0⟩
theorem IsS73.new (w0 W : World) (A0 : Option Addr) (c0 : Nat) (f0 : List Int) (f1 : Int) (f2 : Int) (hB : Below w0.heap.size w0 W) (hr0 : Kd.C (Kd.int .u8) w0 A0 f0.length f0) : IsS73 w0 (W.alloc (.cells #[.slice A0 f0.length c0, .int .i64 f1, .int .i64 f2] 73)) W.heap.size f0 f1 f2 := ⟨A0, c0, by simpa using heap_alloc_new W _, hB.size, hr0⟩

theorem zI73 { a b : Prop} (x : a) (h : a → b := by intro  z_; repeat (first | (with_reducible first | exact z_ | apply IsS73.alloc | apply IsS73.drewN | apply IsS73.drew | apply IsS73.set_1 | apply IsS73.set_2) | exact z_)) : b := h  x
theorem zI73_1 {s0 a b : Prop} (y0_ : s0) (x : a) (h : s0 → a → b := by intro y0_ z_; repeat (first | (with_reducible first | exact z_ | apply IsS73.alloc | apply IsS73.drewN | apply IsS73.drew | apply IsS73.set_1 | apply IsS73.set_2 | refine IsS73.far ?_ y0_ _) | exact z_)) : b := h y0_ x
theorem zI73_2 {s0 s1 a b : Prop} (y0_ : s0) (y1_ : s1) (x : a) (h : s0 → s1 → a → b := by intro y0_ y1_ z_; repeat (first | (with_reducible first | exact z_ | apply IsS73.alloc | apply IsS73.drewN | apply IsS73.drew | apply IsS73.set_1 | apply IsS73.set_2 | refine IsS73.far ?_ y0_ _ | refine IsS73.far ?_ y1_ _) | exact z_)) : b := h y0_ y1_ x
theorem zI73_3 {s0 s1 s2 a b : Prop} (y0_ : s0) (y1_ : s1) (y2_ : s2) (x : a) (h : s0 → s1 → s2 → a → b := by intro y0_ y1_ y2_ z_; repeat (first | (with_reducible first | exact z_ | apply IsS73.alloc | apply IsS73.drewN | apply IsS73.drew | apply IsS73.set_1 | apply IsS73.set_2 | refine IsS73.far ?_ y0_ _ | refine IsS73.far ?_ y1_ _ | refine IsS73.far ?_ y2_ _) | exact z_)) : b := h y0_ y1_ y2_ x
theorem zI73_4 {s0 s1 s2 s3 a b : Prop} (y0_ : s0) (y1_ : s1) (y2_ : s2) (y3_ : s3) (x : a) (h : s0 → s1 → s2 → s3 → a → b := by intro y0_ y1_ y2_ y3_ z_; repeat (first | (with_reducible first | exact z_ | apply IsS73.alloc | apply IsS73.drewN | apply IsS73.drew | apply IsS73.set_1 | apply IsS73.set_2 | refine IsS73.far ?_ y0_ _ | refine IsS73.far ?_ y1_ _ | refine IsS73.far ?_ y2_ _ | refine IsS73.far ?_ y3_ _) | exact z_)) : b := h y0_ y1_ y2_ y3_ x

/-! ### spec_l1New: function 33 -/
set_option maxHeartbeats 8000000 in
set_option maxRecDepth 100000 in
theorem spec_l1New.calls (k : Nat) (A0 : Option Addr) (c0 : Nat) (l0 : List Int) (r1 : List Int) (r2 : Int) (r3 : Int) (w0 w : World) (hB : Below w0.heap.size w0 w) (hr0 : Kd.C (Kd.int .u8) w0 A0 l0.length l0) (hc0 : l0.length ≤ c0) (h : spec_l1New.f k l0 = some (r1, r2, r3)) :
  Calls Try.prog 33 #[.slice A0 l0.length c0] w fun e w' => ∃ g_ : Nat, e = .returned (.pointer (some ⟨g_, 0, none⟩)) ∧ IsS73 w0 w' g_ r1 r2 r3 ∧ Below w0.heap.size w0 w' ∧ Below w.heap.size w w' := by
 have hu73 := Try.underlying73
 have HR0 := zM hr0
 have HC0 := zM hc0
 clear hr0 hc0
 have HBW := zM (Below.refl w.heap.size w)
 have HW0 := zM hB.size
 have HB := zM hB
 clear hB
 have H : (spec_l1New.l0 k l0 (wrap64 (271091 + (l0.length : Int))) 0) = some (r1, r2, r3) := h
 clear h
 have H' := zM H
 clear H
 go_enter Try.func33, Try.ntmps33
 go_wp2
 go_loopg [3, 4] k (fun kq v3 v4 w' => ∃ (x3_1 : Int) (x4_1 : Int), v3 = .int .i64 x3_1 ∧ v4 = .int .i64 x4_1 ∧ Aside0 (spec_l1New.l0 kq l0 x3_1 x4_1 = some (r1, r2, r3)) ∧ Aside0 (kq ≤ k) ∧ Aside0 (Below w.heap.size w w') ∧ Aside0 (Below w0.heap.size w0 w'))
 case atStart => exact ⟨(wrap64 (271091 + (l0.length : Int))), (0), zS, zS, H', ⟨Nat.le_refl _⟩, ⟨(zB HBW.out)⟩, ⟨(zB HB.out)⟩⟩
 case round =>
  clear H'
  obtain ⟨x3_1, x4_1, rfl, rfl, HA, HK1, HBW, HB⟩ := hrel
  cases gk with
  | zero => exact absurd HA.out (by simp [spec_l1New.l0])
  | succ k1 =>
   have H := HA.out
   clear HA
   simp only [spec_l1New.l0] at H
   by_cases c2 : x4_1 < (l0.length : Int)
   ·rw [if_pos c2] at H
    have c2b0 : decide (x4_1 < (l0.length : Int)) = true := decide_eq_true c2
    clear c2
    by_cases c3 : x4_1 < 4000
    ·rw [if_pos c3] at H
     have c3b0 : decide (x4_1 < 4000) = true := decide_eq_true c3
     clear c3
     by_cases c4 : 0 ≤ x4_1
     ·rw [if_pos c4] at H
      have c4b0 : decide (0 ≤ x4_1) = true := decide_eq_true c4
      clear c4
      have H' := zM H
      clear H
      have p101 : 0 ≤ (x4_1 : Int) := zD
      have q101 : x4_1 < (l0.length : Int) := zD
      obtain ⟨ad101, e101, hx101_0⟩ := Kd.at_int HR0.out x4_1 p101 q101
      cases e101
      replace hx101_0 := pw_cell_below HB.out hx101_0
      replace p101 := eq_true p101
      replace q101 := eq_true q101
      go_wp2
      go_roundg k1
      case measure => have := HK1.out; omega
      case rel => exact ⟨(Go.bits .and .i64 (wrap64 ((wrap64 ((wrap64 (x3_1 * 139)) + (wrap64 (rd l0 x4_1)))) + 11)) 1073741823), (wrap64 (x4_1 + 1)), zS, zS, H', ⟨by have := HK1.out; omega⟩, ⟨(zB HBW.out)⟩, ⟨(zB HB.out)⟩⟩
     ·rw [if_neg c4] at H
      exact absurd H (by simp)
    ·rw [if_neg c3] at H
     have c3b0 : decide (x4_1 < 4000) = false := decide_eq_false c3
     clear c3
     simp only [Option.some.injEq, Prod.mk.injEq] at H
     obtain ⟨rfl, rfl, rfl⟩ := H
     go_wp2_with (first | ((with_reducible refine gate_dst (N := 31) rfl ?_); refine box_event ?hg (N := 31) ?hd (cs := #[.slice A0 l0.length c0, .int .i64 0, .int .i64 x3_1]) (t := 73) ?hr ?_; (case hd => rfl); (case hg => rfl); (case hr => first | (go_simp; done) | (go_simp; rfl)); intro gb102 hg w5 hbox hb; have n0_ := zM (below_step HBW.out hb); have n1_ := zM (below_step (zB HB.out) hb); have n2_ := zM (hbox); have n3_ := zM ((by rw [hg]; exact (below_size (zB HBW.out)) : w.heap.size ≤ gb102)); have n4_ := zM ((Nat.le_trans HW0.out (by rw [hg]; exact (below_size (zB HBW.out)) : w.heap.size ≤ gb102) : w0.heap.size ≤ gb102)); clear HBW; clear HB; have HBW := n0_; have HB := n1_; have BK102 := n2_; have GW102 := n3_; have GE102 := n4_; clear n0_ n1_ n2_ n3_ n4_; clear hb hbox hg))
     go_ret
     exact ⟨_, rfl, (show IsS73 w0 _ gb102 l0 0 x3_1 from ⟨_, _, (zP BK102.out), GE102.out, HR0.out⟩), (zB1 GE102.out HB.out), (zB1 GW102.out HBW.out)⟩
   ·rw [if_neg c2] at H
    have c2b0 : decide (x4_1 < (l0.length : Int)) = false := decide_eq_false c2
    clear c2
    simp only [Option.some.injEq, Prod.mk.injEq] at H
    obtain ⟨rfl, rfl, rfl⟩ := H
    go_wp2_with (first | ((with_reducible refine gate_dst (N := 31) rfl ?_); refine box_event ?hg (N := 31) ?hd (cs := #[.slice A0 l0.length c0, .int .i64 0, .int .i64 x3_1]) (t := 73) ?hr ?_; (case hd => rfl); (case hg => rfl); (case hr => first | (go_simp; done) | (go_simp; rfl)); intro gb103 hg w6 hbox hb; have n0_ := zM (below_step HBW.out hb); have n1_ := zM (below_step (zB HB.out) hb); have n2_ := zM (hbox); have n3_ := zM ((by rw [hg]; exact (below_size (zB HBW.out)) : w.heap.size ≤ gb103)); have n4_ := zM ((Nat.le_trans HW0.out (by rw [hg]; exact (below_size (zB HBW.out)) : w.heap.size ≤ gb103) : w0.heap.size ≤ gb103)); clear HBW; clear HB; have HBW := n0_; have HB := n1_; have BK103 := n2_; have GW103 := n3_; have GE103 := n4_; clear n0_ n1_ n2_ n3_ n4_; clear hb hbox hg))
    go_ret
    exact ⟨_, rfl, (show IsS73 w0 _ gb103 l0 0 x3_1 from ⟨_, _, (zP BK103.out), GE103.out, HR0.out⟩), (zB1 GE103.out HB.out), (zB1 GW103.out HBW.out)⟩

end Go.Proofs.Yteahdfibipalkaa.G

namespace Go.Proofs.Yteahdfibipalkaa.G
open Go.RowKit Go.Proofs.YteahdfibipalkaaW.PrintWords Go.Proofs.YteahdfibipalkaaW.PrintLast Go.Proofs.YteahdfibipalkaaW.PrintMore
attribute [local go_sem] max2_int min2_int max_two min_two max_three min_three max_four min_four   -- for this text's walks alone
set_option linter.unusedVariables false
set_option linter.unusedSimpArgs false

/-! ### spec_l1Byte: function 54 -/
set_option maxHeartbeats 8000000 in
set_option maxRecDepth 100000 in
theorem spec_l1Byte.calls (g : Nat) (s0_0 : List Int) (s0_1 : Int) (s0_2 : Int) (r1 : Int) (r2 : Int) (r3 : Int) (w0 w : World) (hI : IsS73 w0 w g s0_0 s0_1 s0_2) (hB : Below w0.heap.size w0 w) (h : spec_l1Byte.f s0_0 s0_1 s0_2 = some (r1, r2, r3)) :
  Calls Try.prog 54 #[.pointer (some ⟨g, 0, none⟩)] w fun e w' => e = .returned (.int .i64 r1) ∧ IsS73 w0 w' g s0_0 r2 r3 ∧ Below w0.heap.size w0 w' ∧ KeepBut w w' g none := by
 have HI0 := zM hI
 have HK := zM (KeepBut.refl w g none)
 have HL := zM hB.size
 clear hI
 have HW0 := zM hB.size
 have HB := zM hB
 clear hB
 have H : (if s0_1 < (s0_0.length : Int) then (if 0 ≤ s0_1 then (some (Go.bits .and .i64 (wrap64 ((Go.bits .and .i64 (Go.bits .xor .i64 ((wrap64 ((wrap64 (s0_2 * 6364136223846793005)) + 1442695040888963407)) / 8589934592) ((wrap64 ((wrap64 (s0_2 * 6364136223846793005)) + 1442695040888963407)) / 140737488355328)) 255) + (wrap64 (rd s0_0 s0_1)))) 255, wrap64 (s0_1 + 1), wrap64 ((wrap64 (s0_2 * 6364136223846793005)) + 1442695040888963407))) else (none)) else (some (Go.bits .and .i64 (Go.bits .xor .i64 ((wrap64 ((wrap64 (s0_2 * 6364136223846793005)) + 1442695040888963407)) / 8589934592) ((wrap64 ((wrap64 (s0_2 * 6364136223846793005)) + 1442695040888963407)) / 140737488355328)) 255, s0_1, wrap64 ((wrap64 (s0_2 * 6364136223846793005)) + 1442695040888963407)))) = some (r1, r2, r3) := h
 clear h
 by_cases c2 : s0_1 < (s0_0.length : Int)
 ·rw [if_pos c2] at H
  have c2b0 : decide (s0_1 < (s0_0.length : Int)) = true := decide_eq_true c2
  clear c2
  by_cases c3 : 0 ≤ s0_1
  ·rw [if_pos c3] at H
   have c3b0 : decide (0 ≤ s0_1) = true := decide_eq_true c3
   clear c3
   simp only [Option.some.injEq, Prod.mk.injEq] at H
   obtain ⟨rfl, rfl, rfl⟩ := H
   obtain ⟨ASz4_0, cSz4_0, HGz4, hgz4, HSz4_0⟩ := HI0.out
   have hcz4_0 := cellS73_0 HGz4
   have hcz4_1 := cellS73_1 HGz4
   have hcz4_2 := cellS73_2 HGz4
   have hfz4_1 := blk_frozen HGz4 1
   have hfz4_2 := blk_frozen HGz4 2
   clear HGz4 hgz4
   have p104 : 0 ≤ (s0_1 : Int) := zD
   have q104 : s0_1 < (s0_0.length : Int) := zD
   obtain ⟨ad104, e104, hx104_0⟩ := Kd.at_int HSz4_0 s0_1 p104 q104
   cases e104
   have hn104_0 : ad104.block ≠ g := Nat.ne_of_lt (Nat.lt_of_lt_of_le (by have := World.block_lt_of_cell? _ _ hx104_0; first | rwa [add_block] at this | exact this) (IsS73.ge HI0.out))
   replace hx104_0 := pw_cell_below HB.out hx104_0
   replace hx104_0 := (cell_far (p := ⟨g, 2, none⟩) (by first | (rw [add_block]; exact hn104_0) | (show (Addr.add _ _).block ≠ _; rw [add_block]; exact hn104_0) | exact hn104_0) (.int .i64 (wrap64 ((wrap64 (s0_2 * 6364136223846793005)) + 1442695040888963407)))).trans hx104_0
   (try have hy104_0 := fun (n_ : Nat) => (show (((w.drewN n_).setCell ⟨g, 2, none⟩ (.int .i64 (wrap64 ((wrap64 (s0_2 * 6364136223846793005)) + 1442695040888963407))))).cell? _ = some _ from hx104_0))
   clear hn104_0
   replace p104 := eq_true p104
   replace q104 := eq_true q104
   go_enter Try.func54, Try.ntmps54
   go_wp2
   repeat (go_quiet (fail); try go_wp2)
   go_ret
   exact ⟨zE, (zI73 HI0.out), (zB1 (IsS73.ge HI0.out) HB.out), (zU HK.out)⟩
  ·rw [if_neg c3] at H
   exact absurd H (by simp)
 ·rw [if_neg c2] at H
  have c2b0 : decide (s0_1 < (s0_0.length : Int)) = false := decide_eq_false c2
  clear c2
  simp only [Option.some.injEq, Prod.mk.injEq] at H
  obtain ⟨rfl, rfl, rfl⟩ := H
  obtain ⟨ASz5_0, cSz5_0, HGz5, hgz5, HSz5_0⟩ := HI0.out
  have hcz5_0 := cellS73_0 HGz5
  have hcz5_1 := cellS73_1 HGz5
  have hcz5_2 := cellS73_2 HGz5
  have hfz5_1 := blk_frozen HGz5 1
  have hfz5_2 := blk_frozen HGz5 2
  clear HGz5 hgz5
  go_enter Try.func54, Try.ntmps54
  go_wp2
  repeat (go_quiet (fail); try go_wp2)
  go_ret
  exact ⟨zE, (zI73 HI0.out), (zB1 (IsS73.ge HI0.out) HB.out), (zU HK.out)⟩

end Go.Proofs.Yteahdfibipalkaa.G

namespace Go.Proofs.Yteahdfibipalkaa.G
open Go.RowKit Go.Proofs.YteahdfibipalkaaW.PrintWords Go.Proofs.YteahdfibipalkaaW.PrintLast Go.Proofs.YteahdfibipalkaaW.PrintMore
attribute [local go_sem] max2_int min2_int max_two min_two max_three min_three max_four min_four   -- for this text's walks alone
set_option linter.unusedVariables false
set_option linter.unusedSimpArgs false

/-! ### spec_l1Below: function 41 -/
set_option maxHeartbeats 8000000 in
set_option maxRecDepth 100000 in
theorem spec_l1Below.calls (g : Nat) (s0_0 : List Int) (s0_1 : Int) (s0_2 : Int) (a1 : Int) (r1 : Int) (r2 : Int) (r3 : Int) (w0 w : World) (hI : IsS73 w0 w g s0_0 s0_1 s0_2) (hB : Below w0.heap.size w0 w) (h : spec_l1Below.f s0_0 s0_1 s0_2 a1 = some (r1, r2, r3)) :
  Calls Try.prog 41 #[.pointer (some ⟨g, 0, none⟩), .int .i64 a1] w fun e w' => e = .returned (.int .i64 r1) ∧ IsS73 w0 w' g s0_0 r2 r3 ∧ Below w0.heap.size w0 w' ∧ KeepBut w w' g none := by
 have HI0 := zM hI
 have HK := zM (KeepBut.refl w g none)
 have HL := zM hB.size
 clear hI
 have HW0 := zM hB.size
 have HB := zM hB
 clear hB
 have H : (if a1 ≤ 0 then (some (0, s0_1, s0_2)) else (if a1 ≤ 256 then ((spec_l1Byte.f s0_0 s0_1 s0_2).bind fun bt105 => (if a1 = 0 then (none) else (some (Int.tmod bt105.1 a1, bt105.2.1, bt105.2.2)))) else ((spec_l1Byte.f s0_0 s0_1 s0_2).bind fun bt108 => ((spec_l1Byte.f s0_0 bt108.2.1 bt108.2.2).bind fun bt111 => ((spec_l1Byte.f s0_0 bt111.2.1 bt111.2.2).bind fun bt114 => (if a1 = 0 then (none) else (some (Int.tmod (wrap64 ((wrap64 ((wrap64 (bt108.1 * 65536)) + (wrap64 (bt111.1 * 256)))) + bt114.1)) a1, bt114.2.1, bt114.2.2)))))))) = some (r1, r2, r3) := h
 clear h
 by_cases c3 : a1 ≤ 0
 ·rw [if_pos c3] at H
  have c3b0 : decide (a1 ≤ 0) = true := decide_eq_true c3
  clear c3
  simp only [Option.some.injEq, Prod.mk.injEq] at H
  obtain ⟨rfl, rfl, rfl⟩ := H
  go_enter Try.func41, Try.ntmps41
  go_wp2
  go_ret
  exact ⟨zE, (zI73 HI0.out), (zB1 (IsS73.ge HI0.out) HB.out), (zU HK.out)⟩
 ·rw [if_neg c3] at H
  have c3b0 : decide (a1 ≤ 0) = false := decide_eq_false c3
  clear c3
  by_cases c4 : a1 ≤ 256
  ·rw [if_pos c4] at H
   have c4b0 : decide (a1 ≤ 256) = true := decide_eq_true c4
   clear c4
   replace H := Option.bind_eq_some_iff.mp H
   obtain ⟨⟨t105, t106, t107⟩, A50, H⟩ := H
   try dsimp only at H
   have A5 := zM A50
   clear A50
   by_cases c6 : a1 = 0
   ·rw [if_pos c6] at H
    exact absurd H (by simp)
   ·rw [if_neg c6] at H
    have c6b0 : (a1 == 0) = false := beq_eq_false_iff_ne.mpr c6
    have c6b1 : (a1 != 0) = true := bne_iff_ne.mpr c6
    simp only [Option.some.injEq, Prod.mk.injEq] at H
    obtain ⟨rfl, rfl, rfl⟩ := H
    go_enter Try.func41, Try.ntmps41
    go_wp2_with (first | ((with_reducible refine gate_callee (f := 54) rfl ?_); refine zG (some 13) Try.func54 #[.pointer (some ⟨g, 0, none⟩)] ?_; (with_reducible refine (spec_l1Byte.calls g s0_0 s0_1 s0_2 t105 t106 t107 w0 _ ?side1 ?side2 A5.out).mono ?_); (case side1 => exact (zI73 HI0.out)); (case side2 => exact (zB1 (IsS73.ge HI0.out) HB.out)); rintro e w7 ⟨rfl, hi, hb, hk⟩; refine ⟨_, rfl, ?_⟩; have n0_ := zM (KeepBut.trans (zU HK.out) hk (.inl rfl)); have n1_ := zM (hb); have n2_ := zM (hi); clear HK; clear HB; clear HI0; have HK := n0_; have HB := n1_; have HI0 := n2_; clear n0_ n1_ n2_; (try clear hb); (try clear hb2); (try clear hk); (try clear hi)))
    go_ret
    exact ⟨zE, (zI73 HI0.out), (zB1 (IsS73.ge HI0.out) HB.out), (zU HK.out)⟩
  ·rw [if_neg c4] at H
   have c4b0 : decide (a1 ≤ 256) = false := decide_eq_false c4
   clear c4
   replace H := Option.bind_eq_some_iff.mp H
   obtain ⟨⟨t108, t109, t110⟩, A80, H⟩ := H
   try dsimp only at H
   have A8 := zM A80
   clear A80
   replace H := Option.bind_eq_some_iff.mp H
   obtain ⟨⟨t111, t112, t113⟩, A90, H⟩ := H
   try dsimp only at H
   have A9 := zM A90
   clear A90
   replace H := Option.bind_eq_some_iff.mp H
   obtain ⟨⟨t114, t115, t116⟩, A100, H⟩ := H
   try dsimp only at H
   have A10 := zM A100
   clear A100
   by_cases c11 : a1 = 0
   ·rw [if_pos c11] at H
    exact absurd H (by simp)
   ·rw [if_neg c11] at H
    have c11b0 : (a1 == 0) = false := beq_eq_false_iff_ne.mpr c11
    have c11b1 : (a1 != 0) = true := bne_iff_ne.mpr c11
    simp only [Option.some.injEq, Prod.mk.injEq] at H
    obtain ⟨rfl, rfl, rfl⟩ := H
    go_enter Try.func41, Try.ntmps41
    go_wp2_with (first | ((with_reducible refine gate_callee (f := 54) rfl ?_); refine zG (some 17) Try.func54 #[.pointer (some ⟨g, 0, none⟩)] ?_; (with_reducible refine (spec_l1Byte.calls g s0_0 s0_1 s0_2 t108 t109 t110 w0 _ ?side1 ?side2 A8.out).mono ?_); (case side1 => exact (zI73 HI0.out)); (case side2 => exact (zB1 (IsS73.ge HI0.out) HB.out)); rintro e w12 ⟨rfl, hi, hb, hk⟩; refine ⟨_, rfl, ?_⟩; have n0_ := zM (KeepBut.trans (zU HK.out) hk (.inl rfl)); have n1_ := zM (hb); have n2_ := zM (hi); clear HK; clear HB; clear HI0; have HK := n0_; have HB := n1_; have HI0 := n2_; clear n0_ n1_ n2_; (try clear hb); (try clear hb2); (try clear hk); (try clear hi)) | ((with_reducible refine gate_callee (f := 54) rfl ?_); refine zG (some 19) Try.func54 #[.pointer (some ⟨g, 0, none⟩)] ?_; (with_reducible refine (spec_l1Byte.calls g s0_0 t109 t110 t111 t112 t113 w0 _ ?side1 ?side2 A9.out).mono ?_); (case side1 => exact (zI73 HI0.out)); (case side2 => exact (zB1 (IsS73.ge HI0.out) HB.out)); rintro e w13 ⟨rfl, hi, hb, hk⟩; refine ⟨_, rfl, ?_⟩; have n0_ := zM (KeepBut.trans (zU HK.out) hk (.inl rfl)); have n1_ := zM (hb); have n2_ := zM (hi); clear HK; clear HB; clear HI0; have HK := n0_; have HB := n1_; have HI0 := n2_; clear n0_ n1_ n2_; (try clear hb); (try clear hb2); (try clear hk); (try clear hi)) | ((with_reducible refine gate_callee (f := 54) rfl ?_); refine zG (some 21) Try.func54 #[.pointer (some ⟨g, 0, none⟩)] ?_; (with_reducible refine (spec_l1Byte.calls g s0_0 t112 t113 t114 t115 t116 w0 _ ?side1 ?side2 A10.out).mono ?_); (case side1 => exact (zI73 HI0.out)); (case side2 => exact (zB1 (IsS73.ge HI0.out) HB.out)); rintro e w14 ⟨rfl, hi, hb, hk⟩; refine ⟨_, rfl, ?_⟩; have n0_ := zM (KeepBut.trans (zU HK.out) hk (.inl rfl)); have n1_ := zM (hb); have n2_ := zM (hi); clear HK; clear HB; clear HI0; have HK := n0_; have HB := n1_; have HI0 := n2_; clear n0_ n1_ n2_; (try clear hb); (try clear hb2); (try clear hk); (try clear hi)))
    go_ret
    exact ⟨zE, (zI73 HI0.out), (zB1 (IsS73.ge HI0.out) HB.out), (zU HK.out)⟩

end Go.Proofs.Yteahdfibipalkaa.G

namespace Go.Proofs.Yteahdfibipalkaa.G
open Go.RowKit Go.Proofs.YteahdfibipalkaaW.PrintWords Go.Proofs.YteahdfibipalkaaW.PrintLast Go.Proofs.YteahdfibipalkaaW.PrintMore
attribute [local go_sem] max2_int min2_int max_two min_two max_three min_three max_four min_four   -- for this text's walks alone
set_option linter.unusedVariables false
set_option linter.unusedSimpArgs false

/-! ### spec_l1Int: function 51 -/
set_option maxHeartbeats 8000000 in
set_option maxRecDepth 100000 in
theorem spec_l1Int.calls (g : Nat) (s0_0 : List Int) (s0_1 : Int) (s0_2 : Int) (A1 : Option Addr) (c1 : Nat) (l1 : List Int) (r1 : Int) (r2 : Int) (r3 : Int) (w0 w : World) (hI : IsS73 w0 w g s0_0 s0_1 s0_2) (hB : Below w0.heap.size w0 w) (hr1 : Kd.C (Kd.int .i64) w A1 l1.length l1) (hc1 : l1.length ≤ c1) (hf1 : ∀ ad, A1 = some ad → 0 < l1.length → ad.block ≠ g) (h : spec_l1Int.f s0_0 s0_1 s0_2 l1 = some (r1, r2, r3)) :
  Calls Try.prog 51 #[.pointer (some ⟨g, 0, none⟩), .slice A1 l1.length c1] w fun e w' => e = .returned (.int .i64 r1) ∧ IsS73 w0 w' g s0_0 r2 r3 ∧ Below w0.heap.size w0 w' ∧ KeepBut w w' g none := by
 have HR1 := zM hr1
 have HC1 := zM hc1
 clear hr1 hc1
 have HI0 := zM hI
 have HK := zM (KeepBut.refl w g none)
 have HL := zM hB.size
 clear hI
 have HW0 := zM hB.size
 have HB := zM hB
 clear hB
 have H : ((spec_l1Below.f s0_0 s0_1 s0_2 (l1.length : Int)).bind fun bt186 => (if 0 ≤ bt186.1 then (if bt186.1 < (l1.length : Int) then (some (rd l1 bt186.1, bt186.2.1, bt186.2.2)) else (none)) else (none))) = some (r1, r2, r3) := h
 clear h
 replace H := Option.bind_eq_some_iff.mp H
 obtain ⟨⟨t186, t187, t188⟩, A30, H⟩ := H
 try dsimp only at H
 have A3 := zM A30
 clear A30
 by_cases c4 : 0 ≤ t186
 ·rw [if_pos c4] at H
  have c4b0 : decide (0 ≤ t186) = true := decide_eq_true c4
  clear c4
  by_cases c5 : t186 < (l1.length : Int)
  ·rw [if_pos c5] at H
   have c5b0 : decide (t186 < (l1.length : Int)) = true := decide_eq_true c5
   clear c5
   simp only [Option.some.injEq, Prod.mk.injEq] at H
   obtain ⟨rfl, rfl, rfl⟩ := H
   go_enter Try.func51, Try.ntmps51
   go_wp2_with (first | ((with_reducible refine gate_callee (f := 41) rfl ?_); refine zG (some 9) Try.func41 #[.pointer (some ⟨g, 0, none⟩), .int .i64 (l1.length : Int)] ?_; (with_reducible refine (spec_l1Below.calls g s0_0 s0_1 s0_2 (l1.length : Int) t186 t187 t188 w0 _ ?side1 ?side2 A3.out).mono ?_); (case side1 => exact (zI73 HI0.out)); (case side2 => exact (zB1 (IsS73.ge HI0.out) HB.out)); rintro e w6 ⟨rfl, hi, hb, hk⟩; refine ⟨_, rfl, ?_⟩; have n0_ := zM (KeepBut.trans (zU HK.out) hk (.inl rfl)); have n1_ := zM (hb); have n2_ := zM (hi); clear HK; clear HB; clear HI0; have HK := n0_; have HB := n1_; have HI0 := n2_; clear n0_ n1_ n2_; (try clear hb); (try clear hb2); (try clear hk); (try clear hi); have p189 : 0 ≤ (t186 : Int) := zD; have q189 : t186 < (l1.length : Int) := zD; obtain ⟨ad189, e189, hx189_0⟩ := Kd.at_int HR1.out t186 p189 q189; cases e189; replace hx189_0 := keep_cell HK.out hx189_0 (by first | (rw [add_block]; exact hf1 _ rfl (by omega)) | exact hf1 _ rfl (by omega) | exact hf1 ad189 rfl (by omega)); replace p189 := eq_true p189; replace q189 := eq_true q189))
   go_ret
   exact ⟨zE, (zI73 HI0.out), (zB1 (IsS73.ge HI0.out) HB.out), (zU HK.out)⟩
  ·rw [if_neg c5] at H
   exact absurd H (by simp)
 ·rw [if_neg c4] at H
  exact absurd H (by simp)

end Go.Proofs.Yteahdfibipalkaa.G
