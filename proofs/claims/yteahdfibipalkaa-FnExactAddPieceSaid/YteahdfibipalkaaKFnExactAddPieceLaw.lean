/- FnExactAddPiece: the program's law on adding a piece returns true, whatever the input. -/
import Derived.Test.YteahdfibipalkaaRows
import Derived.Test.YteahdfibipalkaaKFnExactAddPiece2
import Derived.WalkKit
import Derived.ProofKit
import Derived.OpenShut
import Derived.ShutString
import Derived.ChangeOld
import Derived.Below
import Derived.SizedLaws
import Derived.Deep.Slices
import Derived.Deep.Fields
import Derived.ChangeSame
import Derived.Lib.SmallJoins

namespace Go.Proofs.Yteahdfibipalkaa.fnExactAddPiece
open Go.ChangeShapes Go.WideShapes Go.ChangeAt Go.RowKit Go.Deep Go.Joins Go.Proofs.YteahdfibipalkaaW.PrintWords Go.Proofs.Yteahdfibipalkaa.G
open Go.ChangeMaps (open_string shut_string)
set_option linter.unusedVariables false
section
variable {H : Type} {enc : TypeId × Value → H} {P : Program} {w : World} {base : Nat} {spare : Nat → Bool} {held : Bool}
theorem open_slice_fields {t e : TypeId} {fs : Array Field} {fuel : Nat} {cs : List Value} {x : DataW H × List MemPlace} (ht : P.underlying t = some (.slice e)) (he : P.underlying e = some (.struct fs))
    (hone : oneCellFields P fs = true) (hC : P.cellsOf e = fs.size) (h : DataW.trod enc P w base spare held fuel t cs = some x) :
    (cs = [.slice none 0 0] ∧ x = (.nil, [])) ∨
    ∃ (a : Addr) (len cap m : Nat) (D : Nat → DataW H) (Pl : Nat → List MemPlace), cs = [.slice (some a) len cap] ∧ base ≤ a.block ∧ len ≤ cap ∧ cap ≤ maxLen ∧ m = (if spare a.block then cap else len) ∧
      x = (.slice ((List.range len).map D) ((List.range (m - len)).map fun j => D (len + j)), MemPlace.row a (m * fs.size) ++ (List.range m).flatMap Pl) ∧
      ∀ i, i < m → ∃ (ys : List (DataW H × List MemPlace)) (n : Nat), D i = .agg (ys.map (·.1)) ∧ Pl i = ys.flatMap (·.2) ∧ ys.length = fs.size ∧
        ∀ (j : Nat) (f : Field), fs[j]? = some f → ∃ (v : Value) (y : DataW H × List MemPlace), w.cell? (a.add (i * fs.size + j)) = some v ∧ ys[j]? = some y ∧ DataW.trod enc P w base spare held n f.type [v] = some y := by
  rcases open_slice ht h with h0 | ⟨a, len, cap, m, n, D, Pl, hcs, hb, hl, hm, hmm, hx, hi⟩
  · exact .inl h0
  · refine .inr ⟨a, len, cap, m, D, Pl, hcs, hb, hl, hm, hmm, by rw [hC] at hx; exact hx, fun i him => ?_⟩
    obtain ⟨cs', hc, ht'⟩ := hi i him
    rw [hC] at hc
    obtain ⟨ys, n', hn', hy, hlen, hyl, hf⟩ := DataW.trod_struct he ht'
    obtain ⟨_, hcl, hat⟩ := World.cells?_some hc
    simp only [Prod.mk.injEq] at hy
    refine ⟨ys, n', hy.1, hy.2, hyl, fun j f hj => ?_⟩
    obtain ⟨ho, hk⟩ := hone_of hone j f hj
    have hjl : j < fs.size := (Array.getElem?_eq_some_iff.1 hj).1
    have hcell := hat j hjl
    have hv : cs'[j]? = some (cs'[j]'(by omega)) := List.getElem?_eq_getElem (by omega)
    have h1 := hf j f hj
    rw [ho, hk] at h1
    have hone' : (cs'.drop j).take 1 = [cs'[j]'(by omega)] := by
      rw [List.drop_eq_getElem_cons (by omega)]
      rfl
    rw [hone'] at h1
    have hys : ys[j]? = some (ys[j]'(by omega)) := List.getElem?_eq_getElem (by omega)
    refine ⟨_, _, ?_, hys, h1.trans hys⟩
    rw [← Go.Deep.add_add, hcell, hv]
end
theorem own : ownKnob Try.prog.godebug = none := by kernel_rfl
theorem laidOut : laidOutB Try.prog = true := by kernel_rfl
set_option maxRecDepth 100000 in
theorem lifted (os : Os) (started : os.Started) (H : Type) (enc : TypeId × Value → H) :
    ReturnsInHanded {} Try.checked os 4 .any (Rows.fnExactAddPieceSpec.pre6 enc Try.prog Try.f4 Rows.fnExactAddPieceRow.domain false) (Rows.fnExactAddPieceSpec.post enc Try.prog Try.f4 false true false false) := by
  refine returnsInHanded_of_change_sized (C := Try.checked) own started (by kernel_rfl) Try.func4
    (ChangeSpec.witness6 (enc := enc) (C := Try.checked) false ⟨#[], #[.slice none 0 0, .int .i64 0, .agg #[.int .i64 0, .string ⟨#[]⟩]], []⟩ 8 (by kernel_rfl) (by kernel_rfl) (by kernel_rfl) (by kernel_rfl)) ?_
  intro W base args ds gs before hval0 hW hcnd hsz0 _
  have hval : ∀ (j : Nat) t v, Try.f4.params[j]? = some t → args[j]? = some v → Value.okWide Try.prog W .any base t v := hval0
  have hW' := hW
  obtain ⟨p, q, hA0, hV, rfl, hfz, hnd⟩ := hW
  have hA : DataW.TrodAll enc Try.prog W 0 (fun _ => true) true Try.f4.params.toList args.toList ds p := hA0
  rw [Try.params4] at hA hval
  obtain ⟨v0, vs0, d0, ds0, p0, q0, hargs, rfl, rfl, h0, r0⟩ := trodAll_cons hA
  obtain ⟨v1, vs1, d1, ds1, p1, q1, hargs1, rfl, rfl, h1, r1⟩ := trodAll_cons r0
  obtain ⟨v2, vs2, d2, ds2, p2, q2, hargs2, rfl, rfl, h2, r2⟩ := trodAll_cons r1
  obtain ⟨rfl, rfl, rfl⟩ := trodAll_nil r2
  obtain rfl : args = #[v0, v1, v2] := by cases args; simp_all
  obtain ⟨rfl, rfl⟩ := trodVars_none hV
  obtain ⟨a0, len0, cap0, rfl⟩ := okWide_slice Try.underlying35 (hval 0 35 v0 rfl rfl)
  have k0 := h0
  have lt0 : ∀ x ∈ p0, x.block < W.heap.size := by obtain ⟨m, hm⟩ := k0; exact DataW.trod_lt m _ _ _ hm
  have k1 := h1
  have lt1 : ∀ x ∈ p1, x.block < W.heap.size := by obtain ⟨m, hm⟩ := k1; exact DataW.trod_lt m _ _ _ hm
  have k2 := h2
  have lt2 : ∀ x ∈ p2, x.block < W.heap.size := by obtain ⟨m, hm⟩ := k2; exact DataW.trod_lt m _ _ _ hm
  obtain ⟨n, rfl, hd1, hp1, wf1⟩ := open_int Try.underlying3 (hval 1 3 v1 rfl rfl) h1
  obtain ⟨u0, u1, y0, y1, fu, rfl, hd2, hp2, g0, g1⟩ := open_agg2 Try.underlying37 (by kernel_rfl) (by kernel_rfl) (hval 2 37 v2 rfl rfl) h2
  obtain ⟨b, hb, _, wfb⟩ := DataW.trod_int Try.underlying3 g0
  obtain ⟨s, hs, _, szs⟩ := DataW.trod_string Try.underlying9 g1
  simp only [List.cons.injEq, and_true] at hb hs
  subst hb hs
  obtain ⟨l0, hC, hcap, hl, hz⟩ : ∃ l0 : List S37, Kd.C k37 W a0 l0.length l0 ∧ l0.length ≤ cap0 ∧ l0.length = len0 ∧ l0.length ≤ maxLen ∧ ∀ x ∈ l0, x.f1.size ≤ maxLen := by
    obtain ⟨fuel, hf⟩ := h0
    rcases open_slice_fields Try.underlying35 Try.underlying37 (by kernel_rfl) (by kernel_rfl) hf with ⟨hcs, _⟩ | ⟨x, l, c, m, D, Pl, hcs, _, hlc, hcm, hm, _, hi⟩
    · simp [Value.cells] at hcs
      obtain ⟨rfl, rfl, rfl⟩ := hcs
      exact ⟨[], ⟨rfl, by simp, fun h => absurd h (by simp)⟩, by simp, rfl, by simp, by simp⟩
    · simp [Value.cells] at hcs
      obtain ⟨rfl, rfl, rfl⟩ := hcs
      have hex : ∀ i, ∃ z : S37, i < len0 → W.cell? (x.add (i * 2 + 0)) = some (.int .i64 z.f0) ∧ W.cell? (x.add (i * 2 + 1)) = some (.string z.f1) ∧ z.f1.size ≤ maxLen := by
        intro i
        by_cases hlt : i < len0
        · obtain ⟨ys, fu', _, _, _, hg⟩ := hi i (by rw [hm]; split <;> omega)
          obtain ⟨v, y, c1, _, t1⟩ := hg 0 _ rfl
          obtain ⟨v', y', c2, _, t2⟩ := hg 1 _ rfl
          obtain ⟨n1, e1, _, _⟩ := DataW.trod_int Try.underlying3 t1
          obtain ⟨s1, e2, _, hsz⟩ := DataW.trod_string Try.underlying9 t2
          simp only [List.cons.injEq, and_true] at e1 e2
          subst e1 e2
          exact ⟨⟨n1, s1⟩, fun _ => ⟨c1, c2, hsz⟩⟩
        · exact ⟨z37, fun h => absurd h hlt⟩
      let F : Nat → S37 := fun i => Classical.choose (hex i)
      have hF : ∀ i, i < len0 → W.cell? (x.add (i * 2 + 0)) = some (.int .i64 (F i).f0) ∧ W.cell? (x.add (i * 2 + 1)) = some (.string (F i).f1) ∧ (F i).f1.size ≤ maxLen := fun i => Classical.choose_spec (hex i)
      have hlen : ((List.range len0).map F).length = len0 := by simp
      refine ⟨(List.range len0).map F, ⟨rfl, by rw [hlen]; exact Nat.le_trans hlc hcm, fun _ => ⟨x, rfl, fun j z hj => ?_⟩⟩, by rw [hlen]; exact hlc, hlen, by rw [hlen]; omega, fun z hz => ?_⟩
      · rw [List.getElem?_map] at hj
        obtain ⟨i, hi1, rfl⟩ := Option.map_eq_some_iff.1 hj
        obtain ⟨hi2, hi3⟩ := List.getElem?_eq_some_iff.1 hi1
        simp only [List.getElem_range] at hi3
        subst hi3
        obtain ⟨q1, q2, _⟩ := hF j (by simpa using hi2)
        refine ⟨[.int .i64 (F j).f0, .string (F j).f1], rfl, ⟨[.int .i64 (F j).f0], [.string (F j).f1], rfl, rfl, rfl⟩, fun i u hu => ?_⟩
        match i, hu with
        | 0, hu => simp only [List.getElem?_cons_zero, Option.some.injEq] at hu; subst hu; exact q1
        | 1, hu => simp only [List.getElem?_cons_succ, List.getElem?_cons_zero, Option.some.injEq] at hu; subst hu; exact q2
        | i + 2, hu => simp at hu
      · obtain ⟨i, hi1, rfl⟩ := List.mem_map.1 hz
        exact (hF i (by simpa using hi1)).2.2
  obtain ⟨rfl, hl, hz⟩ : len0 = l0.length ∧ l0.length ≤ maxLen ∧ ∀ x ∈ l0, x.f1.size ≤ maxLen := ⟨hl.symm, hz⟩
  have hnr : -9223372036854775808 ≤ n ∧ n ≤ 9223372036854775807 := by
    have em : IntKind.i64.min = -9223372036854775808 := by decide
    have := (by simpa [Lit.wf] using wf1 : And (IntKind.i64.min ≤ n) (n ≤ 9223372036854775807))
    rwa [em] at this
  clear hA0 hval0 hsz0
  obtain ⟨kk, hk⟩ := Pure.exactAddPiece l0 n b s hl hz szs hnr
  refine (G.laws_FnExactAddPiece.calls kk a0 cap0 l0 n b s true W hC hcap (hk kk (Nat.le_refl _))).mono fun e W' ⟨he, bel⟩ => ?_
  subst he
  exact ⟨_, rfl, _, _, _, [], _, [], hW', trodAll_mk1 (shut_bool Try.underlying4 _), (trodAll_cons_mk (Below.trod laidOut (by kernel_rfl) (of_decide_eq_true (by kernel_rfl)) k0 bel lt0) (trodAll_cons_mk (Below.trod laidOut (by kernel_rfl) (of_decide_eq_true (by kernel_rfl)) k1 bel lt1) (trodAll_cons_mk (Below.trod laidOut (by kernel_rfl) (of_decide_eq_true (by kernel_rfl)) k2 bel lt2) trodAll_mk0))), rfl, bel.frame _, fun h => by cases h⟩
theorem over : Rows.fnExactAddPieceRow.holds Try.pinned (OpenSpec.ofChange Rows.fnExactAddPieceSpec) :=
  OpenClaim.holds_of_wide 4 Try.f4 rfl rfl rfl rfl rfl rfl rfl ⟨rfl, rfl, rfl, rfl, rfl⟩ rfl rfl rfl rfl rfl (by kernel_rfl) Try.func4 (by kernel_rfl)
    (of_decide_eq_true (by kernel_rfl)) (by unfold Func.isWrapper; first | (rw [if_pos (by decide +kernel)]; kernel_rfl) | (rw [if_neg (by decide +kernel)]; exact ⟨rfl, rfl⟩))
    (fun os started H enc _ => lifted os started H enc)
theorem proved : Rows.FnExactAddPieceSaid := over
#print axioms proved
end Go.Proofs.Yteahdfibipalkaa.fnExactAddPiece
namespace Go.Proofs.Yteahdfibipalkaa
/-- The row, under a short name, for the claim. -/
theorem fnExactAddPiece_holds : Rows.FnExactAddPieceSaid := fnExactAddPiece.proved
end Go.Proofs.Yteahdfibipalkaa
