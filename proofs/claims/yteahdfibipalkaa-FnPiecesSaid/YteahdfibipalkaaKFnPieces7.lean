/- Texts for: FnPieces holds for every input, without a condition: adding pieces keeps and reads back every byte, in any order. -/
import Derived.Test.YteahdfibipalkaaKFnPieces6

namespace Go.Proofs.Yteahdfibipalkaa.Pure
open Go.RowKit Go.Proofs.Yteahdfibipalkaa.G Go.Proofs.YteahdfibipalkaaW.PrintWords Go.Proofs.YteahdfibipalkaaW.PrintLast

theorem Ev.uniq {α : Type} {a : Nat → Option α} {r s : α} (h : Ev a r) (h' : Ev a s) : r = s := by
  obtain ⟨n, hn⟩ := h
  obtain ⟨m, hm⟩ := h'
  have h1 := hn (n + m) (by omega)
  have h2 := hm (n + m) (by omega)
  simp only [h1] at h2
  exact Option.some.inj h2
def B1 : Nat := 1048576
def spn (x : S44) : S26 := ⟨x.f0, wrap64 (x.f0 + (x.f1.size : Int))⟩
def spOf (l : List S44) : List S26 := l.map spn
theorem rd44_mid (pre : List S44) (x : S44) (t : List S44) : rd_T44 (pre ++ x :: t) (pre.length : Int) = x := by simp [rd_T44]
theorem next_len {α : Type} (pre : List α) (x : α) (h : pre.length < 9223372036854775807) : wrap64 ((pre.length : Int) + 1) = ((pre ++ [x]).length : Int) := by
  rw [wrap64_id (by omega) (by omega)]; simp
theorem spec_sp_l0 (L : List S44) (hL : L.length ≤ B1) (rest : List S44) : ∀ (pre : List S44) (acc : List S26), pre ++ rest = L → acc.length = pre.length →
    Ev (fun k => spec_SpansOf.l0 k L acc (pre.length : Int)) (acc ++ spOf rest) := by
  induction rest with
  | nil =>
    intro pre acc hl ha
    simp only [List.append_nil] at hl
    subst hl
    apply Ev.step
    · intro k; rw [spec_SpansOf.l0]
    exact Ev.neg (by omega) (Ev.ret (by simp [spOf]))
  | cons x t ih =>
    intro pre acc hl ha
    have e1 : rd_T44 L (pre.length : Int) = x := by rw [← hl]; exact rd44_mid pre x t
    have hi := ih (pre ++ [x]) (acc ++ [spn x]) (by simpa using hl) (by simp [ha])
    have hlen : pre.length + (t.length + 1) = L.length := by rw [← hl]; simp
    simp only [B1] at hL
    rw [← next_len pre x (by omega)] at hi
    apply Ev.step
    · intro k; rw [spec_SpansOf.l0]
    simp only [e1]
    refine Ev.pos (by omega) (Ev.pos (by omega) (Ev.pos (by omega) (Ev.eq ?_ hi)))
    simp [spOf]
theorem spec_sp (l : List S44) (hl : l.length ≤ B1) : Ev (fun k => spec_SpansOf.f k l) (spOf l) := spec_sp_l0 l hl l [] [] rfl rfl
theorem impl_sp_l0 (L : List S44) (hL : L.length ≤ B1) (rest : List S44) : ∀ (pre : List S44) (acc : List S26), pre ++ rest = L → acc.length = pre.length →
    Ev (fun k => impl_SpansOf.l0 k acc L (L.length : Int) (pre.length : Int)) (acc ++ spOf rest) := by
  induction rest with
  | nil =>
    intro pre acc hl ha
    simp only [List.append_nil] at hl
    subst hl
    apply Ev.step
    · intro k; rw [impl_SpansOf.l0]
    exact Ev.neg (by omega) (Ev.ret (by simp [spOf]))
  | cons x t ih =>
    intro pre acc hl ha
    have e1 : rd_T44 L (pre.length : Int) = x := by rw [← hl]; exact rd44_mid pre x t
    have hi := ih (pre ++ [x]) (acc ++ [spn x]) (by simpa using hl) (by simp [ha])
    have hlen : pre.length + (t.length + 1) = L.length := by rw [← hl]; simp
    simp only [B1] at hL
    rw [← next_len pre x (by omega)] at hi
    apply Ev.step
    · intro k; rw [impl_SpansOf.l0]
    simp only [e1]
    refine Ev.pos (by omega) (Ev.pos (by omega) (Ev.pos (by omega) (Ev.pos (by omega) (Ev.eq ?_ hi))))
    simp [spOf]
theorem impl_sp (l : List S44) (hl : l.length ≤ B1) : Ev (fun k => impl_SpansOf.f k l) (spOf l) := impl_sp_l0 l hl l [] [] rfl rfl

theorem SetOk_append (a : List S26) : ∀ b, SetOk (a ++ b) ↔ (SetOk a ∧ SetOk b ∧ ∀ s, s ∈ a → ∀ u, u ∈ b → s.f1 < u.f0) := by
  induction a with
  | nil => intro b; simp [SetOk]
  | cons x t ih =>
    intro b
    show (valid x ∧ (∀ s, s ∈ t ++ b → x.f1 < s.f0) ∧ SetOk (t ++ b)) ↔ _
    rw [ih b]
    constructor
    · rintro ⟨h1, h2, h3, h4, h5⟩
      refine ⟨⟨h1, fun s hs => h2 s (by simp [hs]), h3⟩, h4, fun s hs u hu => ?_⟩
      rcases List.mem_cons.1 hs with rfl | hs
      · exact h2 u (by simp [hu])
      · exact h5 s hs u hu
    · rintro ⟨⟨h1, h2, h3⟩, h4, h5⟩
      refine ⟨h1, fun s hs => ?_, h3, h4, fun s hs => h5 s (by simp [hs])⟩
      rcases List.mem_append.1 hs with hs | hs
      · exact h2 s hs
      · exact h5 x (by simp) s hs
def lastOk (l : List S26) (n : Int) : Bool := decide (l.length = 0) || decide ((rd_T26 l ((l.length : Int) - 1)).f1 ≤ n)
theorem lastOk_iff (l : List S26) (n : Int) (h : SetOk l) : lastOk l n = true ↔ ∀ s, s ∈ l → s.f1 ≤ n := by
  rcases List.eq_nil_or_concat l with rfl | ⟨pre, y, rfl⟩
  · simp [lastOk]
  · rw [List.concat_eq_append] at *
    have e : rd_T26 (pre ++ [y]) (((pre ++ [y]).length : Int) - 1) = y := by
      have : (((pre ++ [y]).length : Int) - 1) = (pre.length : Int) := by simp
      rw [this]; exact rd_mid pre y []
    rw [lastOk, e]
    have h3 := ((SetOk_append pre [y]).1 h).2.2
    have hy := (((SetOk_append pre [y]).1 h).2.1).1
    simp
    constructor
    · rintro hn s (hs | rfl)
      · have := h3 s hs y (by simp); have := hy.2.1; omega
      · exact hn
    · intro hh; exact hh y (.inr rfl)
def areP (l : List S44) (n : Int) : Bool := decide (0 ≤ n) && decide (n ≤ 600) && decide (l.length ≤ 8) && isSet (spOf l) && lastOk (spOf l) n
theorem spOf_length (l : List S44) : (spOf l).length = l.length := by simp [spOf]
theorem last_ev (l : List S26) (n : Int) (hl : l.length ≤ B1) : Ev (fun _ => if (l.length : Int) = 0 then some true else (if 0 ≤ wrap64 ((l.length : Int) - 1) then (if wrap64 ((l.length : Int) - 1) < (l.length : Int) then some (decide ((rd_T26 l (wrap64 ((l.length : Int) - 1))).f1 ≤ n)) else none) else none)) (lastOk l n) := by
  simp only [B1] at hl
  by_cases c : l.length = 0
  · exact Ev.pos (by omega) (Ev.ret (by simp [lastOk, c]))
  · refine Ev.neg (by omega) ?_
    rw [wrap64_id (by omega) (by omega)]
    exact Ev.pos (by omega) (Ev.pos (by omega) (Ev.ret (by simp only [lastOk, decide_eq_false c, Bool.false_or])))
theorem spec_are (l : List S44) (n : Int) (hl : l.length ≤ B1) : Ev (fun k => spec_ArePieces.f k l n) (areP l n) := by
  have hB : B1 = 1048576 := rfl
  refine Ev.bind (spec_sp l hl) ?_
  refine Ev.cbind (a := decide (0 ≤ n) && decide (n ≤ 600)) (by unfold spec_l1In.f; by_cases c : 0 ≤ n <;> simp [c]) ?_
  by_cases c : (decide (0 ≤ n) && decide (n ≤ 600)) = true
  · refine Ev.pos c ?_
    by_cases c2 : l.length ≤ 8
    · refine Ev.pos (by omega) ?_
      refine Ev.bind (spec_isSet (spOf l) (by rw [spOf_length]; omega)) ?_
      by_cases c3 : isSet (spOf l) = true
      · refine Ev.pos c3 ?_
        refine Ev.eq ?_ (last_ev (spOf l) n (by rw [spOf_length]; omega))
        simp only [areP, c, c3, decide_eq_true c2, Bool.and_true, Bool.true_and]
      · exact Ev.neg c3 (Ev.ret (by simp [areP, c3]))
    · exact Ev.neg (by omega) (Ev.ret (by simp [areP, c2]))
  · refine Ev.neg c (Ev.ret ?_)
    simp only [Bool.not_eq_true] at c
    simp only [areP, c, Bool.false_and]
theorem impl_are (l : List S44) (n : Int) (hl : l.length ≤ B1) : Ev (fun k => impl_ArePieces.f k l n) (areP l n) := by
  have hB : B1 = 1048576 := rfl
  refine Ev.bind (impl_sp l hl) ?_
  refine Ev.cbind (a := decide (0 ≤ n) && decide (n ≤ 600)) (by unfold impl_inRange.f; by_cases c : 0 ≤ n <;> simp [c]) ?_
  by_cases c : (decide (0 ≤ n) && decide (n ≤ 600)) = true
  · refine Ev.pos c ?_
    by_cases c2 : l.length ≤ 8
    · refine Ev.neg (by omega) ?_
      refine Ev.bind (impl_isSet (spOf l) (by rw [spOf_length]; omega)) ?_
      by_cases c3 : isSet (spOf l) = true
      · refine Ev.pos c3 ?_
        refine Ev.eq ?_ (last_ev (spOf l) n (by rw [spOf_length]; omega))
        simp only [areP, c, c3, decide_eq_true c2, Bool.and_true, Bool.true_and]
      · exact Ev.neg c3 (Ev.ret (by simp [areP, c3]))
    · exact Ev.pos (by omega) (Ev.ret (by simp [areP, c2]))
  · refine Ev.neg c (Ev.ret ?_)
    simp only [Bool.not_eq_true] at c
    simp only [areP, c, Bool.false_and]

/-- What a valid list of pieces is. -/
structure Val (l : List S44) (n : Int) : Prop where
  lo : 0 ≤ n
  hi : n ≤ 600
  len : l.length ≤ 8
  set : SetOk (spOf l)
  mem : ∀ x, x ∈ l → 0 ≤ x.f0 ∧ 0 < x.f1.size ∧ x.f0 + (x.f1.size : Int) ≤ n
theorem spn_val {x : S44} {n : Int} (h : 0 ≤ x.f0 ∧ 0 < x.f1.size ∧ x.f0 + (x.f1.size : Int) ≤ n) (hn : n ≤ 600) : spn x = ⟨x.f0, x.f0 + (x.f1.size : Int)⟩ := by
  rw [spn, wrap64_id (by omega) (by omega)]
theorem areP_iff (l : List S44) (n : Int) (hs : ∀ x, x ∈ l → x.f1.size ≤ B1) : areP l n = true ↔ Val l n := by
  simp only [areP, Bool.and_eq_true, decide_eq_true_eq, isSet_iff]
  constructor
  · rintro ⟨⟨⟨⟨h1, h2⟩, h3⟩, h4⟩, h5⟩
    refine ⟨h1, h2, h3, h4, fun x hx => ?_⟩
    have hv := h4.mem (spn x) (List.mem_map_of_mem hx)
    have hle := (lastOk_iff _ n h4).1 h5 (spn x) (List.mem_map_of_mem hx)
    have hz := hs x hx
    simp only [valid, spn, B1] at hv hle hz
    rw [wrap64_id (by omega) (by omega)] at hv hle
    omega
  · intro v
    refine ⟨⟨⟨⟨v.lo, v.hi⟩, v.len⟩, v.set⟩, (lastOk_iff _ n v.set).2 fun s hs => ?_⟩
    obtain ⟨x, hx, rfl⟩ := List.mem_map.1 hs
    rw [spn_val (v.mem x hx) v.hi]
    exact (v.mem x hx).2.2

/-- The byte that a list of pieces holds at a position, -1 where none does. -/
def byt : List S44 → Int → Int
  | [], _ => -1
  | x :: t, p => if x.f0 ≤ p ∧ p < x.f0 + (x.f1.size : Int) then bt x.f1 (p - x.f0) else byt t p
theorem byt_lo (l : List S44) (p : Int) : -1 ≤ byt l p ∧ byt l p ≤ 255 := by
  induction l with
  | nil => simp [byt]
  | cons x t ih =>
    rw [byt]
    split
    · have := bt_range x.f1 (p - x.f0); omega
    · exact ih
theorem byt_cov (l : List S44) (p : Int) : 0 ≤ byt l p ↔ ∃ x, x ∈ l ∧ x.f0 ≤ p ∧ p < x.f0 + (x.f1.size : Int) := by
  induction l with
  | nil => simp [byt]
  | cons x t ih =>
    rw [byt]
    split
    · rename_i h
      have := bt_range x.f1 (p - x.f0)
      exact ⟨fun _ => ⟨x, by simp, h.1, h.2⟩, fun _ => this.1⟩
    · rename_i h
      rw [ih]
      constructor
      · rintro ⟨y, hy, h'⟩; exact ⟨y, by simp [hy], h'⟩
      · rintro ⟨y, hy, h'⟩
        rcases List.mem_cons.1 hy with rfl | hy
        · exact absurd h' h
        · exact ⟨y, hy, h'⟩
theorem cov_byt {l : List S44} {n : Int} (v : Val l n) (p : Int) : cov (spOf l) p = true ↔ 0 ≤ byt l p := by
  rw [cov_iff, byt_cov]
  constructor
  · rintro ⟨s, hs, h1, h2⟩
    obtain ⟨x, hx, rfl⟩ := List.mem_map.1 hs
    rw [spn_val (v.mem x hx) v.hi] at h1 h2
    exact ⟨x, hx, h1, h2⟩
  · rintro ⟨x, hx, h1, h2⟩
    refine ⟨spn x, List.mem_map_of_mem hx, ?_⟩
    rw [spn_val (v.mem x hx) v.hi]
    exact ⟨h1, h2⟩
theorem spec_byte_l0 (L : List S44) (n : Int) (v : Val L n) (p : Int) (hp : 0 ≤ p) (hp' : p ≤ 600) (rest : List S44) : ∀ (pre : List S44), pre ++ rest = L →
    Ev (fun k => spec_l10Byte.l0 k L p (pre.length : Int)) (byt rest p) := by
  have hL := v.len
  have hn := v.hi
  induction rest with
  | nil =>
    intro pre hl
    simp only [List.append_nil] at hl
    subst hl
    apply Ev.step
    · intro k; rw [spec_l10Byte.l0]
    exact Ev.neg (by omega) (Ev.ret rfl)
  | cons x t ih =>
    intro pre hl
    have e1 : rd_T44 L (pre.length : Int) = x := by rw [← hl]; exact rd44_mid pre x t
    have hi := ih (pre ++ [x]) (by simpa using hl)
    have hlen : pre.length + (t.length + 1) = L.length := by rw [← hl]; simp
    have hx := v.mem x (by rw [← hl]; simp)
    have hb := bt_range x.f1 (p - x.f0)
    rw [← next_len pre x (by omega)] at hi
    apply Ev.step
    · intro k; rw [spec_l10Byte.l0]
    simp only [e1, wrap64_id (x := x.f0 + (x.f1.size : Int)) (by omega) (by omega), wrap64_id (x := p - x.f0) (by omega) (by omega), wrap64_id (x := bt x.f1 (p - x.f0)) (by omega) (by omega)]
    refine Ev.pos (by omega) (Ev.pos (by omega) ?_)
    have hby : byt (x :: t) p = if x.f0 ≤ p ∧ p < x.f0 + (x.f1.size : Int) then bt x.f1 (p - x.f0) else byt t p := rfl
    by_cases c : x.f0 ≤ p
    · refine Ev.pos c ?_
      by_cases c2 : p < x.f0 + (x.f1.size : Int)
      · exact Ev.pos c2 (Ev.pos (by omega) (Ev.pos (by omega) (Ev.ret (by rw [hby, if_pos ⟨c, c2⟩]))))
      · exact Ev.neg c2 (Ev.eq (by rw [hby, if_neg (by omega)]) hi)
    · exact Ev.neg c (Ev.eq (by rw [hby, if_neg (by omega)]) hi)
theorem spec_byte {l : List S44} {n : Int} (v : Val l n) (p : Int) (hp : 0 ≤ p) (hp' : p ≤ 600) : Ev (fun k => spec_l10Byte.f k l p) (byt l p) := spec_byte_l0 l n v p hp hp' l [] rfl
end Go.Proofs.Yteahdfibipalkaa.Pure

namespace Go.Proofs.Yteahdfibipalkaa.Pure
set_option linter.unusedVariables false
open Go.RowKit Go.Proofs.Yteahdfibipalkaa.G Go.Proofs.YteahdfibipalkaaW.PrintWords Go.Proofs.YteahdfibipalkaaW.PrintLast

def conf (l : List S44) (a : Int) (d : ByteArray) (p : Int) : Bool := decide (0 ≤ byt l p) && decide (byt l p ≠ bt d (p - a))
def anyC (l : List S44) (a : Int) (d : ByteArray) : Int → Nat → Bool
  | _, 0 => false
  | p, m + 1 => conf l a d p || anyC l a d (p + 1) m
def newB (l : List S44) (a : Int) (d : ByteArray) (p : Int) : Int := if byt l p < 0 then bt d (p - a) else byt l p
def vals (g : Int → Int) : Int → Nat → List Int
  | _, 0 => []
  | p, m + 1 => g p :: vals g (p + 1) m
def mk (g : Int → Int) (s : S26) : S44 := ⟨s.f0, strOfNums (vals g s.f0 (s.f1 - s.f0).toNat)⟩
def good (l : List S44) (n a : Int) (d : ByteArray) : Bool := areP l n && decide (0 ≤ a) && decide (0 < d.size) && decide (a + (d.size : Int) ≤ n)
def addP (l : List S44) (n a : Int) (d : ByteArray) : List S44 × Bool :=
  if good l n a d = true then (if anyC l a d a d.size = true then (l, false) else (if 8 < (addX (spOf l) a (a + (d.size : Int))).length then (l, false) else ((addX (spOf l) a (a + (d.size : Int))).map (mk (newB l a d)), true))) else (l, false)

section spec
variable {L : List S44} {n a : Int} {d : ByteArray} {SP : List S26}
theorem spec_l2 (v : Val L n) (hd : d.size ≤ B1) (hcov : ∀ s, s ∈ SP → ∀ p, s.f0 ≤ p → p < s.f1 → 0 ≤ byt L p ∨ (a ≤ p ∧ p < a + (d.size : Int))) (hSP : SP.length ≤ 8)
    (j : Nat) (s : S26) (e : rd_T26 SP (j : Int) = s) (hs : s ∈ SP) (h0 : 0 ≤ s.f0) (h1 : s.f1 ≤ 600) (hj : j < SP.length) (acc13 : List S44) (ha : acc13.length ≤ 8) {R : List S44 × Bool} (m : Nat) : ∀ (p : Int) (acc : List Int), p + (m : Int) = s.f1 → s.f0 ≤ p → acc.length + m ≤ 600 →
    Ev (fun k => spec_AddPiece.l1 k L SP (acc13 ++ [(⟨s.f0, strOfNums (acc ++ vals (newB L a d) p m)⟩ : S44)]) (wrap64 ((j : Int) + 1)) a d) R → Ev (fun k => spec_AddPiece.l2 k L SP acc13 (j : Int) acc p a d) R := by
  induction m with
  | zero =>
    intro p acc hp hp0 hacc hR
    apply Ev.step
    · intro k; rw [spec_AddPiece.l2]
    simp only [e]
    refine Ev.pos (by omega) (Ev.pos (by omega) (Ev.neg (by omega) (Ev.pos (by omega) ?_)))
    simpa [vals] using hR
  | succ m ih =>
    intro p acc hp hp0 hacc hR
    have hn := v.hi
    have hB : B1 = 1048576 := rfl
    have hq : Ev (fun k => spec_AddPiece.l2 k L SP acc13 (j : Int) (acc ++ [newB L a d p]) (p + 1) a d) R := by
      refine ih (p + 1) (acc ++ [newB L a d p]) (by omega) (by omega) (by simp; omega) ?_
      simpa [vals] using hR
    have hb := byt_lo L p
    apply Ev.step
    · intro k; rw [spec_AddPiece.l2]
    simp only [e]
    refine Ev.pos (by omega) (Ev.pos (by omega) (Ev.pos (by omega) (Ev.bind (spec_byte v p (by omega) (by omega)) ?_)))
    rw [wrap64_id (x := p + 1) (by omega) (by omega)]
    by_cases c : byt L p < 0
    · have hc := hcov s hs p hp0 (by omega)
      have hbt := bt_range d (p - a)
      rw [newB, if_pos c] at hq
      rw [wrap64_id (x := p - a) (by omega) (by omega), wrap64_id (x := bt d (p - a)) (by omega) (by omega), Int.emod_eq_of_lt (by omega) (by omega)]
      exact Ev.pos c (Ev.pos (by omega) (Ev.pos (by omega) (Ev.pos (by omega) hq)))
    · rw [newB, if_neg c] at hq
      rw [Int.emod_eq_of_lt (a := byt L p) (by omega) (by omega)]
      exact Ev.neg c (Ev.pos (by omega) hq)
theorem spec_l1 (v : Val L n) (hd : d.size ≤ B1) (hcov : ∀ s, s ∈ SP → ∀ p, s.f0 ≤ p → p < s.f1 → 0 ≤ byt L p ∨ (a ≤ p ∧ p < a + (d.size : Int))) (hSP : SP.length ≤ 8)
    (hin : ∀ s, s ∈ SP → 0 ≤ s.f0 ∧ s.f0 < s.f1 ∧ s.f1 ≤ 600) (rest : List S26) : ∀ (pre : List S26) (acc : List S44), pre ++ rest = SP → acc.length = pre.length →
    Ev (fun k => spec_AddPiece.l1 k L SP acc (pre.length : Int) a d) (acc ++ rest.map (mk (newB L a d)), true) := by
  induction rest with
  | nil =>
    intro pre acc hl ha
    simp only [List.append_nil] at hl
    subst hl
    apply Ev.step
    · intro k; rw [spec_AddPiece.l1]
    exact Ev.neg (by omega) (Ev.ret (by simp))
  | cons x t ih =>
    intro pre acc hl ha
    have e1 : rd_T26 SP (pre.length : Int) = x := by rw [← hl]; exact rd_mid pre x t
    have hi := ih (pre ++ [x]) (acc ++ [mk (newB L a d) x]) (by simpa using hl) (by simp [ha])
    have hlen : pre.length + (t.length + 1) = SP.length := by rw [← hl]; simp
    have hx := hin x (by rw [← hl]; simp)
    rw [← next_len pre x (by omega)] at hi
    apply Ev.step
    · intro k; rw [spec_AddPiece.l1]
    simp only [e1]
    refine Ev.pos (by omega) (Ev.pos (by omega) ?_)
    refine spec_l2 v hd hcov hSP pre.length x e1 (by rw [← hl]; simp) hx.1 hx.2.2 (by omega) acc (by omega) (x.f1 - x.f0).toNat x.f0 [] (by omega) (by omega) (by simp; omega) ?_
    refine Ev.eq ?_ hi
    simp
theorem sp_in (v : Val L n) (h0 : 0 ≤ a) (h1 : 0 < d.size) (h2 : a + (d.size : Int) ≤ n) : addX (spOf L) a (a + (d.size : Int)) = addR (spOf L) a (a + (d.size : Int)) := by
  have := v.hi
  rw [addX, if_pos ⟨(isSet_iff _).2 v.set, h0, by omega, by omega⟩]
theorem addR_hi (l : List S26) : ∀ (a b c : Int), (∀ s, s ∈ l → s.f1 ≤ c) → b ≤ c → ∀ s, s ∈ addR l a b → s.f1 ≤ c := by
  induction l with
  | nil => intro a b c _ h s hs; simp [addR] at hs; subst hs; exact h
  | cons x t ih =>
    intro a b c h1 h2 s hs
    rw [addR] at hs
    split at hs
    · rcases List.mem_cons.1 hs with rfl | hs
      · exact h1 _ (by simp)
      · exact ih a b c (fun s h => h1 s (by simp [h])) h2 s hs
    · split at hs
      · exact ih _ _ c (fun s h => h1 s (by simp [h])) (by have := h1 x (by simp); omega) s hs
      · rcases List.mem_cons.1 hs with rfl | hs
        · exact h2
        · exact h1 s hs
theorem sp_hi (v : Val L n) : ∀ s, s ∈ spOf L → s.f1 ≤ n := by
  intro s hs
  obtain ⟨x, hx, rfl⟩ := List.mem_map.1 hs
  rw [spn_val (v.mem x hx) v.hi]
  exact (v.mem x hx).2.2
theorem sp_facts (v : Val L n) (h0 : 0 ≤ a) (h1 : 0 < d.size) (h2 : a + (d.size : Int) ≤ n) :
    SetOk (addR (spOf L) a (a + (d.size : Int))) ∧ (∀ s, s ∈ addR (spOf L) a (a + (d.size : Int)) → 0 ≤ s.f0 ∧ s.f0 < s.f1 ∧ s.f1 ≤ n) ∧
    (∀ s, s ∈ addR (spOf L) a (a + (d.size : Int)) → ∀ p, s.f0 ≤ p → p < s.f1 → 0 ≤ byt L p ∨ (a ≤ p ∧ p < a + (d.size : Int))) := by
  have hn := v.hi
  have hok := addR_ok (spOf L) a (a + (d.size : Int)) v.set h0 (by omega) (by omega)
  refine ⟨hok, fun s hs => ⟨(hok.mem s hs).1, (hok.mem s hs).2.1, addR_hi _ _ _ n (sp_hi v) h2 s hs⟩, fun s hs p hp hp' => ?_⟩
  rcases (addR_cov (spOf L) a (a + (d.size : Int)) p v.set (by omega)).1 ⟨s, hs, hp, hp'⟩ with h | h
  · exact .inl ((cov_byt v p).1 ((cov_iff _ _).2 h))
  · exact .inr h
theorem spec_l0 (v : Val L n) (hd : d.size ≤ B1) (h0 : 0 ≤ a) (h1 : 0 < d.size) (h2 : a + (d.size : Int) ≤ n) (m : Nat) : ∀ p : Int, p + (m : Int) = a + (d.size : Int) → a ≤ p →
    Ev (fun k => spec_AddPiece.l0 k L L (a + (d.size : Int)) p a d) (if anyC L a d p m = true then (L, false) else (if 8 < (addX (spOf L) a (a + (d.size : Int))).length then (L, false) else ((addX (spOf L) a (a + (d.size : Int))).map (mk (newB L a d)), true))) := by
  have hn := v.hi
  have hB : B1 = 1048576 := rfl
  induction m with
  | zero =>
    intro p hp hp0
    have hle := v.len
    obtain ⟨f1, f2, f3⟩ := sp_facts v h0 h1 h2
    rw [anyC, if_neg (by simp)]
    apply Ev.step
    · intro k; rw [spec_AddPiece.l0]
    refine Ev.neg (by omega) (Ev.bind (spec_sp L (by omega)) (Ev.bind (spec_add (spOf L) a (a + (d.size : Int)) (by rw [spOf_length]; simp only [B0]; omega)) ?_))
    rw [sp_in v h0 h1 h2]
    by_cases c : 8 < (addR (spOf L) a (a + (d.size : Int))).length
    · rw [if_pos c]
      exact Ev.pos (by omega) (Ev.ret rfl)
    · rw [if_neg c]
      refine Ev.neg (by omega) ?_
      exact spec_l1 v hd f3 (by omega) (fun s hs => ⟨(f2 s hs).1, (f2 s hs).2.1, by have := (f2 s hs).2.2; omega⟩) _ [] [] rfl rfl
  | succ m ih =>
    intro p hp hp0
    have hi := ih (p + 1) (by omega) (by omega)
    have hb := byt_lo L p
    have hbt := bt_range d (p - a)
    apply Ev.step
    · intro k; rw [spec_AddPiece.l0]
    rw [wrap64_id (x := p - a) (by omega) (by omega), wrap64_id (x := bt d (p - a)) (by omega) (by omega), wrap64_id (x := p + 1) (by omega) (by omega)]
    refine Ev.pos (by omega) (Ev.bind (spec_byte v p (by omega) (by omega)) ?_)
    by_cases c : byt L p ≥ 0
    · refine Ev.pos c (Ev.pos (by omega) (Ev.pos (by omega) ?_))
      by_cases c2 : byt L p = bt d (p - a)
      · refine Ev.pos c2 (Ev.eq ?_ hi)
        have : conf L a d p = false := by simp [conf, c2]
        simp only [anyC, this, Bool.false_or]
      · refine Ev.neg c2 (Ev.ret ?_)
        have : conf L a d p = true := by simp only [conf, Bool.and_eq_true, decide_eq_true_eq]; exact ⟨by omega, c2⟩
        simp only [anyC, this, Bool.true_or, if_true]
    · refine Ev.neg c (Ev.eq ?_ hi)
      have : conf L a d p = false := by simp only [conf, Bool.and_eq_false_iff, decide_eq_false_iff_not]; exact .inl (by omega)
      simp only [anyC, this, Bool.false_or]
end spec
def Sz (l : List S44) : Prop := l.length ≤ B1 ∧ ∀ x, x ∈ l → x.f1.size ≤ B1
theorem spec_addP (l : List S44) (n a : Int) (d : ByteArray) (hs : Sz l) (hd : d.size ≤ B1) (hn : -9223372036854775808 ≤ n ∧ n ≤ 9223372036854775807) : Ev (fun k => spec_AddPiece.f k l n a d) (addP l n a d) := by
  have hB : B1 = 1048576 := rfl
  obtain ⟨hl, hs⟩ := hs
  refine Ev.retBind (Ev.pos (by simp; omega) (Ev.retBind ?_))
  rw [List.nil_append]
  refine Ev.bind (spec_are l n hl) ?_
  have hno : good l n a d = false → Ev (fun k => spec_AddPiece.j0 k l l (wrap64 (a + (d.size : Int))) true a d) (addP l n a d) := by
    intro h
    apply Ev.step
    · intro k; rw [spec_AddPiece.j0]
    exact Ev.pos rfl (Ev.ret (by rw [addP, h]; simp))
  by_cases c : areP l n = true
  · have v := (areP_iff l n hs).1 c
    have h0 := v.lo
    have h1 := v.hi
    refine Ev.pos c ?_
    by_cases c1 : a < 0
    · exact Ev.pos c1 (hno (by simp [good, show ¬ 0 ≤ a by omega]))
    refine Ev.neg c1 ?_
    by_cases c2 : d.size = 0
    · exact Ev.pos (by omega) (hno (by simp [good, c2]))
    refine Ev.neg (by omega) ?_
    by_cases c3 : (d.size : Int) > n
    · exact Ev.pos c3 (hno (by simp [good, show ¬ a + (d.size : Int) ≤ n by omega]))
    refine Ev.neg c3 ?_
    rw [wrap64_id (x := n - (d.size : Int)) (by omega) (by omega)]
    by_cases c4 : a > n - (d.size : Int)
    · rw [decide_eq_true c4]; exact hno (by simp [good, show ¬ a + (d.size : Int) ≤ n by omega])
    rw [decide_eq_false c4]
    have hg : good l n a d = true := by simp only [good, Bool.and_eq_true, decide_eq_true_eq]; exact ⟨⟨⟨c, by omega⟩, by omega⟩, by omega⟩
    apply Ev.step
    · intro k; rw [spec_AddPiece.j0]
    rw [wrap64_id (x := a + (d.size : Int)) (by omega) (by omega)]
    refine Ev.neg (by simp) (Ev.eq ?_ (spec_l0 v hd (by omega) (by omega) (by omega) d.size a rfl (by omega)))
    rw [addP, if_pos hg]
  · exact Ev.neg c (hno (by simp [good, c]))
end Go.Proofs.Yteahdfibipalkaa.Pure

namespace Go.Proofs.Yteahdfibipalkaa.Pure
open Go.RowKit Go.Proofs.Yteahdfibipalkaa.G Go.Proofs.YteahdfibipalkaaW.PrintWords Go.Proofs.YteahdfibipalkaaW.PrintLast
set_option linter.unusedVariables false

theorem toList_d (s : ByteArray) : s.toList = s.data.toList := by rw [← Go.ByteArray.toList_eq]
theorem toList_inj {s t : ByteArray} (h : s.toList = t.toList) : s = t := by
  rw [toList_d, toList_d] at h
  cases s; cases t
  simp at h
  rw [h]
theorem toList_nil {s : ByteArray} : s.toList = ([] : List UInt8) ↔ s.size = 0 := by
  rw [toList_d]
  constructor
  · intro h
    show s.data.size = 0
    rw [← Array.length_toList, h]; rfl
  · intro h
    apply List.eq_nil_of_length_eq_zero
    rw [Array.length_toList]
    exact h
theorem anyC_iff (l : List S44) (a : Int) (d : ByteArray) (m : Nat) : ∀ p, anyC l a d p m = true ↔ ∃ q, p ≤ q ∧ q < p + (m : Int) ∧ conf l a d q = true := by
  induction m with
  | zero => intro p; simp only [anyC]; constructor
            · intro h; simp at h
            · rintro ⟨q, h1, h2, _⟩; omega
  | succ m ih =>
    intro p
    simp only [anyC, Bool.or_eq_true, ih (p + 1)]
    constructor
    · rintro (h | ⟨q, h1, h2, h3⟩)
      · exact ⟨p, by omega, by omega, h⟩
      · exact ⟨q, by omega, by omega, h3⟩
    · rintro ⟨q, h1, h2, h3⟩
      by_cases c : q = p
      · subst c; exact .inl h3
      · exact .inr ⟨q, by omega, by omega, h3⟩
def put (arr : List Int) (x : S44) : List Int := arr.take x.f0.toNat ++ bytesOf x.f1 ++ arr.drop (x.f0.toNat + x.f1.size)
def cp : List Int → List S44 → List Int
  | arr, [] => arr
  | arr, x :: t => cp (put arr x) t
theorem put_length (arr : List Int) (x : S44) (h0 : 0 ≤ x.f0) (h1 : x.f0 + (x.f1.size : Int) ≤ arr.length) : (put arr x).length = arr.length := by
  simp only [put, List.length_append, List.length_take, List.length_drop, bytesOf_length]
  omega
theorem rd_put (arr : List Int) (x : S44) (h0 : 0 ≤ x.f0) (h1 : x.f0 + (x.f1.size : Int) ≤ arr.length) (p : Int) (hp : 0 ≤ p) :
    rd (put arr x) p = if x.f0 ≤ p ∧ p < x.f0 + (x.f1.size : Int) then bt x.f1 (p - x.f0) else rd arr p := by
  have hb := bytesOf_length x.f1
  by_cases c : x.f0 ≤ p
  · by_cases c2 : p < x.f0 + (x.f1.size : Int)
    · rw [if_pos ⟨c, c2⟩, ← rd_bytesOf]
      simp only [rd, put, List.getD_eq_getElem?_getD, List.getElem?_append, List.length_append, List.length_take, hb]
      rw [if_pos (by omega), if_neg (by omega)]
      congr 2
      omega
    · rw [if_neg (by omega)]
      simp only [rd, put, List.getD_eq_getElem?_getD, List.getElem?_append, List.length_append, List.length_take, hb, List.getElem?_drop]
      rw [if_neg (by omega)]
      congr 2
      omega
  · rw [if_neg (by omega)]
    simp only [rd, put, List.getD_eq_getElem?_getD, List.getElem?_append, List.length_append, List.length_take, hb, List.getElem?_take]
    rw [if_pos (by omega), if_pos (by omega), if_pos (by omega)]
theorem rd_cp (n : Int) (hn : n ≤ 600) (l : List S44) : ∀ arr : List Int, SetOk (spOf l) → (∀ x, x ∈ l → 0 ≤ x.f0 ∧ 0 < x.f1.size ∧ x.f0 + (x.f1.size : Int) ≤ n) → (arr.length : Int) = n →
    ((cp arr l).length : Int) = n ∧ ∀ p, 0 ≤ p → rd (cp arr l) p = if byt l p < 0 then rd arr p else byt l p := by
  induction l with
  | nil => intro arr _ _ h; exact ⟨h, fun p _ => by simp [cp, byt]⟩
  | cons x t ih =>
    intro arr hs hm ha
    have hx := hm x (by simp)
    have hpl := put_length arr x hx.1 (by omega)
    obtain ⟨i1, i2⟩ := ih (put arr x) hs.2.2 (fun y hy => hm y (by simp [hy])) (by omega)
    refine ⟨i1, fun p hp => ?_⟩
    rw [cp, i2 p hp, rd_put arr x hx.1 (by omega) p hp]
    by_cases c : x.f0 ≤ p ∧ p < x.f0 + (x.f1.size : Int)
    · have : ¬ 0 ≤ byt t p := by
        rw [byt_cov]
        rintro ⟨y, hy, h1, h2⟩
        have := hs.2.1 (spn y) (List.mem_map_of_mem hy)
        rw [spn_val hx hn, spn_val (hm y (by simp [hy])) hn] at this
        simp only at this
        omega
      rw [if_pos (by omega), if_pos c, byt, if_pos c, if_neg]
      have := bt_range x.f1 (p - x.f0)
      omega
    · rw [if_neg c, byt, if_neg c]
def st (a : Int) (d : ByteArray) : List Int → Int → Nat → List Int
  | arr, _, 0 => arr
  | arr, i, m + 1 => st a d (arr.set (a + i).toNat (bt d i)) (i + 1) m
theorem rd_set (arr : List Int) (q v : Int) (h0 : 0 ≤ q) (h1 : q < arr.length) (p : Int) (hp : 0 ≤ p) : rd (arr.set q.toNat v) p = if p = q then v else rd arr p := by
  simp only [rd, List.getD_eq_getElem?_getD, List.getElem?_set]
  by_cases c : p = q
  · subst c
    rw [if_pos rfl, if_pos (by omega), if_pos rfl]; rfl
  · rw [if_neg (by omega), if_neg c]
theorem rd_st (a : Int) (d : ByteArray) (m : Nat) : ∀ (arr : List Int) (i : Int), 0 ≤ a → 0 ≤ i → a + i + m ≤ arr.length → (st a d arr i m).length = arr.length ∧
    ∀ p, 0 ≤ p → rd (st a d arr i m) p = if a + i ≤ p ∧ p < a + i + (m : Int) then bt d (p - a) else rd arr p := by
  induction m with
  | zero => intro arr i _ _ _; exact ⟨rfl, fun p _ => by rw [if_neg (by omega)]; rfl⟩
  | succ m ih =>
    intro arr i h0 h1 h2
    obtain ⟨i1, i2⟩ := ih (arr.set (a + i).toNat (bt d i)) (i + 1) h0 (by omega) (by simp; omega)
    refine ⟨by rw [st, i1]; simp, fun p hp => ?_⟩
    rw [st, i2 p hp, rd_set arr (a + i) (bt d i) (by omega) (by omega) p hp]
    by_cases c : p = a + i
    · rw [if_neg (by omega), if_pos c, if_pos (by omega)]
      congr 1; omega
    · by_cases c2 : a + (i + 1) ≤ p ∧ p < a + (i + 1) + (m : Int)
      · rw [if_pos c2, if_pos (by omega)]
      · rw [if_neg c2, if_neg c, if_neg (by omega)]
theorem vals_length (g : Int → Int) (m : Nat) : ∀ p, (vals g p m).length = m := by
  induction m with
  | zero => intro p; rfl
  | succ m ih => intro p; simp [vals, ih]
theorem vals_congr {g h : Int → Int} (m : Nat) : ∀ p, (∀ q, p ≤ q → q < p + (m : Int) → g q = h q) → vals g p m = vals h p m := by
  induction m with
  | zero => intro p _; rfl
  | succ m ih => intro p hq; rw [vals, vals, hq p (by omega) (by omega), ih (p + 1) fun q h1 h2 => hq q (by omega) (by omega)]
theorem vals_get (g : Int → Int) (m : Nat) : ∀ (p : Int) (i : Nat), i < m → (vals g p m)[i]? = some (g (p + (i : Int))) := by
  induction m with
  | zero => intro p i h; omega
  | succ m ih =>
    intro p i h
    cases i with
    | zero => simp [vals]
    | succ i => rw [vals, List.getElem?_cons_succ, ih (p + 1) i (by omega)]; congr 2; omega
theorem slice_vals (arr : List Int) (u v : Int) (h0 : 0 ≤ u) (h1 : u ≤ v) (h2 : v ≤ arr.length) : (arr.take v.toNat).drop u.toNat = vals (rd arr) u (v - u).toNat := by
  apply List.ext_getElem?
  intro i
  by_cases c : i < (v - u).toNat
  · rw [vals_get _ _ _ _ c, List.getElem?_drop, List.getElem?_take, if_pos (by omega)]
    simp only [rd, List.getD_eq_getElem?_getD]
    rw [show (u + (i : Int)).toNat = u.toNat + i by omega, List.getElem?_eq_getElem (by omega)]
    rfl
  · rw [List.getElem?_eq_none (by simp; omega), List.getElem?_eq_none (by rw [vals_length]; omega)]
theorem piece_f (l : List S44) (h : l.length ≤ B1) : impl_Piece.f l = some l := by
  simp only [B1] at h
  unfold impl_Piece.f
  rw [Option.bind_some, if_pos (by simp; omega)]
  rfl
section impl
variable {L : List S44} {n a : Int} {d : ByteArray}
theorem impl_l2 (hL : L.length ≤ B1) (arr : List Int) (SP : List S26) (hSP : SP.length ≤ 100) (hin : ∀ s, s ∈ SP → 0 ≤ s.f0 ∧ s.f0 < s.f1 ∧ s.f1 ≤ arr.length) (rest : List S26) : ∀ (pre : List S26) (acc : List S44), pre ++ rest = SP → acc.length = pre.length →
    Ev (fun k => impl_AddPiece.l2 k L arr acc SP (SP.length : Int) (pre.length : Int)) (if 8 < SP.length then (L, false) else (acc ++ rest.map (mk (rd arr)), true)) := by
  induction rest with
  | nil =>
    intro pre acc hl ha
    simp only [List.append_nil] at hl
    subst hl
    apply Ev.step
    · intro k; rw [impl_AddPiece.l2]
    refine Ev.neg (by omega) ?_
    by_cases c : 8 < pre.length
    · exact Ev.pos (by omega) (Ev.cbind (piece_f L hL) (Ev.ret (by rw [if_pos c])))
    · exact Ev.neg (by omega) (Ev.ret (by rw [if_neg c]; simp))
  | cons x t ih =>
    intro pre acc hl ha
    have e1 : rd_T26 SP (pre.length : Int) = x := by rw [← hl]; exact rd_mid pre x t
    have hi := ih (pre ++ [x]) (acc ++ [mk (rd arr) x]) (by simpa using hl) (by simp [ha])
    have hlen : pre.length + (t.length + 1) = SP.length := by rw [← hl]; simp
    have hx := hin x (by rw [← hl]; simp)
    rw [← next_len pre x (by omega)] at hi
    apply Ev.step
    · intro k; rw [impl_AddPiece.l2]
    simp only [e1]
    rw [slice_vals arr x.f0 x.f1 hx.1 (by omega) hx.2.2]
    refine Ev.pos (by omega) (Ev.pos (by omega) (Ev.pos (by omega) (Ev.pos hx.1 (Ev.pos (by omega) (Ev.pos hx.2.2 (Ev.pos (by omega) (Ev.eq ?_ hi)))))))
    simp [mk]
theorem impl_l1 (v : Val L n) (h0 : 0 ≤ a) (h2 : a + (d.size : Int) ≤ n) {R : List S44 × Bool} (m : Nat) : ∀ (arr : List Int) (i : Int), (arr.length : Int) = n → 0 ≤ i → i + (m : Int) = d.size →
    (∀ q, a + i ≤ q → rd arr q = if byt L q < 0 then 0 else byt L q) →
    (anyC L a d (a + i) m = false → Ev (fun k => impl_AddPiece.l1 k L (st a d arr i m) (d.size : Int) (d.size : Int) a d) R) →
    Ev (fun k => impl_AddPiece.l1 k L arr (d.size : Int) i a d) (if anyC L a d (a + i) m = true then (L, false) else R) := by
  have hn := v.hi
  have hlen := v.len
  have hB : B1 = 1048576 := rfl
  induction m with
  | zero =>
    intro arr i ha hi him hr hR
    rw [anyC, if_neg (by simp)]
    have : i = (d.size : Int) := by omega
    subst this
    exact hR rfl
  | succ m ih =>
    intro arr i ha hi him hr hR
    have hb := byt_lo L (a + i)
    have hra := hr (a + i) (by omega)
    have hcov : (cov (spOf L) (a + i) = true) = (0 ≤ byt L (a + i)) := propext (cov_byt v (a + i))
    have hsub : a + i - a = i := by omega
    have hnext : conf L a d (a + i) = false → Ev (fun k => impl_AddPiece.l1 k L (arr.set (a + i).toNat (bt d i)) (d.size : Int) (i + 1) a d) (if anyC L a d (a + i) (m + 1) = true then (L, false) else R) := by
      intro hc
      have := ih (arr.set (a + i).toNat (bt d i)) (i + 1) (by simpa using ha) (by omega) (by omega) (fun q hq => by
        rw [rd_set arr (a + i) (bt d i) (by omega) (by omega) q (by omega), if_neg (by omega)]; exact hr q (by omega)) (fun h => hR (by rw [anyC, hc, Bool.false_or, show a + i + 1 = a + (i + 1) by omega]; exact h))
      rw [anyC, hc, Bool.false_or, show a + i + 1 = a + (i + 1) by omega]
      exact this
    apply Ev.step
    · intro k; rw [impl_AddPiece.l1]
    rw [wrap64_id (x := a + i) (by omega) (by omega), wrap64_id (x := i + 1) (by omega) (by omega)]
    refine Ev.pos (by omega) (Ev.bind (impl_sp L (by omega)) (Ev.cbind (impl_cov (spOf L) (a + i) (by omega) (by omega)) ?_))
    by_cases c : cov (spOf L) (a + i) = true
    · have c' := hcov ▸ c
      refine Ev.pos c (Ev.pos (by omega) (Ev.pos (by omega) (Ev.pos hi (Ev.pos (by omega) ?_))))
      rw [hra, if_neg (by omega)]
      by_cases c2 : byt L (a + i) = bt d i
      · exact Ev.pos c2 (hnext (by simp [conf, c2, hsub]))
      · refine Ev.neg c2 (Ev.cbind (piece_f L (by omega)) (Ev.ret ?_))
        have : conf L a d (a + i) = true := by simp only [conf, Bool.and_eq_true, decide_eq_true_eq, hsub]; exact ⟨c', c2⟩
        rw [anyC, this, Bool.true_or, if_pos rfl]
    · refine Ev.neg c (Ev.pos hi (Ev.pos (by omega) (Ev.pos (by omega) (Ev.pos (by omega) (hnext ?_)))))
      have : ¬ 0 ≤ byt L (a + i) := fun h => c (hcov ▸ h)
      simp [conf, this]
theorem impl_l0 (v : Val L n) {R : List S44 × Bool} (rest : List S44) : ∀ (pre : List S44) (arr : List Int), pre ++ rest = L → (arr.length : Int) = n →
    Ev (fun k => impl_AddPiece.l1 k L (cp arr rest) (d.size : Int) 0 a d) R → Ev (fun k => impl_AddPiece.l0 k L arr L (L.length : Int) (pre.length : Int) a d) R := by
  have hn := v.hi
  have hL := v.len
  induction rest with
  | nil =>
    intro pre arr hl ha hR
    simp only [List.append_nil] at hl
    subst hl
    apply Ev.step
    · intro k; rw [impl_AddPiece.l0]
    exact Ev.neg (by omega) hR
  | cons x t ih =>
    intro pre arr hl ha hR
    have e1 : rd_T44 L (pre.length : Int) = x := by rw [← hl]; exact rd44_mid pre x t
    have hx := v.mem x (by rw [← hl]; simp)
    have hi := ih (pre ++ [x]) (put arr x) (by simpa using hl) (by rw [put_length arr x hx.1 (by omega)]; exact ha) hR
    have hlen : pre.length + (t.length + 1) = L.length := by rw [← hl]; simp
    rw [← next_len pre x (by omega)] at hi
    apply Ev.step
    · intro k; rw [impl_AddPiece.l0]
    simp only [e1]
    refine Ev.pos (by omega) (Ev.pos (by omega) (Ev.pos (by omega) (Ev.cbind (a := put arr x) ?_ hi)))
    rw [copyAt.f, if_pos hx.1, if_pos hx.2.1, if_pos (by omega)]
    rfl
end impl
theorem impl_addP (l : List S44) (n a : Int) (d : ByteArray) (hs : Sz l) (hd : d.size ≤ B1) (hn : -9223372036854775808 ≤ n ∧ n ≤ 9223372036854775807) : Ev (fun k => impl_AddPiece.f k l n a d) (addP l n a d) := by
  have hB : B1 = 1048576 := rfl
  obtain ⟨hl, hs⟩ := hs
  refine Ev.bind (impl_are l n hl) ?_
  have hno : good l n a d = false → Ev (fun k => impl_AddPiece.j0 k l n true a d) (addP l n a d) := by
    intro h
    apply Ev.step
    · intro k; rw [impl_AddPiece.j0]
    exact Ev.pos rfl (Ev.cbind (piece_f l hl) (Ev.ret (by rw [addP, h]; simp)))
  by_cases c : areP l n = true
  · have v := (areP_iff l n hs).1 c
    have h0 := v.lo
    have h1 := v.hi
    refine Ev.pos c ?_
    by_cases c2 : d.size = 0
    · exact Ev.pos (toList_nil.2 c2) (hno (by simp [good, c2]))
    refine Ev.neg (fun h => c2 (toList_nil.1 h)) ?_
    by_cases c1 : a < 0
    · exact Ev.pos c1 (hno (by simp [good, show ¬ 0 ≤ a by omega]))
    refine Ev.neg c1 ?_
    rw [wrap64_id (x := n - (d.size : Int)) (by omega) (by omega)]
    by_cases c4 : a > n - (d.size : Int)
    · rw [decide_eq_true c4]; exact hno (by simp [good, show ¬ a + (d.size : Int) ≤ n by omega])
    rw [decide_eq_false c4]
    have hg : good l n a d = true := by simp only [good, Bool.and_eq_true, decide_eq_true_eq]; exact ⟨⟨⟨c, by omega⟩, by omega⟩, by omega⟩
    obtain ⟨f1, f2, f3⟩ := sp_facts (a := a) (d := d) v (by omega) (by omega) (by omega)
    have hlen := v.len
    obtain ⟨k1, k2⟩ := rd_cp n h1 l (List.replicate n.toNat 0) v.set v.mem (by simp; omega)
    have hz : ∀ p, rd (List.replicate n.toNat (0 : Int)) p = 0 := by
      intro p
      simp only [rd, List.getD_eq_getElem?_getD, List.getElem?_replicate]
      split <;> rfl
    obtain ⟨s1, s2⟩ := rd_st a d d.size (cp (List.replicate n.toNat 0) l) 0 (by omega) (by omega) (by omega)
    apply Ev.step
    · intro k; rw [impl_AddPiece.j0]
    refine Ev.neg (by simp) (Ev.pos h0 (Ev.pos (by omega) ?_))
    refine impl_l0 v l [] (List.replicate n.toNat 0) rfl (by simp; omega) ?_
    have := impl_l1 (R := if 8 < (addX (spOf l) a (a + (d.size : Int))).length then (l, false) else ((addX (spOf l) a (a + (d.size : Int))).map (mk (newB l a d)), true)) v (a := a) (d := d) (by omega) (by omega) d.size (cp (List.replicate n.toNat 0) l) 0 k1 (by omega) (by omega) (fun q hq => by rw [k2 q (by omega), hz]) (fun hc => ?_)
    · refine Ev.eq ?_ this
      rw [addP, if_pos hg, Int.add_zero]
    · apply Ev.step
      · intro k; rw [impl_AddPiece.l1]
      rw [wrap64_id (x := a + (d.size : Int)) (by omega) (by omega)]
      refine Ev.neg (by omega) (Ev.bind (impl_sp l hl) (Ev.bind (impl_add (spOf l) a (a + (d.size : Int)) (by rw [spOf_length]; simp only [B0]; omega)) ?_))
      rw [sp_in v (by omega) (by omega) (by omega)]
      have hal := addR_length (spOf l) a (a + (d.size : Int))
      rw [spOf_length] at hal
      refine Ev.eq ?_ (impl_l2 hl _ _ (by omega) (fun s hs => ⟨(f2 s hs).1, (f2 s hs).2.1, by have := (f2 s hs).2.2; omega⟩) _ [] [] rfl rfl)
      have hmap : (addR (spOf l) a (a + (d.size : Int))).map (mk (rd (st a d (cp (List.replicate n.toNat 0) l) 0 d.size))) = (addR (spOf l) a (a + (d.size : Int))).map (mk (newB l a d)) := by
        apply List.map_congr_left
        intro s hs
        have := f2 s hs
        simp only [mk]
        congr 2
        refine vals_congr _ _ fun q hq1 hq2 => ?_
        rw [s2 q (by omega), k2 q (by omega), hz, newB]
        have hcv := f3 s hs q hq1 (by omega)
        have hb := byt_lo l q
        by_cases cc : a ≤ q ∧ q < a + (d.size : Int)
        · rw [if_pos (by omega)]
          by_cases c5 : byt l q < 0
          · rw [if_pos c5]
          · rw [if_neg c5]
            apply Classical.byContradiction
            intro hne
            have := (anyC_iff l a d d.size (a + 0)).2 ⟨q, by omega, by omega, by simp only [conf, Bool.and_eq_true, decide_eq_true_eq]; exact ⟨by omega, fun h => hne h.symm⟩⟩
            rw [hc] at this
            cases this
        · rw [if_neg (by omega), if_neg (by omega), if_neg (by omega)]
      rw [hmap, List.nil_append]
  · exact Ev.neg c (hno (by simp [good, c]))
end Go.Proofs.Yteahdfibipalkaa.Pure

namespace Go.Proofs.Yteahdfibipalkaa.Pure
open Go.RowKit Go.Proofs.Yteahdfibipalkaa.G Go.Proofs.YteahdfibipalkaaW.PrintWords Go.Proofs.YteahdfibipalkaaW.PrintLast
set_option linter.unusedVariables false

def Byte (g : Int → Int) : Prop := ∀ p, 0 ≤ g p ∧ g p ≤ 255
theorem bytes_nums (xs : List Int) (h : ∀ x, x ∈ xs → 0 ≤ x ∧ x ≤ 255) : bytesOf (strOfNums xs) = xs := by
  show ((strOfNums xs).data.toList.map fun b => (b.toNat : Int)) = xs
  rw [strOfNums_data, List.map_map]
  conv => rhs; rw [← List.map_id xs]
  apply List.map_congr_left
  intro x hx
  have := h x hx
  show ((UInt8.ofNat x.toNat).toNat : Int) = x
  rw [UInt8.toNat_ofNat']
  omega
theorem nums_bytes (s : ByteArray) : strOfNums (bytesOf s) = s := by
  apply toList_inj
  rw [toList_d, toList_d, strOfNums_data]
  show ((s.data.toList.map fun b => (b.toNat : Int)).map fun n => UInt8.ofNat n.toNat) = _
  rw [List.map_map]
  conv => rhs; rw [← List.map_id s.data.toList]
  apply List.map_congr_left
  intro x _
  show UInt8.ofNat ((x.toNat : Int)).toNat = x
  rw [Int.toNat_natCast]
  exact UInt8.ofNat_toNat
theorem vals_mem {g : Int → Int} (hg : Byte g) (m : Nat) : ∀ p x, x ∈ vals g p m → 0 ≤ x ∧ x ≤ 255 := by
  induction m with
  | zero => intro p x h; simp [vals] at h
  | succ m ih =>
    intro p x h
    rcases List.mem_cons.1 h with rfl | h
    · exact hg p
    · exact ih _ x h
theorem bt_vals {g : Int → Int} (hg : Byte g) (p : Int) (m : Nat) (i : Int) (h0 : 0 ≤ i) (h1 : i < m) : bt (strOfNums (vals g p m)) i = g (p + i) := by
  rw [← rd_bytesOf, bytes_nums _ (vals_mem hg m p), rd, List.getD_eq_getElem?_getD, vals_get g m p i.toNat (by omega)]
  show g _ = g _
  congr 1; omega
theorem vals_own (d : ByteArray) (a : Int) {g : Int → Int} (h : ∀ p, a ≤ p → p < a + (d.size : Int) → g p = bt d (p - a)) : strOfNums (vals g a d.size) = d := by
  rw [← nums_bytes d]
  congr 1
  apply List.ext_getElem?
  intro i
  by_cases c : i < d.size
  · rw [nums_bytes, vals_get _ _ _ _ c, h _ (by omega) (by omega), ← rd_bytesOf, rd, List.getD_eq_getElem?_getD, show (a + (i : Int) - a).toNat = i by omega,
      List.getElem?_eq_getElem (by rw [bytesOf_length]; exact c)]
    rfl
  · rw [List.getElem?_eq_none (by rw [vals_length, nums_bytes]; omega), List.getElem?_eq_none (by rw [bytesOf_length]; omega)]
theorem vals_drop (g : Int → Int) (i : Nat) : ∀ (m : Nat) (p : Int), i ≤ m → (vals g p m).drop i = vals g (p + i) (m - i) := by
  induction i with
  | zero => intro m p _; simp
  | succ i ih =>
    intro m p h
    cases m with
    | zero => omega
    | succ m => rw [vals, List.drop_succ_cons, ih m (p + 1) (by omega)]; congr 1 <;> omega
theorem vals_take (g : Int → Int) (i : Nat) : ∀ (m : Nat) (p : Int), i ≤ m → (vals g p m).take i = vals g p i := by
  induction i with
  | zero => intro m p _; simp [vals]
  | succ i ih =>
    intro m p h
    cases m with
    | zero => omega
    | succ m => rw [vals, List.take_succ_cons, ih m (p + 1) (by omega)]; rfl
theorem ext_nums (xs : List Int) (i j : Nat) : (strOfNums xs).extract i j = strOfNums ((xs.take j).drop i) := by
  apply toList_inj
  rw [toList_d, toList_d, strOfNums_data, ByteArray.data_extract, Array.toList_extract, List.extract_eq_take_drop, strOfNums_data, List.map_drop, List.map_take, List.drop_take]
theorem ext_vals (g : Int → Int) (p : Int) (m i j : Nat) (h : i ≤ j) (h' : j ≤ m) : (strOfNums (vals g p m)).extract i j = strOfNums (vals g (p + i) (j - i)) := by
  rw [ext_nums, vals_take g j m p h', vals_drop g i j p h]

theorem mk_size (g : Int → Int) (s : S26) : (mk g s).f1.size = (s.f1 - s.f0).toNat := by
  show (strOfNums _).size = _
  rw [strOfNums_size, vals_length]
/-- A canonical list of pieces: its spans, and its bytes. -/
structure Is (y : List S44) (sp : List S26) (g : Int → Int) (n : Int) : Prop where
  eq : y = sp.map (mk g)
  ok : SetOk sp
  hi : ∀ s, s ∈ sp → s.f1 ≤ n
  len : sp.length ≤ 8
  lo : 0 ≤ n
  up : n ≤ 600
theorem Is.sp {y : List S44} {sp : List S26} {g : Int → Int} {n : Int} (h : Is y sp g n) : spOf y = sp := by
  rw [h.eq, spOf, List.map_map]
  conv => rhs; rw [← List.map_id sp]
  apply List.map_congr_left
  intro s hs
  have hv := h.ok.mem s hs
  have h1 := h.hi s hs
  have h2 := h.up
  obtain ⟨v0, v1, v2⟩ := hv
  show spn (Pure.mk g s) = s
  rw [spn, mk_size]
  show (⟨s.f0, wrap64 (s.f0 + ((s.f1 - s.f0).toNat : Int))⟩ : S26) = s
  rw [show s.f0 + ((s.f1 - s.f0).toNat : Int) = s.f1 by omega, wrap64_id (by omega) (by omega)]
theorem Is.val {y : List S44} {sp : List S26} {g : Int → Int} {n : Int} (h : Is y sp g n) : Val y n := by
  refine ⟨h.lo, h.up, by rw [h.eq, List.length_map]; exact h.len, by rw [h.sp]; exact h.ok, fun x hx => ?_⟩
  rw [h.eq] at hx
  obtain ⟨s, hs, rfl⟩ := List.mem_map.1 hx
  obtain ⟨v0, v1, v2⟩ := h.ok.mem s hs
  have := h.hi s hs
  rw [mk_size]
  show 0 ≤ s.f0 ∧ _ ∧ s.f0 + _ ≤ n
  omega
theorem Is.szs {y : List S44} {sp : List S26} {g : Int → Int} {n : Int} (h : Is y sp g n) : ∀ x, x ∈ y → x.f1.size ≤ 600 := by
  intro x hx
  have := h.val.mem x hx
  have := h.up
  omega
theorem byt_map {g : Int → Int} (hg : Byte g) (sp : List S26) : SetOk sp → ∀ p, (covB sp p → byt (sp.map (mk g)) p = g p) ∧ (¬ covB sp p → byt (sp.map (mk g)) p = -1) := by
  induction sp with
  | nil => intro _ p; exact ⟨fun ⟨s, hs, _⟩ => by simp at hs, fun _ => rfl⟩
  | cons s t ih =>
    intro h p
    obtain ⟨v0, v1, v2⟩ := h.1
    have hc : covB (s :: t) p ↔ ((s.f0 ≤ p ∧ p < s.f1) ∨ covB t p) := by simp [covB]
    have hsz := mk_size g s
    have hf : (mk g s).f0 = s.f0 := rfl
    obtain ⟨i1, i2⟩ := ih h.2.2 p
    rw [List.map_cons, byt, hc, hf, hsz]
    by_cases c : s.f0 ≤ p ∧ p < s.f1
    · rw [if_pos (by omega)]
      refine ⟨fun _ => ?_, fun hn => absurd (.inl c) hn⟩
      show bt (strOfNums (vals g s.f0 _)) _ = _
      rw [bt_vals hg _ _ _ (by omega) (by omega)]
      congr 1; omega
    · rw [if_neg (by omega)]
      exact ⟨fun h => i1 (h.resolve_left c), fun h => i2 fun h' => h (.inr h')⟩
theorem Is.byt {y : List S44} {sp : List S26} {g : Int → Int} {n : Int} (h : Is y sp g n) (hg : Byte g) (p : Int) : (covB sp p → Pure.byt y p = g p) ∧ (¬ covB sp p → Pure.byt y p = -1) := by
  rw [h.eq]; exact byt_map hg sp h.ok p
theorem newB_byte (l : List S44) (a : Int) (d : ByteArray) : Byte (newB l a d) := by
  intro p
  have h1 := byt_lo l p
  have h2 := bt_range d (p - a)
  unfold newB
  split <;> omega
/-- Adding what agrees with g to a list that agrees with g. -/
theorem Is.step {y : List S44} {sp : List S26} {g : Int → Int} {n : Int} (h : Is y sp g n) (hg : Byte g) (a : Int) (d : ByteArray) (hd : ∀ p, a ≤ p → p < a + (d.size : Int) → g p = bt d (p - a)) (hok : (addP y n a d).2 = true) :
    ∃ sp', Is (addP y n a d).1 sp' g n ∧ ∀ p, covB sp' p ↔ (covB sp p ∨ (a ≤ p ∧ p < a + (d.size : Int))) := by
  have hS : ∀ x, x ∈ y → x.f1.size ≤ B1 := fun x hx => by have := h.szs x hx; simp only [B1]; omega
  by_cases c1 : good y n a d = true
  · have c1' := c1
    simp only [good, Bool.and_eq_true, decide_eq_true_eq] at c1'
    obtain ⟨⟨⟨g0, g1⟩, g2⟩, g3⟩ := c1'
    have v := h.val
    obtain ⟨f1, f2, f3⟩ := sp_facts v g1 g2 g3
    rw [addP, if_pos c1, sp_in v g1 g2 g3] at hok ⊢
    by_cases c2 : anyC y a d a d.size = true
    · rw [if_pos c2] at hok; cases hok
    rw [if_neg c2] at hok ⊢
    by_cases c3 : 8 < (addR (spOf y) a (a + (d.size : Int))).length
    · rw [if_pos c3] at hok; cases hok
    rw [if_neg c3]
    have hcv : ∀ p, covB (addR (spOf y) a (a + (d.size : Int))) p ↔ (covB sp p ∨ (a ≤ p ∧ p < a + (d.size : Int))) := by
      intro p
      rw [addR_cov (spOf y) a _ p v.set (by omega), h.sp]
    refine ⟨addR (spOf y) a (a + (d.size : Int)), ⟨?_, f1, fun s hs => (f2 s hs).2.2, by omega, h.lo, h.up⟩, hcv⟩
    apply List.map_congr_left
    intro s hs
    have := f2 s hs
    simp only [Pure.mk]
    congr 2
    refine vals_congr _ _ fun q hq1 hq2 => ?_
    obtain ⟨b1, b2⟩ := h.byt hg q
    rw [newB]
    by_cases c : covB sp q
    · rw [b1 c, if_neg (by have := hg q; omega)]
    · rw [b2 c, if_pos (by omega)]
      have := ((hcv q).1 ⟨s, hs, hq1, by omega⟩).resolve_left c
      exact (hd q this.1 this.2).symm
  · rw [addP, if_neg c1] at hok; cases hok
theorem SetOk.uniq (s1 : List S26) : ∀ s2, SetOk s1 → SetOk s2 → (∀ p, covB s1 p ↔ covB s2 p) → s1 = s2 := by
  have hne : ∀ (y : S26) (u : List S26), SetOk (y :: u) → covB (y :: u) y.f0 := fun y u h => ⟨y, by simp, by omega, h.1.2.1⟩
  have hno : ∀ p, ¬ covB [] p := fun p ⟨s, hs, _⟩ => by simp at hs
  have hmin : ∀ (y : S26) (u : List S26) p, SetOk (y :: u) → covB (y :: u) p → y.f0 ≤ p := by
    rintro y u p h ⟨s, hs, h1, h2⟩
    rcases List.mem_cons.1 hs with rfl | hs
    · exact h1
    · have := h.2.1 s hs; have := h.1.2.1; omega
  have hend : ∀ (y : S26) (u : List S26), SetOk (y :: u) → ¬ covB (y :: u) y.f1 := by
    rintro y u h ⟨s, hs, h1, h2⟩
    rcases List.mem_cons.1 hs with rfl | hs
    · omega
    · have := h.2.1 s hs; omega
  have htl : ∀ (y : S26) (u : List S26) p, SetOk (y :: u) → (covB u p ↔ (covB (y :: u) p ∧ y.f1 ≤ p)) := by
    intro y u p h
    constructor
    · rintro ⟨s, hs, h1, h2⟩
      exact ⟨⟨s, by simp [hs], h1, h2⟩, by have := h.2.1 s hs; omega⟩
    · rintro ⟨⟨s, hs, h1, h2⟩, h3⟩
      rcases List.mem_cons.1 hs with rfl | hs
      · omega
      · exact ⟨s, hs, h1, h2⟩
  induction s1 with
  | nil =>
    intro s2 _ h2 h
    cases s2 with
    | nil => rfl
    | cons y u => exact absurd ((h y.f0).2 (hne y u h2)) (hno _)
  | cons x t ih =>
    intro s2 h1 h2 h
    cases s2 with
    | nil => exact absurd ((h x.f0).1 (hne x t h1)) (hno _)
    | cons y u =>
      have e0 : x.f0 = y.f0 := by
        have := hmin y u _ h2 ((h x.f0).1 (hne x t h1))
        have := hmin x t _ h1 ((h y.f0).2 (hne y u h2))
        omega
      have w1 := h1.1.2.1
      have w2 := h2.1.2.1
      have e1 : x.f1 = y.f1 := by
        apply Classical.byContradiction
        intro hc
        rcases Int.lt_or_gt_of_ne hc with hl | hl
        · exact hend x t h1 ((h x.f1).2 ⟨y, by simp, by omega, hl⟩)
        · exact hend y u h2 ((h y.f1).1 ⟨x, by simp, by omega, hl⟩)
      have exy : x = y := by cases x; cases y; simp at e0 e1; simp [e0, e1]
      subst exy
      rw [ih u h1.2.2 h2.2.2 fun p => by rw [htl x t p h1, htl x u p h2, h p]]
theorem Is.uniq {y z : List S44} {sp sp' : List S26} {g : Int → Int} {n : Int} (h : Is y sp g n) (h' : Is z sp' g n) (hc : ∀ p, covB sp p ↔ covB sp' p) : y = z := by
  rw [h.eq, h'.eq, SetOk.uniq sp sp' h.ok h'.ok hc]
theorem size_le (l : List S26) : ∀ (c n : Int), SetOk l → (∀ s, s ∈ l → c ≤ s.f0 ∧ s.f1 ≤ n) → c ≤ n → size l ≤ n - c := by
  induction l with
  | nil => intro c n _ _ h; simp [size]; omega
  | cons x t ih =>
    intro c n h hm hc
    have hx := hm x (by simp)
    have hv := h.1.2.1
    have := ih x.f1 n h.2.2 (fun s hs => ⟨by have := h.2.1 s hs; omega, (hm s (by simp [hs])).2⟩) hx.2
    simp only [size]; omega
theorem size_nonneg (l : List S26) : SetOk l → 0 ≤ size l := by
  induction l with
  | nil => intro _; simp [size]
  | cons x t ih => intro h; have := ih h.2.2; have := h.1.2.1; simp only [size]; omega
theorem size_mem (l : List S26) : SetOk l → ∀ s, s ∈ l → s.f1 - s.f0 ≤ size l := by
  induction l with
  | nil => intro _ s hs; simp at hs
  | cons x t ih =>
    intro h s hs
    have h0 := size_nonneg t h.2.2
    have hv := h.1.2.1
    rcases List.mem_cons.1 hs with rfl | hs
    · simp only [size]; omega
    · have := ih h.2.2 s hs; simp only [size]; omega
theorem whole_iff (l : List S26) (n : Int) (h : SetOk l) (hm : ∀ s, s ∈ l → s.f1 ≤ n) (hn : 0 < n) : (l.any fun y => decide (y.f0 ≤ 0) && decide (n ≤ y.f1)) = (size l == n) := by
  have hle := size_le l 0 n h (fun s hs => ⟨(h.mem s hs).1, hm s hs⟩) (by omega)
  rw [Bool.eq_iff_iff]
  simp only [List.any_eq_true, Bool.and_eq_true, decide_eq_true_eq, beq_iff_eq]
  constructor
  · rintro ⟨s, hs, h1, h2⟩
    have := size_mem l h s hs
    omega
  · intro hs
    cases l with
    | nil => simp [size] at hs; omega
    | cons x t =>
      have hx := h.1
      obtain ⟨x0, x1, x2⟩ := hx
      have hxn := hm x (by simp)
      cases t with
      | nil => simp only [size] at hs; exact ⟨x, by simp, by omega, by omega⟩
      | cons y u =>
        have hy := h.2.1 y (by simp)
        have hyn := hm y (by simp)
        have hy1 := h.2.2.1.2.1
        have := size_le (y :: u) (x.f1 + 1) n h.2.2 (fun s hs' => ⟨by have := h.2.1 s hs'; omega, hm s (List.mem_cons_of_mem _ hs')⟩) (by omega)
        simp only [size] at hs this
        omega
end Go.Proofs.Yteahdfibipalkaa.Pure

namespace Go.Proofs.Yteahdfibipalkaa.Pure
open Go.RowKit Go.Proofs.Yteahdfibipalkaa.G Go.Proofs.YteahdfibipalkaaW.PrintWords Go.Proofs.YteahdfibipalkaaW.PrintLast
set_option linter.unusedVariables false

/-! the draw -/
theorem lp_some {b : List Int} {i : Int} (h : Int) (s : St b i) : ∃ v t i' h', spec_l10Piece.f b i h = some (v, t, i', h') ∧ t.size ≤ 20 ∧ St b i' := by
  obtain ⟨v, i1, h1, e1, v0, v1, s1⟩ := below_some h 20 s (by omega) (by omega)
  obtain ⟨u, i2, h2, e2, u0, u1, s2⟩ := below_some h1 7 s1 (by omega) (by omega)
  unfold spec_l10Piece.f
  rw [e1, Option.bind_some]
  simp only
  rw [e2, Option.bind_some]
  simp only
  rw [wrap64_id (x := v + 1) (by omega) (by omega), wrap64_id (x := v + 1 + u) (by omega) (by omega), min_f, Option.bind_some, if_pos v0, if_pos (by omega), if_pos (by omega)]
  refine ⟨_, _, _, _, rfl, ?_, s2⟩
  rw [ByteArray.size_extract]
  omega
def Sm (l : List S44) : Prop := l.length ≤ 8 ∧ ∀ x, x ∈ l → x.f1.size ≤ 600
theorem addP_sm {l : List S44} {n a : Int} {d : ByteArray} (h : Sm l) : Sm (addP l n a d).1 := by
  have hB : B1 = 1048576 := rfl
  unfold addP
  split
  · rename_i hg
    split
    · exact h
    · split
      · exact h
      · rename_i hl
        simp only [good, Bool.and_eq_true, decide_eq_true_eq] at hg
        obtain ⟨⟨⟨g0, g1⟩, g2⟩, g3⟩ := hg
        have v := (areP_iff l n (fun x hx => by have := h.2 x hx; omega)).1 g0
        obtain ⟨f1, f2, f3⟩ := sp_facts v g1 g2 g3
        have hn := v.hi
        rw [sp_in v g1 g2 g3] at hl ⊢
        refine ⟨by simp only [List.length_map]; omega, fun x hx => ?_⟩
        obtain ⟨s, hs, rfl⟩ := List.mem_map.1 hx
        have := f2 s hs
        rw [mk_size]
        omega
  · exact h
theorem Sm.sz {l : List S44} (h : Sm l) : Sz l := by
  have hB : B1 = 1048576 := rfl
  exact ⟨by have := h.1; omega, fun x hx => by have := h.2 x hx; omega⟩
def Sm9 (l : List S44) : Prop := l.length ≤ 9 ∧ ∀ x, x ∈ l → x.f1.size ≤ 600
theorem Sm9.sz {l : List S44} (h : Sm9 l) : Sz l := by
  have hB : B1 = 1048576 := rfl
  exact ⟨by have := h.1; omega, fun x hx => by have := h.2 x hx; omega⟩
theorem draw_loop (b : List Int) (m : Nat) : ∀ (l : List S44) (i h : Int), St b i → Sm l → m ≤ 100 → ∃ r i' h', Ev (fun k => spec_l10Draw.l0 k l (m : Int) b i h) (r, i', h') ∧ St b i' ∧ Sm9 r := by
  have hB : B1 = 1048576 := rfl
  induction m with
  | zero =>
    intro l i h s hl _
    obtain ⟨c, i1, h1, e1, s1⟩ := once_some h 9 s (by omega) (by omega)
    cases c with
    | true =>
      obtain ⟨v, t, i2, h2, e2, ht, s2⟩ := lp_some h1 s1
      refine ⟨l ++ [⟨v, t⟩], i2, h2, ?_, s2, by have := hl.1; simp; omega, fun x hx => ?_⟩
      · apply Ev.step
        · intro k; rw [spec_l10Draw.l0]
        exact Ev.neg (by omega) (Ev.cbind e1 (Ev.pos rfl (Ev.cbind e2 (Ev.pos (by have := hl.1; omega) (Ev.ret rfl)))))
      · rcases List.mem_append.1 hx with hx | hx
        · exact hl.2 x hx
        · simp only [List.mem_singleton] at hx; subst hx; show t.size ≤ 600; omega
    | false =>
      refine ⟨l, i1, h1, ?_, s1, by have := hl.1; omega, hl.2⟩
      apply Ev.step
      · intro k; rw [spec_l10Draw.l0]
      exact Ev.neg (by omega) (Ev.cbind e1 (Ev.neg (by simp) (Ev.ret rfl)))
  | succ m ih =>
    intro l i h s hl hm
    obtain ⟨v, t, i1, h1, e1, ht, s1⟩ := lp_some h s
    obtain ⟨r, i', h', e, s', hr⟩ := ih (addP l 20 v t).1 i1 h1 s1 (addP_sm hl) (by omega)
    refine ⟨r, i', h', ?_, s', hr⟩
    apply Ev.step
    · intro k; rw [spec_l10Draw.l0]
    refine Ev.pos (by omega) (Ev.cbind e1 (Ev.bind (spec_addP l 20 v t hl.sz (by omega) (by omega)) ?_))
    rw [show wrap64 (((m + 1 : Nat) : Int) - 1) = (m : Int) by rw [wrap64_id (by omega) (by omega)]; omega]
    exact e
theorem l10_some {b : List Int} {i : Int} (h : Int) (s : St b i) : ∃ r i' h', Ev (fun k => spec_l10Draw.f k b i h) (r, i', h') ∧ St b i' ∧ Sm9 r := by
  obtain ⟨v, i1, h1, e1, v0, v1, s1⟩ := below_some h 5 s (by omega) (by omega)
  obtain ⟨r, i', h', e, s', hr⟩ := draw_loop b v.toNat [] i1 h1 s1 ⟨by simp, by simp⟩ (by omega)
  rw [Int.toNat_of_nonneg v0] at e
  exact ⟨r, i', h', Ev.cbind e1 e, s', hr⟩
theorem draw_pieces (b : List Int) (hb : b.length ≤ 140737488355328) : ∃ l n a d, Ev (fun k => spec_DrawAddPiece.f k b) (l, n, a, d) ∧ Sm9 l ∧ d.size ≤ 20 ∧ (n = 20 ∨ n = 15) := by
  obtain ⟨h0, e0, s0⟩ := new_some b hb
  obtain ⟨l, i1, h1, e1, s1, hl⟩ := l10_some h0 s0
  obtain ⟨v, t, i2, h2, e2, ht, s2⟩ := lp_some h1 s1
  obtain ⟨c, i3, h3, e3, _, _, s3⟩ := below_some h2 6 s2 (by omega) (by omega)
  have hn : ∀ n : Int, n ∈ [20, 20, 20, 15] → n = 20 ∨ n = 15 := by intro n hn; simp at hn; omega
  by_cases c0 : c = 0
  · obtain ⟨n, i4, h4, e4, m4, _⟩ := int_some h3 [20, 20, 20, 15] s3 (by simp) (by simp)
    exact ⟨l, n, v, ⟨#[122, 122]⟩, Ev.bind e0 (Ev.bind e1 (Ev.cbind e2 (Ev.cbind e3 (Ev.pos c0 (Ev.cbind e4 (Ev.ret rfl)))))), hl, by decide, hn n m4⟩
  · by_cases c1 : c = 1
    · obtain ⟨o, i5, h5, e5, s5⟩ := odd_some h3 s3
      obtain ⟨n, i4, h4, e4, m4, _⟩ := int_some h5 [20, 20, 20, 15] s5 (by simp) (by simp)
      exact ⟨l, n, o, t, Ev.bind e0 (Ev.bind e1 (Ev.cbind e2 (Ev.cbind e3 (Ev.neg c0 (Ev.pos c1 (Ev.cbind e5 (Ev.cbind e4 (Ev.ret rfl)))))))), hl, ht, hn n m4⟩
    · obtain ⟨n, i4, h4, e4, m4, _⟩ := int_some h3 [20, 20, 20, 15] s3 (by simp) (by simp)
      exact ⟨l, n, v, t, Ev.bind e0 (Ev.bind e1 (Ev.cbind e2 (Ev.cbind e3 (Ev.neg c0 (Ev.neg c1 (Ev.cbind e4 (Ev.ret rfl))))))), hl, ht, hn n m4⟩

/-! reading -/
theorem read_l0 {g : Int → Int} {n : Int} (hn : n ≤ 600) (u v : Int) (huv : u < v) (L : List S26) (hL : SetOk L) (hm : ∀ s, s ∈ L → s.f1 ≤ n) (hlen : L.length ≤ 8) (rest : List S26) : ∀ pre : List S26, pre ++ rest = L → inside rest u v →
    Ev (fun k => impl_ReadPieces.l0 k (L.map (mk g)) ((L.map (mk g)).length : Int) (pre.length : Int) u v) (strOfNums (vals g u (v - u).toNat), true) := by
  induction rest with
  | nil => rintro pre _ ⟨s, hs, _⟩; simp at hs
  | cons x t ih =>
    intro pre hl hi
    have hx : x ∈ L := by rw [← hl]; simp
    obtain ⟨v0, v1, v2⟩ := hL.mem x hx
    have hxn := hm x hx
    have e1 : rd_T44 (L.map (mk g)) (pre.length : Int) = mk g x := by
      rw [← hl, List.map_append, List.map_cons]
      have := rd44_mid (pre.map (mk g)) (mk g x) (t.map (mk g))
      rwa [List.length_map] at this
    have hln : pre.length + (t.length + 1) = L.length := by rw [← hl]; simp
    have hlm : (L.map (mk g)).length = L.length := List.length_map _
    have hsz := mk_size g x
    have hf : (mk g x).f0 = x.f0 := rfl
    apply Ev.step
    · intro k; rw [impl_ReadPieces.l0]
    simp only [e1, hf, hsz]
    rw [show x.f0 + ((x.f1 - x.f0).toNat : Int) = x.f1 by omega, wrap64_id (x := x.f1) (by omega) (by omega)]
    refine Ev.pos (by omega) (Ev.pos (by omega) (Ev.pos (by omega) ?_))
    by_cases c : x.f0 ≤ u ∧ v ≤ x.f1
    · refine Ev.pos c.1 (Ev.pos c.2 ?_)
      rw [wrap64_id (x := u - x.f0) (by omega) (by omega), wrap64_id (x := v - x.f0) (by omega) (by omega)]
      refine Ev.pos (by omega) (Ev.pos (by omega) (Ev.pos (by omega) (Ev.ret ?_)))
      show ((strOfNums (vals g x.f0 _)).extract _ _, true) = _
      rw [ext_vals g x.f0 _ _ _ (by omega) (by omega)]
      congr 3 <;> omega
    · have hi' : inside t u v := by
        obtain ⟨s, hs, h1, h2⟩ := hi
        rcases List.mem_cons.1 hs with rfl | hs
        · exact absurd ⟨h1, h2⟩ c
        · exact ⟨s, hs, h1, h2⟩
      have e := ih (pre ++ [x]) (by simpa using hl) hi'
      rw [← next_len pre x (by omega)] at e
      by_cases c1 : x.f0 ≤ u
      · exact Ev.pos c1 (Ev.neg (fun h => c ⟨c1, h⟩) e)
      · exact Ev.neg c1 e
theorem Is.read {y : List S44} {sp : List S26} {g : Int → Int} {n : Int} (h : Is y sp g n) (u v : Int) (huv : u < v) (hi : inside sp u v) : Ev (fun k => impl_ReadPieces.f k y u v) (strOfNums (vals g u (v - u).toNat), true) := by
  rw [h.eq]
  exact Ev.neg (by omega) (read_l0 h.up u v huv sp h.ok h.hi h.len sp [] rfl hi)
theorem byt_own {n : Int} (hn : n ≤ 600) (l : List S44) : SetOk (spOf l) → (∀ x, x ∈ l → 0 ≤ x.f0 ∧ 0 < x.f1.size ∧ x.f0 + (x.f1.size : Int) ≤ n) → ∀ x, x ∈ l → ∀ p, x.f0 ≤ p → p < x.f0 + (x.f1.size : Int) → byt l p = bt x.f1 (p - x.f0) := by
  induction l with
  | nil => intro _ _ x hx; simp at hx
  | cons y t ih =>
    intro hs hm x hx p h1 h2
    rw [byt]
    rcases List.mem_cons.1 hx with rfl | hx
    · rw [if_pos ⟨h1, h2⟩]
    · rw [if_neg, ih hs.2.2 (fun z hz => hm z (by simp [hz])) x hx p h1 h2]
      rintro ⟨h3, h4⟩
      have := hs.2.1 (spn x) (List.mem_map_of_mem hx)
      rw [spn_val (hm y (by simp)) hn, spn_val (hm x (by simp [hx])) hn] at this
      simp only at this
      omega

/-! the law -/
theorem same_l0 (L : List S44) (hL : L.length ≤ 100) (rest : List S44) : ∀ (pre : List S44), pre ++ rest = L → Ev (fun k => laws_samePieces.l0 k L L (pre.length : Int)) true := by
  induction rest with
  | nil =>
    intro pre hl
    simp only [List.append_nil] at hl
    subst hl
    apply Ev.step
    · intro k; rw [laws_samePieces.l0]
    exact Ev.neg (by omega) (Ev.ret rfl)
  | cons x t ih =>
    intro pre hl
    have e1 : rd_T44 L (pre.length : Int) = x := by rw [← hl]; exact rd44_mid pre x t
    have hlen : pre.length + (t.length + 1) = L.length := by rw [← hl]; simp
    have e := ih (pre ++ [x]) (by simpa using hl)
    rw [← next_len pre x (by omega)] at e
    apply Ev.step
    · intro k; rw [laws_samePieces.l0]
    simp only [e1]
    exact Ev.pos (by omega) (Ev.pos (by omega) (Ev.pos (by omega) (Ev.neg (by simp) e)))
theorem same_ev (L : List S44) (hL : L.length ≤ 100) : Ev (fun k => laws_samePieces.f k L L) true := Ev.pos rfl (same_l0 L hL L [] rfl)
theorem end_j4 {y : List S44} {sp : List S26} {g : Int → Int} {n : Int} (h : Is y sp g n) (hn : 0 < n) : Ev (fun k => laws_FnPieces.j4 k n y false) true := by
  have hB : B1 = 1048576 := rfl
  have hl : y.length ≤ B1 := by have := h.val.len; omega
  have hs := impl_sp y hl
  rw [h.sp] at hs
  have hlen := h.len
  have hz := impl_size sp (by omega) (fun s hs => by obtain ⟨v0, v1, v2⟩ := h.ok.mem s hs; exact ⟨v0, by omega, v2⟩)
  have hw : Ev (fun k => impl_IsWhole.f k y n) (size sp == n) := by
    refine Ev.bind hs (Ev.cbind (a := size sp == n) ?_ (Ev.ret rfl))
    rw [impl_CoversSpan.f, if_neg (by omega), ← whole_iff sp n h.ok h.hi hn]
  apply Ev.step
  · intro k; rw [laws_FnPieces.j4]
  exact Ev.neg (by simp) (Ev.bind hw (Ev.bind hs (Ev.bind hz (Ev.ret (by simp)))))
theorem end_l1 {y : List S44} {sp : List S26} {g : Int → Int} {n a : Int} {d : ByteArray} (h : Is y sp g n) (hg : Byte g) (hn : 0 < n) (x : List S44) (vx : Val x n) (hxg : ∀ z, z ∈ x → ∀ p, z.f0 ≤ p → p < z.f0 + (z.f1.size : Int) → g p = bt z.f1 (p - z.f0))
    (hc : ∀ p, covB sp p ↔ ((a ≤ p ∧ p < a + (d.size : Int)) ∨ ∃ z, z ∈ x ∧ z.f0 ≤ p ∧ p < z.f0 + (z.f1.size : Int))) (rest : List S44) : ∀ (pre z : List S44) (ok : Bool), pre ++ rest = x → Sm z →
    (ok = true → ∃ sz, Is z sz g n ∧ ∀ p, covB sz p ↔ ((a ≤ p ∧ p < a + (d.size : Int)) ∨ ∃ w, w ∈ pre ∧ w.f0 ≤ p ∧ p < w.f0 + (w.f1.size : Int))) →
    Ev (fun k => laws_FnPieces.l1 k x n y z ok (pre.length : Int)) true := by
  have hB : B1 = 1048576 := rfl
  have hl := vx.len
  have hu := h.up
  have hyl := h.val.len
  have hj3f : ∀ z, Ev (fun k => laws_FnPieces.j3 k n y z false) true := by
    intro z
    apply Ev.step
    · intro k; rw [laws_FnPieces.j3]
    exact Ev.neg (by simp) (end_j4 h hn)
  induction rest with
  | nil =>
    intro pre z ok he hz hi
    simp only [List.append_nil] at he
    subst he
    apply Ev.step
    · intro k; rw [laws_FnPieces.l1]
    refine Ev.neg (by omega) ?_
    cases ok with
    | false => exact hj3f z
    | true =>
      obtain ⟨sz, hI, hcv⟩ := hi rfl
      have : z = y := Is.uniq hI h fun p => by rw [hcv p, hc p]
      subst this
      apply Ev.step
      · intro k; rw [laws_FnPieces.j3]
      exact Ev.pos rfl (Ev.bind (same_ev z (by omega)) (end_j4 h hn))
  | cons w t ih =>
    intro pre z ok he hz hi
    have e1 : rd_T44 x (pre.length : Int) = w := by rw [← he]; exact rd44_mid pre w t
    have hlen : pre.length + (t.length + 1) = x.length := by rw [← he]; simp
    have hw := vx.mem w (by rw [← he]; simp)
    apply Ev.step
    · intro k; rw [laws_FnPieces.l1]
    simp only [e1]
    refine Ev.pos (by omega) ?_
    cases ok with
    | false => exact Ev.neg (by simp) (hj3f z)
    | true =>
      obtain ⟨sz, hI, hcv⟩ := hi rfl
      refine Ev.pos rfl (Ev.pos (by omega) (Ev.bind (impl_addP z n w.f0 w.f1 hz.sz (by omega) (by omega)) ?_))
      have e := ih (pre ++ [w]) (addP z n w.f0 w.f1).1 (addP z n w.f0 w.f1).2 (by simpa using he) (addP_sm hz) (fun hok => by
        obtain ⟨sp', hI', hcv'⟩ := hI.step hg w.f0 w.f1 (hxg w (by rw [← he]; simp)) hok
        refine ⟨sp', hI', fun p => ?_⟩
        rw [hcv' p, hcv p, or_assoc]
        refine or_congr Iff.rfl ?_
        constructor
        · rintro (⟨q, hq, h'⟩ | h')
          · exact ⟨q, by simp [hq], h'⟩
          · exact ⟨w, by simp, h'⟩
        · rintro ⟨q, hq, h'⟩
          rcases List.mem_append.1 hq with hq | hq
          · exact .inl ⟨q, hq, h'⟩
          · simp only [List.mem_singleton] at hq; subst hq; exact .inr h')
      rw [← next_len pre w (by omega)] at e
      exact e
theorem law_p0 {y : List S44} {sp : List S26} {g : Int → Int} {n a : Int} {d : ByteArray} (h : Is y sp g n) (hd : d.size ≤ B1) (x : List S44) (vx : Val x n) (hxg : ∀ z, z ∈ x → ∀ p, z.f0 ≤ p → p < z.f0 + (z.f1.size : Int) → g p = bt z.f1 (p - z.f0))
    (hin : ∀ z, z ∈ x → inside sp z.f0 (z.f0 + (z.f1.size : Int)))
    (hfin : Ev (fun k => laws_FnPieces.l1 k x n y (addP [] n a d).1 (addP [] n a d).2 0) true) (rest : List S44) : ∀ pre : List S44, pre ++ rest = x →
    Ev (fun k => laws_FnPieces.l0 k x n y (pre.length : Int) a d) true := by
  have hB : B1 = 1048576 := rfl
  have hl := vx.len
  have hlo := vx.lo
  have hhi := vx.hi
  induction rest with
  | nil =>
    intro pre he
    simp only [List.append_nil] at he
    subst he
    apply Ev.step
    · intro k; rw [laws_FnPieces.l0]
    exact Ev.neg (by omega) (Ev.bind (impl_addP [] n a d ⟨by simp, by simp⟩ hd (by omega)) hfin)
  | cons w t ih =>
    intro pre he
    have hwx : w ∈ x := by rw [← he]; simp
    have e1 : rd_T44 x (pre.length : Int) = w := by rw [← he]; exact rd44_mid pre w t
    have hlen : pre.length + (t.length + 1) = x.length := by rw [← he]; simp
    have hw := vx.mem w hwx
    have e := ih (pre ++ [w]) (by simpa using he)
    rw [← next_len pre w (by omega)] at e
    have hr := h.read w.f0 (w.f0 + (w.f1.size : Int)) (by omega) (hin w hwx)
    rw [show (w.f0 + (w.f1.size : Int) - w.f0).toNat = w.f1.size by omega, vals_own w.f1 w.f0 (hxg w hwx)] at hr
    apply Ev.step
    · intro k; rw [laws_FnPieces.l0]
    simp only [e1]
    rw [wrap64_id (x := w.f0 + (w.f1.size : Int)) (by omega) (by omega)]
    exact Ev.pos (by omega) (Ev.pos (by omega) (Ev.bind hr (Ev.pos rfl (Ev.pos rfl e))))
theorem pieces (b : List Int) (hb : b.length ≤ 140737488355328) : Ev (fun k => laws_FnPieces.f k b) true := by
  have hB : B1 = 1048576 := rfl
  refine Ev.cbind (a := decide ((b.length : Int) > 1048576)) rfl ?_
  by_cases cb : (b.length : Int) > 1048576
  · exact Ev.pos (decide_eq_true cb) (Ev.ret rfl)
  refine Ev.neg (by simpa using cb) ?_
  obtain ⟨x, n, a, d, e, hx, hd, hn⟩ := draw_pieces b hb
  refine Ev.bind e (Ev.bind (impl_addP x n a d hx.sz (by omega) (by omega)) ?_)
  by_cases ok : (addP x n a d).2 = true
  · refine Ev.pos ok ?_
    by_cases c1 : good x n a d = true
    · have c1' := c1
      simp only [good, Bool.and_eq_true, decide_eq_true_eq] at c1'
      obtain ⟨⟨⟨g0, g1⟩, g2⟩, g3⟩ := c1'
      have v := (areP_iff x n (fun z hz => by have := hx.2 z hz; omega)).1 g0
      have hnn : 0 < n := by omega
      have hhi := v.hi
      obtain ⟨f1, f2, f3⟩ := sp_facts v g1 g2 g3
      have hy : addP x n a d = (if anyC x a d a d.size = true then (x, false) else (if 8 < (addX (spOf x) a (a + (d.size : Int))).length then (x, false) else ((addX (spOf x) a (a + (d.size : Int))).map (mk (newB x a d)), true))) := by rw [addP, if_pos c1]
      rw [sp_in v g1 g2 g3] at hy
      rw [hy] at ok
      by_cases c2 : anyC x a d a d.size = true
      · rw [if_pos c2] at ok; cases ok
      rw [if_neg c2] at ok hy
      by_cases c3 : 8 < (addR (spOf x) a (a + (d.size : Int))).length
      · rw [if_pos c3] at ok; cases ok
      rw [if_neg c3] at hy
      have hg := newB_byte x a d
      have hI : Is (addP x n a d).1 (addR (spOf x) a (a + (d.size : Int))) (newB x a d) n := ⟨by rw [hy], f1, fun s hs => (f2 s hs).2.2, by omega, v.lo, v.hi⟩
      have hgd : ∀ p, a ≤ p → p < a + (d.size : Int) → newB x a d p = bt d (p - a) := by
        intro p h1 h2
        rw [newB]
        by_cases c : byt x p < 0
        · rw [if_pos c]
        · rw [if_neg c]
          apply Classical.byContradiction
          intro hne
          exact c2 ((anyC_iff x a d d.size a).2 ⟨p, h1, h2, by simp only [conf, Bool.and_eq_true, decide_eq_true_eq]; exact ⟨by omega, hne⟩⟩)
      have hxg : ∀ z, z ∈ x → ∀ p, z.f0 ≤ p → p < z.f0 + (z.f1.size : Int) → newB x a d p = bt z.f1 (p - z.f0) := by
        intro z hz p h1 h2
        have := byt_own v.hi x v.set v.mem z hz p h1 h2
        have hb := bt_range z.f1 (p - z.f0)
        rw [newB, this, if_neg (by omega)]
      have hin : ∀ z, z ∈ x → inside (addR (spOf x) a (a + (d.size : Int))) z.f0 (z.f0 + (z.f1.size : Int)) := by
        intro z hz
        refine addR_old _ _ _ _ _ ⟨spn z, List.mem_map_of_mem hz, ?_⟩
        rw [spn_val (v.mem z hz) v.hi]
        exact ⟨Int.le_refl _, Int.le_refl _⟩
      have hcov : ∀ p, covB (addR (spOf x) a (a + (d.size : Int))) p ↔ ((a ≤ p ∧ p < a + (d.size : Int)) ∨ ∃ z, z ∈ x ∧ z.f0 ≤ p ∧ p < z.f0 + (z.f1.size : Int)) := by
        intro p
        rw [addR_cov (spOf x) a _ p v.set (by omega), or_comm, ← cov_iff, cov_byt v, byt_cov]
      have hyl : (addP x n a d).1.length ≤ B1 := by have := hI.val.len; omega
      have hr := hI.read a (a + (d.size : Int)) (by omega) (addR_self _ _ _ _ _ (by omega) (by omega))
      rw [show (a + (d.size : Int) - a).toNat = d.size by omega, vals_own d a hgd] at hr
      have hs := impl_sp (addP x n a d).1 hyl
      rw [hI.sp] at hs
      have hz := impl_size (addR (spOf x) a (a + (d.size : Int))) (by have := hI.len; omega) (fun s hs => by obtain ⟨v0, v1, v2⟩ := hI.ok.mem s hs; exact ⟨v0, by omega, v2⟩)
      have hsz := size_le _ 0 n hI.ok (fun s hs => ⟨(hI.ok.mem s hs).1, hI.hi s hs⟩) hI.lo
      have hare := spec_are (addP x n a d).1 n hyl
      rw [(areP_iff _ n (fun z hz => by have := hI.szs z hz; omega)).2 hI.val] at hare
      rw [wrap64_id (x := a + (d.size : Int)) (by omega) (by omega)]
      refine Ev.bind hr (Ev.pos rfl (Ev.pos rfl (Ev.bind hare (Ev.pos rfl (Ev.bind hs (Ev.bind hz ?_))))))
      rw [decide_eq_false (show ¬ size (addR (spOf x) a (a + (d.size : Int))) > n by omega)]
      apply Ev.step
      · intro k; rw [laws_FnPieces.j0]
      refine Ev.neg (by simp) ?_
      have hI0 : Is [] [] (newB x a d) n := ⟨rfl, trivial, by simp, by simp, v.lo, v.hi⟩
      refine law_p0 hI (show d.size ≤ B1 by omega) x v hxg hin ?_ x [] rfl
      refine end_l1 (a := a) (d := d) hI hg hnn x v hxg hcov x [] _ _ rfl (addP_sm ⟨by simp, by simp⟩) (fun hok => ?_)
      obtain ⟨sp', h1, h2⟩ := hI0.step hg a d hgd hok
      refine ⟨sp', h1, fun p => ?_⟩
      rw [h2 p]
      constructor
      · rintro (⟨s, hs, _⟩ | h)
        · simp at hs
        · exact .inl h
      · rintro (h | ⟨s, hs, _⟩)
        · exact .inr h
        · simp at hs
    · rw [addP, if_neg c1] at ok; cases ok
  · refine Ev.neg ok (Ev.ret ?_)
    have : (addP x n a d).1 = x := by
      revert ok
      unfold addP
      split
      · split
        · intro _; rfl
        · split
          · intro _; rfl
          · intro h; exact absurd rfl h
      · intro _; rfl
    rw [this]
    simp
end Go.Proofs.Yteahdfibipalkaa.Pure

namespace Go.Proofs.Yteahdfibipalkaa.Pure
open Go.RowKit Go.Proofs.Yteahdfibipalkaa.G Go.Proofs.YteahdfibipalkaaW.PrintWords Go.Proofs.YteahdfibipalkaaW.PrintLast

theorem FnPieces : laws_FnPieces.Pure := by
  intro l0 _ h _
  obtain ⟨k, hk⟩ := pieces l0 (by omega)
  exact ⟨k, hk k (Nat.le_refl _)⟩

end Go.Proofs.Yteahdfibipalkaa.Pure
