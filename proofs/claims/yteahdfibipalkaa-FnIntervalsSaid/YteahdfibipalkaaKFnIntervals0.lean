/- Texts for: FnIntervals holds for every input, without a condition: a span set has just the bytes that were added, and what is missing is what it does not have. -/
import Derived.Test.YteahdfibipalkaaWWords
import Derived.Test.YteahdfibipalkaaWMore
import Derived.Test.YteahdfibipalkaaProg
import Derived.Below
import Derived.Deep.Draws
import Derived.Deep.AppendLies
import Derived.Maps.AppendAt
import Derived.OwnWalk
import Derived.Laws.BytesArg
import Derived.Laws.MakeOwn
import Derived.Laws.OwnMore
import Derived.Deep.OwnRows
import Derived.Tactics
import Derived.Lib.ConvBytes
import Derived.Laws.Slices
import Derived.WalkKit
import Derived.KernelRfl
import Derived.RowKit3
import Derived.Deep.LoopGhost
import Derived.Deep.QuietTactic
import Derived.BigQuiet
import Derived.WideLaws
import Derived.Deep.DeepCutAuto
import Derived.Deep.CutBlock
import Derived.Deep.RegionHeld3
import Derived.Laws.Rows
import Derived.Lib.AppendStr
import Derived.ArgAppend
import Derived.Laws.IdiomCopy
import Derived.OrdersHeld
import Derived.Laws.BitsLemmas
import Derived.RowKit
import Derived.Shelf.SlicesQ.IndexFunc
import Derived.Lib.SliceRun
import Derived.Test.YteahdfibipalkaaWLast
import Derived.Test.YteahdfibipalkaaWTab
import Derived.Test.YteahdfibipalkaaWFour
import Derived.Test.YteahdfibipalkaaWQPut
import Derived.Test.YteahdfibipalkaaWApart
import Derived.Test.YteahdfibipalkaaWArr
import Derived.Test.YteahdfibipalkaaWZeros
import Derived.Test.YteahdfibipalkaaWFoot
import Derived.Test.YteahdfibipalkaaWKept
import Derived.Test.YteahdfibipalkaaWShare
import Derived.Test.YteahdfibipalkaaWN
import Derived.Test.YteahdfibipalkaaWFootNe
import Derived.Test.YteahdfibipalkaaWAt
import Derived.Test.YteahdfibipalkaaWEqStruct
import Derived.Test.YteahdfibipalkaaWRepsOne
import Derived.Test.YteahdfibipalkaaWInv
import Derived.Test.YteahdfibipalkaaWInvWords
import Derived.Test.YteahdfibipalkaaWGuard
import Derived.Test.YteahdfibipalkaaWNEv

namespace Go.Proofs.Yteahdfibipalkaa.G
open Go.RowKit Go.Proofs.YteahdfibipalkaaW.PrintWords Go.Proofs.YteahdfibipalkaaW.PrintLast Go.Proofs.YteahdfibipalkaaW.PrintMore
set_option linter.unusedVariables false

structure S26 where
  f0 : Int
  f1 : Int

def z26 : S26 := ⟨(0 : Int), (0 : Int)⟩

def rd_T26 (xs : List S26) (i : Int) : S26 := xs.getD i.toNat z26

structure S37 where
  f0 : Int
  f1 : ByteArray

def z37 : S37 := ⟨(0 : Int), (⟨#[]⟩ : ByteArray)⟩

def rd_T37 (xs : List S37) (i : Int) : S37 := xs.getD i.toNat z37

structure S44 where
  f0 : Int
  f1 : ByteArray

def z44 : S44 := ⟨(0 : Int), (⟨#[]⟩ : ByteArray)⟩

def rd_T44 (xs : List S44) (i : Int) : S44 := xs.getD i.toNat z44

def laws_big.f (l0 : List Int) : Option (Bool) := some (decide ((l0.length : Int) > 1048576))

def spec_l1New.l0 : Nat → List Int → Int → Int → Option (List Int × Int × Int)
  | 0, _, _, _ => none
  | k + 1, x0, x3, x4 => if x4 < (x0.length : Int) then (if x4 < 4000 then (if 0 ≤ x4 then (spec_l1New.l0 k x0 (Go.bits .and .i64 (wrap64 ((wrap64 ((wrap64 (x3 * 139)) + (wrap64 (rd x0 x4)))) + 11)) 1073741823) (wrap64 (x4 + 1))) else (none)) else (some (x0, 0, x3))) else (some (x0, 0, x3))

def spec_l1New.f (k : Nat) (l0 : List Int) : Option (List Int × Int × Int) := spec_l1New.l0 k l0 (wrap64 (271091 + (l0.length : Int))) 0

def spec_l1Byte.f (s0_0 : List Int) (s0_1 : Int) (s0_2 : Int) : Option (Int × Int × Int) := if s0_1 < (s0_0.length : Int) then (if 0 ≤ s0_1 then (some (Go.bits .and .i64 (wrap64 ((Go.bits .and .i64 (Go.bits .xor .i64 ((wrap64 ((wrap64 (s0_2 * 6364136223846793005)) + 1442695040888963407)) / 8589934592) ((wrap64 ((wrap64 (s0_2 * 6364136223846793005)) + 1442695040888963407)) / 140737488355328)) 255) + (wrap64 (rd s0_0 s0_1)))) 255, wrap64 (s0_1 + 1), wrap64 ((wrap64 (s0_2 * 6364136223846793005)) + 1442695040888963407))) else (none)) else (some (Go.bits .and .i64 (Go.bits .xor .i64 ((wrap64 ((wrap64 (s0_2 * 6364136223846793005)) + 1442695040888963407)) / 8589934592) ((wrap64 ((wrap64 (s0_2 * 6364136223846793005)) + 1442695040888963407)) / 140737488355328)) 255, s0_1, wrap64 ((wrap64 (s0_2 * 6364136223846793005)) + 1442695040888963407)))

def spec_l1Below.f (s0_0 : List Int) (s0_1 : Int) (s0_2 : Int) (a1 : Int) : Option (Int × Int × Int) := if a1 ≤ 0 then (some (0, s0_1, s0_2)) else (if a1 ≤ 256 then ((spec_l1Byte.f s0_0 s0_1 s0_2).bind fun bt105 => (if a1 = 0 then (none) else (some (Int.tmod bt105.1 a1, bt105.2.1, bt105.2.2)))) else ((spec_l1Byte.f s0_0 s0_1 s0_2).bind fun bt108 => ((spec_l1Byte.f s0_0 bt108.2.1 bt108.2.2).bind fun bt111 => ((spec_l1Byte.f s0_0 bt111.2.1 bt111.2.2).bind fun bt114 => (if a1 = 0 then (none) else (some (Int.tmod (wrap64 ((wrap64 ((wrap64 (bt108.1 * 65536)) + (wrap64 (bt111.1 * 256)))) + bt114.1)) a1, bt114.2.1, bt114.2.2)))))))

def spec_l9Span.f (s0_0 : List Int) (s0_1 : Int) (s0_2 : Int) : Option (Int × Int × Int × Int) := (spec_l1Below.f s0_0 s0_1 s0_2 16).bind fun bt118 => ((spec_l1Below.f s0_0 bt118.2.1 bt118.2.2 6).bind fun bt121 => (some (bt118.1, wrap64 (bt118.1 + bt121.1), bt121.2.1, bt121.2.2)))

def spec_l1Once.f (s0_0 : List Int) (s0_1 : Int) (s0_2 : Int) (a1 : Int) : Option (Bool × Int × Int) := (spec_l1Below.f s0_0 s0_1 s0_2 a1).bind fun bt124 => (some ((bt124.1 == 0), bt124.2.1, bt124.2.2))

def spec_IsSpanSet.l0 : Nat → List (S26) → Int → Option (Bool)
  | 0, _, _ => none
  | k + 1, x0, x3 => if x3 < (x0.length : Int) then (if 0 ≤ x3 then (if ((rd_T26 x0 x3).f0) < 0 then (some false) else (if ((rd_T26 x0 x3).f0) ≥ ((rd_T26 x0 x3).f1) then (some false) else (if ((rd_T26 x0 x3).f1) > 1000000000000 then (some false) else (if x3 > 0 then (if 0 ≤ (wrap64 (x3 - 1)) then (if (wrap64 (x3 - 1)) < (x0.length : Int) then (if ((rd_T26 x0 (wrap64 (x3 - 1))).f1) ≥ ((rd_T26 x0 x3).f0) then (some false) else (spec_IsSpanSet.l0 k x0 (wrap64 (x3 + 1)))) else (none)) else (none)) else (spec_IsSpanSet.l0 k x0 (wrap64 (x3 + 1))))))) else (none)) else (some true)

def spec_IsSpanSet.f (k : Nat) (l0 : List (S26)) : Option (Bool) := spec_IsSpanSet.l0 k l0 0

def spec_Min.f (a0 : Int) (a1 : Int) : Option (Int) := if a1 < a0 then (some a1) else (some a0)

def spec_Max.f (a0 : Int) (a1 : Int) : Option (Int) := if a1 > a0 then (some a1) else (some a0)

mutual
def spec_AddSpan.j0 : Nat → List (S26) → Bool → Int → Int → Option ((List (S26)))
  | 0, _, _, _, _ => none
  | k + 1, x0, x28, x134000, x134001 => if x28 = true then ((some (([] : List (S26)) : List (S26))).bind fun y135 => (if y135.length + x0.length < 8796093022208 then (some (y135 ++ x0)) else (none))) else (spec_AddSpan.l0 k x0 (([] : List (S26))) 0 x134000 x134001)
def spec_AddSpan.l0 : Nat → List (S26) → List (S26) → Int → Int → Int → Option ((List (S26)))
  | 0, _, _, _, _, _ => none
  | k + 1, x0, x5, x6, x134000, x134001 => if x6 < (x0.length : Int) then (if 0 ≤ x6 then (if ((rd_T26 x0 x6).f1) < x134000 then (if x5.length < 8796093022208 then (spec_AddSpan.l0 k x0 (x5 ++ [(⟨(rd_T26 x0 x6).f0, (rd_T26 x0 x6).f1⟩ : S26)]) (wrap64 (x6 + 1)) x134000 x134001) else (none)) else (spec_AddSpan.l0 k x0 x5 (wrap64 (x6 + 1)) x134000 x134001)) else (none)) else (spec_AddSpan.l1 k x0 x5 0 x134000 x134001)
def spec_AddSpan.l1 : Nat → List (S26) → List (S26) → Int → Int → Int → Option ((List (S26)))
  | 0, _, _, _, _, _ => none
  | k + 1, x0, x5, x7, x134000, x134001 => if x7 < (x0.length : Int) then (if 0 ≤ x7 then (if ((rd_T26 x0 x7).f1) ≥ x134000 then (spec_AddSpan.j3 k x0 x5 x7 (decide (((rd_T26 x0 x7).f0) ≤ x134001)) x134000 x134001) else (spec_AddSpan.j3 k x0 x5 x7 false x134000 x134001)) else (none)) else (if x5.length < 8796093022208 then (spec_AddSpan.l2 k x0 (x5 ++ [(⟨x134000, x134001⟩ : S26)]) 0 x134000 x134001) else (none))
def spec_AddSpan.j3 : Nat → List (S26) → List (S26) → Int → Bool → Int → Int → Option ((List (S26)))
  | 0, _, _, _, _, _, _ => none
  | k + 1, x0, x5, x7, x77, x134000, x134001 => if x77 = true then (if 0 ≤ x7 then (if x7 < (x0.length : Int) then ((spec_Min.f x134000 ((rd_T26 x0 x7).f0)).bind fun t152 => ((spec_Max.f x134001 ((rd_T26 x0 x7).f1)).bind fun t154 => (spec_AddSpan.l1 k x0 x5 (wrap64 (x7 + 1)) t152 t154))) else (none)) else (none)) else (spec_AddSpan.l1 k x0 x5 (wrap64 (x7 + 1)) x134000 x134001)
def spec_AddSpan.l2 : Nat → List (S26) → List (S26) → Int → Int → Int → Option ((List (S26)))
  | 0, _, _, _, _, _ => none
  | k + 1, x0, x5, x8, x134000, x134001 => if x8 < (x0.length : Int) then (if 0 ≤ x8 then (if ((rd_T26 x0 x8).f0) > x134001 then (if x5.length < 8796093022208 then (spec_AddSpan.l2 k x0 (x5 ++ [(⟨(rd_T26 x0 x8).f0, (rd_T26 x0 x8).f1⟩ : S26)]) (wrap64 (x8 + 1)) x134000 x134001) else (none)) else (spec_AddSpan.l2 k x0 x5 (wrap64 (x8 + 1)) x134000 x134001)) else (none)) else (some x5)
end

def spec_AddSpan.f (k : Nat) (l0 : List (S26)) (a1_0 : Int) (a1_1 : Int) : Option ((List (S26))) := (spec_IsSpanSet.f k l0).bind fun t134 => (if t134 = true then (if a1_0 < 0 then (spec_AddSpan.j0 k l0 true a1_0 a1_1) else (if a1_0 ≥ a1_1 then (spec_AddSpan.j0 k l0 true a1_0 a1_1) else (spec_AddSpan.j0 k l0 (decide (a1_1 > 1000000000000)) a1_0 a1_1))) else (spec_AddSpan.j0 k l0 true a1_0 a1_1))

def spec_l9Set.l0 : Nat → List (S26) → Int → List Int → Int → Int → Option ((List (S26)) × Int × Int)
  | 0, _, _, _, _, _ => none
  | k + 1, x3, x4, x1000, x1001, x1002 => if x4 > 0 then ((spec_l9Span.f x1000 x1001 x1002).bind fun bt169 => ((spec_AddSpan.f k x3 bt169.1 bt169.2.1).bind fun t173 => (spec_l9Set.l0 k t173 (wrap64 (x4 - 1)) x1000 bt169.2.2.1 bt169.2.2.2))) else ((spec_l1Once.f x1000 x1001 x1002 9).bind fun bt176 => (if bt176.1 = true then ((spec_l9Span.f x1000 bt176.2.1 bt176.2.2).bind fun bt179 => (if x3.length < 8796093022208 then (some ((x3 ++ [(⟨bt179.1, bt179.2.1⟩ : S26)]), bt179.2.2.1, bt179.2.2.2)) else (none))) else (some (x3, bt176.2.1, bt176.2.2))))

def spec_l9Set.f (k : Nat) (s0_0 : List Int) (s0_1 : Int) (s0_2 : Int) : Option ((List (S26)) × Int × Int) := (spec_l1Below.f s0_0 s0_1 s0_2 5).bind fun bt166 => (spec_l9Set.l0 k (([] : List (S26))) bt166.1 s0_0 bt166.2.1 bt166.2.2)

def spec_l1Int.f (s0_0 : List Int) (s0_1 : Int) (s0_2 : Int) (l1 : List Int) : Option (Int × Int × Int) := (spec_l1Below.f s0_0 s0_1 s0_2 (l1.length : Int)).bind fun bt186 => (if 0 ≤ bt186.1 then (if bt186.1 < (l1.length : Int) then (some (rd l1 bt186.1, bt186.2.1, bt186.2.2)) else (none)) else (none))

def spec_l1Odd.f (s0_0 : List Int) (s0_1 : Int) (s0_2 : Int) : Option (Int × Int × Int) := (spec_l1Int.f s0_0 s0_1 s0_2 (([(-1), 0, 1, 2, 255, 256, 65535, 2147483647, 2147483648, 4294967295, 4294967296, (-2147483648), 9223372036854775807, (-9223372036854775808)] : List Int))).bind fun bt193 => (some (bt193.1, bt193.2.1, bt193.2.2))

def spec_DrawAddSpan.f (k : Nat) (l0 : List Int) : Option ((List (S26)) × Int × Int) := (spec_l1New.f k l0).bind fun bt197 => ((spec_l9Set.f k bt197.1 bt197.2.1 bt197.2.2).bind fun bt201 => ((spec_l9Span.f bt197.1 bt201.2.1 bt201.2.2).bind fun bt206 => ((spec_l1Once.f bt197.1 bt206.2.2.1 bt206.2.2.2 9).bind fun bt211 => (if bt211.1 = true then ((spec_l1Odd.f bt197.1 bt211.2.1 bt211.2.2).bind fun bt214 => (some (bt201.1, bt214.1, bt206.2.1))) else (some (bt201.1, bt206.1, bt206.2.1))))))

def impl_IsSpanSet.l0 : Nat → List (S26) → List (S26) → Int → Int → Option (Bool)
  | 0, _, _, _, _ => none
  | k + 1, x0, x5, x6, x7 => if x7 < x6 then (if 0 ≤ x7 then (if x7 < (x5.length : Int) then (if ((rd_T26 x5 x7).f0) < 0 then (some false) else (if ((rd_T26 x5 x7).f0) ≥ ((rd_T26 x5 x7).f1) then (some false) else (if ((rd_T26 x5 x7).f1) > 1000000000000 then (some false) else (if x7 > 0 then (if 0 ≤ (wrap64 (x7 - 1)) then (if (wrap64 (x7 - 1)) < (x0.length : Int) then (if ((rd_T26 x0 (wrap64 (x7 - 1))).f1) ≥ ((rd_T26 x5 x7).f0) then (some false) else (impl_IsSpanSet.l0 k x0 x5 x6 (wrap64 (x7 + 1)))) else (none)) else (none)) else (impl_IsSpanSet.l0 k x0 x5 x6 (wrap64 (x7 + 1))))))) else (none)) else (none)) else (some true)

def impl_IsSpanSet.f (k : Nat) (l0 : List (S26)) : Option (Bool) := impl_IsSpanSet.l0 k l0 l0 (l0.length : Int) 0

def impl_Span_38.f (l0 : List (S26)) : Option ((List (S26))) := (some (([] : List (S26)) : List (S26))).bind fun y220 => (if y220.length + l0.length < 8796093022208 then (some (y220 ++ l0)) else (none))

mutual
def impl_AddSpan.j0 : Nat → List (S26) → Bool → Int → Int → Option ((List (S26)))
  | 0, _, _, _, _ => none
  | k + 1, x0, x26, x227000, x227001 => if x26 = true then ((impl_Span_38.f x0).bind fun t228 => (some t228)) else (impl_AddSpan.l0 k x0 (([] : List (S26))) 0 x227000 x227001)
def impl_AddSpan.j2 : Nat → List (S26) → List (S26) → Int → Int → Int → Option ((List (S26)))
  | 0, _, _, _, _, _ => none
  | k + 1, x0, x5, x6, x227000, x227001 => impl_AddSpan.l1 k x0 x5 x6 x227000 x227001
def impl_AddSpan.l1 : Nat → List (S26) → List (S26) → Int → Int → Int → Option ((List (S26)))
  | 0, _, _, _, _, _ => none
  | k + 1, x0, x5, x6, x227000, x227001 => if x6 < (x0.length : Int) then (if 0 ≤ x6 then (if ((rd_T26 x0 x6).f0) ≤ x227001 then (impl_AddSpan.l1 k x0 x5 (wrap64 (x6 + 1)) (mn x227000 ((rd_T26 x0 x6).f0)) (mx x227001 ((rd_T26 x0 x6).f1))) else (if x5.length < 8796093022208 then ((some (x5 ++ [(⟨x227000, x227001⟩ : S26)] : List (S26))).bind fun y242 => (if x6 ≤ (x0.length : Int) then ((some (x0.drop (x6 : Int).toNat : List (S26))).bind fun y245 => (if y242.length + y245.length < 8796093022208 then (some (y242 ++ y245)) else (none))) else (none))) else (none))) else (none)) else (if x5.length < 8796093022208 then ((some (x5 ++ [(⟨x227000, x227001⟩ : S26)] : List (S26))).bind fun y252 => (if 0 ≤ x6 then (if x6 ≤ (x0.length : Int) then ((some (x0.drop (x6 : Int).toNat : List (S26))).bind fun y255 => (if y252.length + y255.length < 8796093022208 then (some (y252 ++ y255)) else (none))) else (none)) else (none))) else (none))
def impl_AddSpan.l0 : Nat → List (S26) → List (S26) → Int → Int → Int → Option ((List (S26)))
  | 0, _, _, _, _, _ => none
  | k + 1, x0, x5, x6, x227000, x227001 => if x6 < (x0.length : Int) then (if 0 ≤ x6 then (if ((rd_T26 x0 x6).f1) < x227000 then (if x5.length < 8796093022208 then (impl_AddSpan.l0 k x0 (x5 ++ [(⟨(rd_T26 x0 x6).f0, (rd_T26 x0 x6).f1⟩ : S26)]) (wrap64 (x6 + 1)) x227000 x227001) else (none)) else (impl_AddSpan.j2 k x0 x5 x6 x227000 x227001)) else (none)) else (impl_AddSpan.j2 k x0 x5 x6 x227000 x227001)
end

def impl_AddSpan.f (k : Nat) (l0 : List (S26)) (a1_0 : Int) (a1_1 : Int) : Option ((List (S26))) := (impl_IsSpanSet.f k l0).bind fun t227 => (if t227 = true then (if a1_0 ≥ a1_1 then (impl_AddSpan.j0 k l0 true a1_0 a1_1) else (if a1_0 < 0 then (impl_AddSpan.j0 k l0 true a1_0 a1_1) else (impl_AddSpan.j0 k l0 (decide (a1_1 > 1000000000000)) a1_0 a1_1))) else (impl_AddSpan.j0 k l0 true a1_0 a1_1))

def spec_DrawMissingSpans.f (k : Nat) (l0 : List Int) : Option ((List (S26)) × Int × Int) := (spec_l1New.f k l0).bind fun bt263 => ((spec_l9Set.f k bt263.1 bt263.2.1 bt263.2.2).bind fun bt267 => ((spec_l9Span.f bt263.1 bt267.2.1 bt267.2.2).bind fun bt272 => (some (bt267.1, bt272.1, bt272.2.1))))

mutual
def impl_MissingSpans.l1 : Nat → List (S26) → Int → List (S26) → Int → Int → Int → Int → Option ((List (S26)))
  | 0, _, _, _, _, _, _, _ => none
  | k + 1, x5, x6, x15, x16, x17, x277000, x277001 => if x17 < x16 then (if 0 ≤ x17 then (if x17 < (x15.length : Int) then (if ((rd_T26 x15 x17).f1) ≤ x6 then (impl_MissingSpans.j1 k x5 x6 x15 x16 x17 true x277000 x277001 ((rd_T26 x15 x17).f0) ((rd_T26 x15 x17).f1)) else (impl_MissingSpans.j1 k x5 x6 x15 x16 x17 (decide (((rd_T26 x15 x17).f0) ≥ x277001)) x277000 x277001 ((rd_T26 x15 x17).f0) ((rd_T26 x15 x17).f1))) else (none)) else (none)) else (if x6 < x277001 then (if x5.length < 8796093022208 then (some (x5 ++ [(⟨x6, x277001⟩ : S26)])) else (none)) else (some x5))
def impl_MissingSpans.j1 : Nat → List (S26) → Int → List (S26) → Int → Int → Bool → Int → Int → Int → Int → Option ((List (S26)))
  | 0, _, _, _, _, _, _, _, _, _, _ => none
  | k + 1, x5, x6, x15, x16, x17, x31, x277000, x277001, x286000, x286001 => if x31 = true then (impl_MissingSpans.l1 k x5 x6 x15 x16 (wrap64 (x17 + 1)) x277000 x277001) else (if x286000 > x6 then (if x5.length < 8796093022208 then (impl_MissingSpans.l1 k (x5 ++ [(⟨x6, x286000⟩ : S26)]) x286001 x15 x16 (wrap64 (x17 + 1)) x277000 x277001) else (none)) else (impl_MissingSpans.l1 k x5 x286001 x15 x16 (wrap64 (x17 + 1)) x277000 x277001))
def impl_MissingSpans.l0 : Nat → List (S26) → Int → Int → Int → Int → Int → Option ((List (S26)))
  | 0, _, _, _, _, _, _ => none
  | k + 1, x5, x6, x16, x17, x277000, x277001 => if x17 < x16 then (none) else (if x6 < x277001 then (if x5.length < 8796093022208 then (some (x5 ++ [(⟨x6, x277001⟩ : S26)])) else (none)) else (some x5))
end

def impl_MissingSpans.f (k : Nat) (l0 : List (S26)) (a1_0 : Int) (a1_1 : Int) : Option ((List (S26))) := (some (([] : List (S26)) : List (S26))).bind fun y277 => ((impl_IsSpanSet.f k l0).bind fun t280 => (if t280 = true then (impl_MissingSpans.l1 k y277 a1_0 l0 (l0.length : Int) 0 a1_0 a1_1) else (impl_MissingSpans.l0 k y277 a1_0 0 0 a1_0 a1_1)))

def idxI {α : Type} (p : α → Bool) (l : List α) : Int := if l.findIdx p < l.length then (l.findIdx p : Int) else -1

def impl_CoversSpan.f (l0 : List (S26)) (a1_0 : Int) (a1_1 : Int) : Option (Bool) := some (if a1_0 ≥ a1_1 then true else l0.any fun y => decide (y.f0 ≤ a1_0) && decide (a1_1 ≤ y.f1))

def spec_CoversSpan.l0 : Nat → List (S26) → Int → Int → Int → Option (Bool)
  | 0, _, _, _, _ => none
  | k + 1, x0, x5, x293000, x293001 => if x5 < (x0.length : Int) then (if 0 ≤ x5 then (if ((rd_T26 x0 x5).f0) ≤ x293000 then (if x293001 ≤ ((rd_T26 x0 x5).f1) then (some true) else (spec_CoversSpan.l0 k x0 (wrap64 (x5 + 1)) x293000 x293001)) else (spec_CoversSpan.l0 k x0 (wrap64 (x5 + 1)) x293000 x293001)) else (none)) else (some (decide (x293000 ≥ x293001)))

def spec_CoversSpan.f (k : Nat) (l0 : List (S26)) (a1_0 : Int) (a1_1 : Int) : Option (Bool) := spec_CoversSpan.l0 k l0 0 a1_0 a1_1

def spec_DrawUniteSpans.l0 : Nat → List (S26) → Int → List Int → Int → Int → Option ((List (S26)))
  | 0, _, _, _, _, _ => none
  | k + 1, x4, x5, x299000, x299001, x299002 => if x5 > 0 then ((spec_l9Span.f x299000 x299001 x299002).bind fun bt305 => (if x4.length < 8796093022208 then (spec_DrawUniteSpans.l0 k (x4 ++ [(⟨bt305.1, bt305.2.1⟩ : S26)]) (wrap64 (x5 - 1)) x299000 bt305.2.2.1 bt305.2.2.2) else (none))) else (some x4)

def spec_DrawUniteSpans.f (k : Nat) (l0 : List Int) : Option ((List (S26))) := (spec_l1New.f k l0).bind fun bt295 => ((spec_l1Below.f bt295.1 bt295.2.1 bt295.2.2 6).bind fun bt302 => (spec_DrawUniteSpans.l0 k (([] : List (S26))) bt302.1 bt295.1 bt302.2.1 bt302.2.2))

def impl_UniteSpans.l0 : Nat → List (S26) → List (S26) → Int → Int → Option ((List (S26)))
  | 0, _, _, _, _ => none
  | k + 1, x3, x7, x8, x9 => if x9 < x8 then (if 0 ≤ x9 then (if x9 < (x7.length : Int) then ((impl_AddSpan.f k x3 ((rd_T26 x7 x9).f0) ((rd_T26 x7 x9).f1)).bind fun t317 => (impl_UniteSpans.l0 k t317 x7 x8 (wrap64 (x9 + 1)))) else (none)) else (none)) else (some x3)

def impl_UniteSpans.f (k : Nat) (l0 : List (S26)) : Option ((List (S26))) := impl_UniteSpans.l0 k (([] : List (S26))) l0 (l0.length : Int) 0

def impl_SpanSize.l0 : Nat → Int → List (S26) → Int → Int → Option (Int)
  | 0, _, _, _, _ => none
  | k + 1, x3, x6, x7, x8 => if x8 < x7 then (if 0 ≤ x8 then (if x8 < (x6.length : Int) then (impl_SpanSize.l0 k (wrap64 (x3 + (wrap64 (((rd_T26 x6 x8).f1) - ((rd_T26 x6 x8).f0))))) x6 x7 (wrap64 (x8 + 1))) else (none)) else (none)) else (some x3)

def impl_SpanSize.f (k : Nat) (l0 : List (S26)) : Option (Int) := impl_SpanSize.l0 k 0 l0 (l0.length : Int) 0

mutual
def laws_FnIntervals.l0 : Nat → List Int → List (S26) → List (S26) → List (S26) → List (S26) → Bool → Int → Int → Int → Int → Int → Option (Bool)
  | 0, _, _, _, _, _, _, _, _, _, _, _ => none
  | k + 1, x0, x3, x5, x6, x8, x9, x10, x329000, x329001, x338000, x338001 => if x10 < 40 then (if x9 = true then (laws_FnIntervals.j1 k x0 x3 x5 x6 x8 x9 x10 (decide (x329000 ≥ 0)) x329000 x329001 x338000 x338001) else (laws_FnIntervals.j1 k x0 x3 x5 x6 x8 x9 x10 false x329000 x329001 x338000 x338001)) else (laws_FnIntervals.j1 k x0 x3 x5 x6 x8 x9 x10 false x329000 x329001 x338000 x338001)
def laws_FnIntervals.j1 : Nat → List Int → List (S26) → List (S26) → List (S26) → List (S26) → Bool → Int → Bool → Int → Int → Int → Int → Option (Bool)
  | 0, _, _, _, _, _, _, _, _, _, _, _, _ => none
  | k + 1, x0, x3, x5, x6, x8, x9, x10, x44, x329000, x329001, x338000, x338001 => if x44 = true then ((impl_CoversSpan.f x5 x10 (wrap64 (x10 + 1))).bind fun t343 => ((spec_CoversSpan.f k x3 x10 (wrap64 (x10 + 1))).bind fun t344 => (if t344 = true then (laws_FnIntervals.j2 k x0 x3 x5 x6 x8 x9 x10 (t343 != true) x329000 x329001 x338000 x338001 x10 (wrap64 (x10 + 1))) else (if x329000 ≤ x10 then (if x10 < x329001 then (laws_FnIntervals.j2 k x0 x3 x5 x6 x8 x9 x10 (t343 != (decide (x329001 ≤ 1000000000000))) x329000 x329001 x338000 x338001 x10 (wrap64 (x10 + 1))) else (laws_FnIntervals.j2 k x0 x3 x5 x6 x8 x9 x10 (t343 != false) x329000 x329001 x338000 x338001 x10 (wrap64 (x10 + 1)))) else (laws_FnIntervals.j2 k x0 x3 x5 x6 x8 x9 x10 (t343 != false) x329000 x329001 x338000 x338001 x10 (wrap64 (x10 + 1))))))) else ((spec_DrawUniteSpans.f k x0).bind fun t348 => ((impl_UniteSpans.f k t348).bind fun t351 => (laws_FnIntervals.l1 k x5 x9 t348 t351 0)))
def laws_FnIntervals.j2 : Nat → List Int → List (S26) → List (S26) → List (S26) → List (S26) → Bool → Int → Bool → Int → Int → Int → Int → Int → Int → Option (Bool)
  | 0, _, _, _, _, _, _, _, _, _, _, _, _, _, _ => none
  | k + 1, x0, x3, x5, x6, x8, x9, x10, x74, x329000, x329001, x338000, x338001, x343000, x343001 => if x74 = true then (some false) else ((spec_IsSpanSet.f k x6).bind fun t345 => (if t345 = true then ((spec_CoversSpan.f k x8 x343000 x343001).bind fun t346 => (if x338000 ≤ x10 then (if x10 < x338001 then ((spec_CoversSpan.f k x6 x343000 x343001).bind fun t347 => (if (t346 != (!t347)) = true then (some false) else (laws_FnIntervals.l0 k x0 x3 x5 x6 x8 x9 (wrap64 (x10 + 1)) x329000 x329001 x338000 x338001))) else (if (t346 != false) = true then (some false) else (laws_FnIntervals.l0 k x0 x3 x5 x6 x8 x9 (wrap64 (x10 + 1)) x329000 x329001 x338000 x338001))) else (if (t346 != false) = true then (some false) else (laws_FnIntervals.l0 k x0 x3 x5 x6 x8 x9 (wrap64 (x10 + 1)) x329000 x329001 x338000 x338001)))) else (laws_FnIntervals.l0 k x0 x3 x5 x6 x8 x9 (wrap64 (x10 + 1)) x329000 x329001 x338000 x338001)))
def laws_FnIntervals.l1 : Nat → List (S26) → Bool → List (S26) → List (S26) → Int → Option (Bool)
  | 0, _, _, _, _, _ => none
  | k + 1, x5, x9, x12, x13, x14 => if x14 < (x12.length : Int) then (if 0 ≤ x14 then (if ((rd_T26 x12 x14).f0) ≥ 0 then ((impl_CoversSpan.f x13 ((rd_T26 x12 x14).f0) ((rd_T26 x12 x14).f1)).bind fun t356 => (if t356 = true then (laws_FnIntervals.l1 k x5 x9 x12 x13 (wrap64 (x14 + 1))) else (some false))) else (laws_FnIntervals.l1 k x5 x9 x12 x13 (wrap64 (x14 + 1)))) else (none)) else (if x9 = true then ((impl_IsSpanSet.f k x5).bind fun t357 => (if t357 = true then ((impl_IsSpanSet.f k x13).bind fun t358 => (if t358 = true then ((spec_IsSpanSet.f k x13).bind fun t359 => (if t359 = true then ((impl_SpanSize.f k x13).bind fun t360 => ((impl_SpanSize.f k x12).bind fun t361 => (some (decide (t360 ≤ t361))))) else (some false))) else (some false))) else (some false))) else ((impl_IsSpanSet.f k x13).bind fun t362 => (if t362 = true then ((spec_IsSpanSet.f k x13).bind fun t363 => (if t363 = true then ((impl_SpanSize.f k x13).bind fun t364 => ((impl_SpanSize.f k x12).bind fun t365 => (some (decide (t364 ≤ t365))))) else (some false))) else (some false))))
end

def laws_FnIntervals.f (k : Nat) (l0 : List Int) : Option (Bool) := (laws_big.f l0).bind fun t322 => (if t322 = true then (some true) else ((spec_DrawAddSpan.f k l0).bind fun bt323 => ((impl_AddSpan.f k bt323.1 bt323.2.1 bt323.2.2).bind fun t329 => ((spec_DrawMissingSpans.f k l0).bind fun bt332 => ((impl_MissingSpans.f k bt332.1 bt332.2.1 bt332.2.2).bind fun t338 => ((spec_IsSpanSet.f k bt323.1).bind fun t341 => (laws_FnIntervals.l0 k l0 bt323.1 t329 bt332.1 t338 t341 0 bt323.2.1 bt323.2.2 bt332.2.1 bt332.2.2)))))))

def laws_szPiece.f (a0_0 : Int) (a0_1 : ByteArray) (a1 : Int) : Option (Int) := if (wrap64 (a1 - (a0_1.size : Int))) < 0 then (some (-1)) else (some (wrap64 (a1 - (a0_1.size : Int))))

def laws_szPieceS.l0 : Nat → List (S37) → Int → Int → Option (Int)
  | 0, _, _, _ => none
  | k + 1, x0, x1, x5 => if x5 < (x0.length : Int) then (if 0 ≤ x5 then ((laws_szPiece.f ((rd_T37 x0 x5).f0) ((rd_T37 x0 x5).f1) x1).bind fun t368 => (if t368 < 0 then (some (-1)) else (laws_szPieceS.l0 k x0 t368 (wrap64 (x5 + 1))))) else (none)) else (some x1)

def laws_szPieceS.f (k : Nat) (l0 : List (S37)) (a1 : Int) : Option (Int) := if (wrap64 (a1 - (l0.length : Int))) < 0 then (some (-1)) else (laws_szPieceS.l0 k l0 (wrap64 (a1 - (l0.length : Int))) 0)

def spec_SpansOf.l0 : Nat → List (S44) → List (S26) → Int → Option ((List (S26)))
  | 0, _, _, _ => none
  | k + 1, x0, x3, x4 => if x4 < (x0.length : Int) then (if 0 ≤ x4 then (if x3.length < 8796093022208 then (spec_SpansOf.l0 k x0 (x3 ++ [(⟨(rd_T44 x0 x4).f0, wrap64 (((rd_T44 x0 x4).f0) + (((rd_T44 x0 x4).f1).size : Int))⟩ : S26)]) (wrap64 (x4 + 1))) else (none)) else (none)) else (some x3)

def spec_SpansOf.f (k : Nat) (l0 : List (S44)) : Option ((List (S26))) := spec_SpansOf.l0 k l0 (([] : List (S26))) 0

def spec_l1In.f (a0 : Int) (a1 : Int) (a2 : Int) : Option (Bool) := if a0 ≥ a1 then (some (decide (a0 ≤ a2))) else (some false)

def spec_ArePieces.f (k : Nat) (l0 : List (S44)) (a1 : Int) : Option (Bool) := (spec_SpansOf.f k l0).bind fun t378 => ((spec_l1In.f a1 0 600).bind fun t381 => (if t381 = true then (if (l0.length : Int) ≤ 8 then ((spec_IsSpanSet.f k t378).bind fun t382 => (if t382 = true then (if (t378.length : Int) = 0 then (some true) else (if 0 ≤ (wrap64 ((t378.length : Int) - 1)) then (if (wrap64 ((t378.length : Int) - 1)) < (t378.length : Int) then (some (decide (((rd_T26 t378 (wrap64 ((t378.length : Int) - 1))).f1) ≤ a1))) else (none)) else (none))) else (some false))) else (some false)) else (some false)))

def spec_l10Byte.l0 : Nat → List (S44) → Int → Int → Option (Int)
  | 0, _, _, _ => none
  | k + 1, x0, x1, x5 => if x5 < (x0.length : Int) then (if 0 ≤ x5 then (if ((rd_T44 x0 x5).f0) ≤ x1 then (if x1 < (wrap64 (((rd_T44 x0 x5).f0) + (((rd_T44 x0 x5).f1).size : Int))) then (if 0 ≤ (wrap64 (x1 - ((rd_T44 x0 x5).f0))) then (if (wrap64 (x1 - ((rd_T44 x0 x5).f0))) < (((rd_T44 x0 x5).f1).size : Int) then (some (wrap64 (bt ((rd_T44 x0 x5).f1) (wrap64 (x1 - ((rd_T44 x0 x5).f0)))))) else (none)) else (none)) else (spec_l10Byte.l0 k x0 x1 (wrap64 (x5 + 1)))) else (spec_l10Byte.l0 k x0 x1 (wrap64 (x5 + 1)))) else (none)) else (some (-1))

def spec_l10Byte.f (k : Nat) (l0 : List (S44)) (a1 : Int) : Option (Int) := spec_l10Byte.l0 k l0 a1 0

mutual
def spec_AddPiece.j0 : Nat → List (S44) → List (S44) → Int → Bool → Int → ByteArray → Option ((List (S44)) × Bool)
  | 0, _, _, _, _, _, _ => none
  | k + 1, x0, x8, x9, x58, x390000, x390001 => if x58 = true then (some (x8, false)) else (spec_AddPiece.l0 k x0 x8 x9 x390000 x390000 x390001)
def spec_AddPiece.l0 : Nat → List (S44) → List (S44) → Int → Int → Int → ByteArray → Option ((List (S44)) × Bool)
  | 0, _, _, _, _, _, _ => none
  | k + 1, x0, x8, x9, x10, x390000, x390001 => if x10 < x9 then ((spec_l10Byte.f k x0 x10).bind fun t397 => (if t397 ≥ 0 then (if 0 ≤ (wrap64 (x10 - x390000)) then (if (wrap64 (x10 - x390000)) < (x390001.size : Int) then (if t397 = (wrap64 (bt x390001 (wrap64 (x10 - x390000)))) then (spec_AddPiece.l0 k x0 x8 x9 (wrap64 (x10 + 1)) x390000 x390001) else (some (x8, false))) else (none)) else (none)) else (spec_AddPiece.l0 k x0 x8 x9 (wrap64 (x10 + 1)) x390000 x390001))) else ((spec_SpansOf.f k x0).bind fun t398 => ((spec_AddSpan.f k t398 x390000 x9).bind fun t401 => (if (t401.length : Int) > 8 then (some (x8, false)) else (spec_AddPiece.l1 k x0 t401 (([] : List (S44))) 0 x390000 x390001))))
def spec_AddPiece.l1 : Nat → List (S44) → List (S26) → List (S44) → Int → Int → ByteArray → Option ((List (S44)) × Bool)
  | 0, _, _, _, _, _, _ => none
  | k + 1, x0, x12, x13, x14, x390000, x390001 => if x14 < (x12.length : Int) then (if 0 ≤ x14 then (spec_AddPiece.l2 k x0 x12 x13 x14 (([] : List Int)) ((rd_T26 x12 x14).f0) x390000 x390001) else (none)) else (some (x13, true))
def spec_AddPiece.l2 : Nat → List (S44) → List (S26) → List (S44) → Int → List Int → Int → Int → ByteArray → Option ((List (S44)) × Bool)
  | 0, _, _, _, _, _, _, _, _ => none
  | k + 1, x0, x12, x13, x14, x15, x16, x390000, x390001 => if 0 ≤ x14 then (if x14 < (x12.length : Int) then (if x16 < ((rd_T26 x12 x14).f1) then ((spec_l10Byte.f k x0 x16).bind fun t412 => (if t412 < 0 then (if 0 ≤ (wrap64 (x16 - x390000)) then (if (wrap64 (x16 - x390000)) < (x390001.size : Int) then (if x15.length < 140737488355328 then (spec_AddPiece.l2 k x0 x12 x13 x14 (x15 ++ [(wrap64 (bt x390001 (wrap64 (x16 - x390000)))) % 256]) (wrap64 (x16 + 1)) x390000 x390001) else (none)) else (none)) else (none)) else (if x15.length < 140737488355328 then (spec_AddPiece.l2 k x0 x12 x13 x14 (x15 ++ [(t412) % 256]) (wrap64 (x16 + 1)) x390000 x390001) else (none)))) else (if x13.length < 5864062014805 then (spec_AddPiece.l1 k x0 x12 (x13 ++ [(⟨(rd_T26 x12 x14).f0, strOfNums x15⟩ : S44)]) (wrap64 (x14 + 1)) x390000 x390001) else (none))) else (none)) else (none)
end

def spec_AddPiece.f (k : Nat) (l0 : List (S44)) (a1 : Int) (a2_0 : Int) (a2_1 : ByteArray) : Option ((List (S44)) × Bool) := (some (([] : List (S44)) : List (S44))).bind fun y390 => (if y390.length + l0.length < 5864062014805 then ((some (y390 ++ l0 : List (S44))).bind fun y393 => ((spec_ArePieces.f k l0 a1).bind fun t396 => (if t396 = true then (if a2_0 < 0 then (spec_AddPiece.j0 k l0 y393 (wrap64 (a2_0 + (a2_1.size : Int))) true a2_0 a2_1) else (if (a2_1.size : Int) = 0 then (spec_AddPiece.j0 k l0 y393 (wrap64 (a2_0 + (a2_1.size : Int))) true a2_0 a2_1) else (if (a2_1.size : Int) > a1 then (spec_AddPiece.j0 k l0 y393 (wrap64 (a2_0 + (a2_1.size : Int))) true a2_0 a2_1) else (spec_AddPiece.j0 k l0 y393 (wrap64 (a2_0 + (a2_1.size : Int))) (decide (a2_0 > (wrap64 (a1 - (a2_1.size : Int))))) a2_0 a2_1)))) else (spec_AddPiece.j0 k l0 y393 (wrap64 (a2_0 + (a2_1.size : Int))) true a2_0 a2_1)))) else (none))

def laws_toPiece.f (a0_0 : Int) (a0_1 : ByteArray) : Option (Int × ByteArray) := some (a0_0, a0_1)

def laws_toPieceS.l0 : Nat → List (S37) → List (S44) → Int → Option ((List (S44)))
  | 0, _, _, _ => none
  | k + 1, x0, x3, x4 => if x4 < (x0.length : Int) then (if 0 ≤ x4 then ((laws_toPiece.f ((rd_T37 x0 x4).f0) ((rd_T37 x0 x4).f1)).bind fun bt430 => (if x4 < (x3.length : Int) then (laws_toPieceS.l0 k x0 (x3.set (x4 : Int).toNat (⟨bt430.1, bt430.2⟩ : S44)) (wrap64 (x4 + 1))) else (none))) else (none)) else (some x3)

def laws_toPieceS.f (k : Nat) (l0 : List (S37)) : Option ((List (S44))) := if 0 ≤ (l0.length : Int) then (if ((l0.length : Int) : Int).toNat ≤ 11728124029610 then (laws_toPieceS.l0 k l0 (List.replicate ((l0.length : Int) : Int).toNat z44) 0) else (none)) else (none)

def impl_SpansOf.l0 : Nat → List (S26) → List (S44) → Int → Int → Option ((List (S26)))
  | 0, _, _, _, _ => none
  | k + 1, x3, x7, x8, x9 => if x9 < x8 then (if 0 ≤ x9 then (if x9 < (x7.length : Int) then (if x3.length < 8796093022208 then (impl_SpansOf.l0 k (x3 ++ [(⟨(rd_T44 x7 x9).f0, wrap64 (((rd_T44 x7 x9).f0) + (((rd_T44 x7 x9).f1).size : Int))⟩ : S26)]) x7 x8 (wrap64 (x9 + 1))) else (none)) else (none)) else (none)) else (some x3)

def impl_SpansOf.f (k : Nat) (l0 : List (S44)) : Option ((List (S26))) := impl_SpansOf.l0 k (([] : List (S26))) l0 (l0.length : Int) 0

def impl_inRange.f (a0 : Int) (a1 : Int) (a2 : Int) : Option (Bool) := if a1 ≤ a0 then (some (decide (a0 ≤ a2))) else (some false)

def impl_ArePieces.f (k : Nat) (l0 : List (S44)) (a1 : Int) : Option (Bool) := (impl_SpansOf.f k l0).bind fun t441 => ((impl_inRange.f a1 0 600).bind fun t444 => (if t444 = true then (if (l0.length : Int) > 8 then (some false) else ((impl_IsSpanSet.f k t441).bind fun t445 => (if t445 = true then (if (t441.length : Int) = 0 then (some true) else (if 0 ≤ (wrap64 ((t441.length : Int) - 1)) then (if (wrap64 ((t441.length : Int) - 1)) < (t441.length : Int) then (some (decide (((rd_T26 t441 (wrap64 ((t441.length : Int) - 1))).f1) ≤ a1))) else (none)) else (none))) else (some false)))) else (some false)))

def impl_Piece.f (l0 : List (S44)) : Option ((List (S44))) := (some (([] : List (S44)) : List (S44))).bind fun y447 => (if y447.length + l0.length < 5864062014805 then (some (y447 ++ l0)) else (none))

def laws_eqPiece.f (a0_0 : Int) (a0_1 : ByteArray) (a1_0 : Int) (a1_1 : ByteArray) : Option (Bool) := if a0_0 = a1_0 then (if a0_1.toList = a1_1.toList then (some true) else (some false)) else (some false)

def laws_eqPieceS.l0 : Nat → List (S44) → List (S44) → Int → Option (Bool)
  | 0, _, _, _ => none
  | k + 1, x0, x1, x5 => if x5 < (x0.length : Int) then (if 0 ≤ x5 then (if x5 < (x1.length : Int) then ((laws_eqPiece.f ((rd_T44 x0 x5).f0) ((rd_T44 x0 x5).f1) ((rd_T44 x1 x5).f0) ((rd_T44 x1 x5).f1)).bind fun t471 => (if t471 = true then (laws_eqPieceS.l0 k x0 x1 (wrap64 (x5 + 1))) else (some false))) else (none)) else (none)) else (some true)

def laws_eqPieceS.f (k : Nat) (l0 : List (S44)) (l1 : List (S44)) : Option (Bool) := if (l0.length : Int) = (l1.length : Int) then (laws_eqPieceS.l0 k l0 l1 0) else (some false)

def laws_markText.l0 : Nat → Int → ByteArray → Option (ByteArray)
  | 0, _, _ => none
  | k + 1, x0, x3 => if x0 > 0 then ((some (([(wrap64 (48 + (Int.tmod x0 10))) % 256] : List Int) : List Int)).bind fun y472 => (if (strOfNums y472).size + x3.size ≤ 9223372036854775807 then (laws_markText.l0 k (wrap64 (Int.tdiv x0 10)) ((strOfNums y472) ++ x3)) else (none))) else (if 1 + x3.size ≤ 9223372036854775807 then (some ((⟨#[109]⟩ : ByteArray) ++ x3)) else (none))

def laws_markText.f (k : Nat) (a0 : Int) : Option (ByteArray) := if a0 ≤ 0 then (some (⟨#[109, 48]⟩ : ByteArray)) else (laws_markText.l0 k a0 (⟨#[]⟩ : ByteArray))

def laws_markPieceS.l0 : Nat → List (S44) → Int → Int → Option (Int × (List (S44)))
  | 0, _, _, _ => none
  | k + 1, x0, x1, x5 => if x5 < (x0.length : Int) then (if 0 ≤ x5 then ((some (x0.set (x5 : Int).toNat (⟨x1, (rd_T44 x0 x5).f1⟩ : S44) : List (S44))).bind fun y475 => ((laws_markText.f k (wrap64 (x1 + 1))).bind fun t476 => (laws_markPieceS.l0 k (y475.set (x5 : Int).toNat (⟨(rd_T44 y475 x5).f0, t476⟩ : S44)) (wrap64 ((wrap64 (x1 + 1)) + 1)) (wrap64 (x5 + 1))))) else (none)) else (some (x1, x0))

def laws_markPieceS.f (k : Nat) (l0 : List (S44)) (a1 : Int) : Option (Int × (List (S44))) := laws_markPieceS.l0 k l0 a1 0

def laws_heldPieceS.l0 : Nat → List (S44) → Int → Int → Option (Int)
  | 0, _, _, _ => none
  | k + 1, x0, x1, x5 => if x5 < (x0.length : Int) then (if 0 ≤ x5 then (if ((rd_T44 x0 x5).f0) = x1 then ((laws_markText.f k (wrap64 (x1 + 1))).bind fun t480 => (if ((rd_T44 x0 x5).f1).toList = t480.toList then (laws_heldPieceS.l0 k x0 (wrap64 ((wrap64 (x1 + 1)) + 1)) (wrap64 (x5 + 1))) else (some (-1)))) else (some (-1))) else (none)) else (some x1)

def laws_heldPieceS.f (k : Nat) (l0 : List (S44)) (a1 : Int) : Option (Int) := laws_heldPieceS.l0 k l0 a1 0

def spec_l10Piece.f (s0_0 : List Int) (s0_1 : Int) (s0_2 : Int) : Option (Int × ByteArray × Int × Int) := (spec_l1Below.f s0_0 s0_1 s0_2 20).bind fun bt499 => ((spec_l1Below.f s0_0 bt499.2.1 bt499.2.2 7).bind fun bt502 => ((spec_Min.f 20 (wrap64 ((wrap64 (bt499.1 + 1)) + bt502.1))).bind fun t505 => (if 0 ≤ bt499.1 then (if bt499.1 ≤ t505 then (if t505 ≤ 20 then (some (bt499.1, (⟨#[84, 104, 101, 32, 113, 117, 105, 99, 107, 32, 98, 114, 111, 119, 110, 32, 102, 111, 120, 46]⟩ : ByteArray).extract (bt499.1 : Int).toNat (t505 : Int).toNat, bt502.2.1, bt502.2.2)) else (none)) else (none)) else (none))))

def spec_l10Draw.l0 : Nat → List (S44) → Int → List Int → Int → Int → Option ((List (S44)) × Int × Int)
  | 0, _, _, _, _, _ => none
  | k + 1, x3, x4, x1000, x1001, x1002 => if x4 > 0 then ((spec_l10Piece.f x1000 x1001 x1002).bind fun bt512 => ((spec_AddPiece.f k x3 20 bt512.1 bt512.2.1).bind fun bt516 => (spec_l10Draw.l0 k bt516.1 (wrap64 (x4 - 1)) x1000 bt512.2.2.1 bt512.2.2.2))) else ((spec_l1Once.f x1000 x1001 x1002 9).bind fun bt520 => (if bt520.1 = true then ((spec_l10Piece.f x1000 bt520.2.1 bt520.2.2).bind fun bt523 => (if x3.length < 5864062014805 then (some ((x3 ++ [(⟨bt523.1, bt523.2.1⟩ : S44)]), bt523.2.2.1, bt523.2.2.2)) else (none))) else (some (x3, bt520.2.1, bt520.2.2))))

def spec_l10Draw.f (k : Nat) (s0_0 : List Int) (s0_1 : Int) (s0_2 : Int) : Option ((List (S44)) × Int × Int) := (spec_l1Below.f s0_0 s0_1 s0_2 5).bind fun bt509 => (spec_l10Draw.l0 k (([] : List (S44))) bt509.1 s0_0 bt509.2.1 bt509.2.2)

def spec_DrawAddPiece.f (k : Nat) (l0 : List Int) : Option ((List (S44)) × Int × Int × ByteArray) := (spec_l1New.f k l0).bind fun bt531 => ((spec_l10Draw.f k bt531.1 bt531.2.1 bt531.2.2).bind fun bt535 => ((spec_l10Piece.f bt531.1 bt535.2.1 bt535.2.2).bind fun bt540 => ((spec_l1Below.f bt531.1 bt540.2.2.1 bt540.2.2.2 6).bind fun bt545 => (if bt545.1 = 0 then ((spec_l1Int.f bt531.1 bt545.2.1 bt545.2.2 (([20, 20, 20, 15] : List Int))).bind fun bt551 => (some (bt535.1, bt551.1, bt540.1, (⟨#[122, 122]⟩ : ByteArray)))) else (if bt545.1 = 1 then ((spec_l1Odd.f bt531.1 bt545.2.1 bt545.2.2).bind fun bt554 => ((spec_l1Int.f bt531.1 bt554.2.1 bt554.2.2 (([20, 20, 20, 15] : List Int))).bind fun bt560 => (some (bt535.1, bt560.1, bt554.1, bt540.2.1)))) else ((spec_l1Int.f bt531.1 bt545.2.1 bt545.2.2 (([20, 20, 20, 15] : List Int))).bind fun bt566 => (some (bt535.1, bt566.1, bt540.1, bt540.2.1))))))))

def impl_ReadPieces.l0 : Nat → List (S44) → Int → Int → Int → Int → Option (ByteArray × Bool)
  | 0, _, _, _, _, _ => none
  | k + 1, x13, x14, x15, x570000, x570001 => if x15 < x14 then (if 0 ≤ x15 then (if x15 < (x13.length : Int) then (if ((rd_T44 x13 x15).f0) ≤ x570000 then (if x570001 ≤ (wrap64 (((rd_T44 x13 x15).f0) + (((rd_T44 x13 x15).f1).size : Int))) then (if 0 ≤ (wrap64 (x570000 - ((rd_T44 x13 x15).f0))) then (if (wrap64 (x570000 - ((rd_T44 x13 x15).f0))) ≤ (wrap64 (x570001 - ((rd_T44 x13 x15).f0))) then (if (wrap64 (x570001 - ((rd_T44 x13 x15).f0))) ≤ (((rd_T44 x13 x15).f1).size : Int) then (some (((rd_T44 x13 x15).f1).extract ((wrap64 (x570000 - ((rd_T44 x13 x15).f0))) : Int).toNat ((wrap64 (x570001 - ((rd_T44 x13 x15).f0))) : Int).toNat, true)) else (none)) else (none)) else (none)) else (impl_ReadPieces.l0 k x13 x14 (wrap64 (x15 + 1)) x570000 x570001)) else (impl_ReadPieces.l0 k x13 x14 (wrap64 (x15 + 1)) x570000 x570001)) else (none)) else (none)) else (some ((⟨#[]⟩ : ByteArray), false))

def impl_ReadPieces.f (k : Nat) (l0 : List (S44)) (a1_0 : Int) (a1_1 : Int) : Option (ByteArray × Bool) := if a1_0 ≥ a1_1 then (some ((⟨#[]⟩ : ByteArray), true)) else (impl_ReadPieces.l0 k l0 (l0.length : Int) 0 a1_0 a1_1)

def laws_samePieces.l0 : Nat → List (S44) → List (S44) → Int → Option (Bool)
  | 0, _, _, _ => none
  | k + 1, x0, x1, x5 => if x5 < (x0.length : Int) then (if 0 ≤ x5 then (if x5 < (x1.length : Int) then (if (!(((rd_T44 x0 x5).f0) == ((rd_T44 x1 x5).f0)) || (!((((rd_T44 x0 x5).f1).toList) == (((rd_T44 x1 x5).f1).toList)))) = true then (some false) else (laws_samePieces.l0 k x0 x1 (wrap64 (x5 + 1)))) else (none)) else (none)) else (some true)

def laws_samePieces.f (k : Nat) (l0 : List (S44)) (l1 : List (S44)) : Option (Bool) := if (l0.length : Int) = (l1.length : Int) then (laws_samePieces.l0 k l0 l1 0) else (some false)

def impl_IsWhole.f (k : Nat) (l0 : List (S44)) (a1 : Int) : Option (Bool) := (impl_SpansOf.f k l0).bind fun t574 => ((impl_CoversSpan.f t574 0 a1).bind fun t577 => (some t577))

end Go.Proofs.Yteahdfibipalkaa.G

namespace Go.Proofs.Yteahdfibipalkaa.G
open Go.RowKit Go.Proofs.YteahdfibipalkaaW.PrintWords Go.Proofs.YteahdfibipalkaaW.PrintLast Go.Proofs.YteahdfibipalkaaW.PrintMore
attribute [local go_sem] max2_int min2_int max_two min_two max_three min_three max_four min_four   -- for this text's walks alone
set_option linter.unusedVariables false
set_option linter.unusedSimpArgs false



def errW : Option Int → Value
 | none => .nilIface
 | some c => .iface 0 (.int .i64 c)
theorem errW_none : errW none = .nilIface := rfl
theorem errW_some (c : Int) : errW (some c) = .iface 0 (.int .i64 c) := rfl

theorem zB { a b : Prop} (x : a) (h : a → b := by intro  z_; repeat (first | (with_reducible first | exact z_ | apply below_alloc | apply pw_below_drewN | apply below_drew1) | exact z_)) : b := h  x
theorem zB1 {s0 a b : Prop} (y0_ : s0) (x : a) (h : s0 → a → b := by intro y0_ z_; repeat (first | (with_reducible first | exact z_ | apply below_alloc | apply pw_below_drewN | apply below_drew1 | refine below_set ?_ y0_) | exact z_)) : b := h y0_ x
theorem zB2 {s0 s1 a b : Prop} (y0_ : s0) (y1_ : s1) (x : a) (h : s0 → s1 → a → b := by intro y0_ y1_ z_; repeat (first | (with_reducible first | exact z_ | apply below_alloc | apply pw_below_drewN | apply below_drew1 | refine below_set ?_ y0_ | refine below_set ?_ y1_) | exact z_)) : b := h y0_ y1_ x
theorem zB3 {s0 s1 s2 a b : Prop} (y0_ : s0) (y1_ : s1) (y2_ : s2) (x : a) (h : s0 → s1 → s2 → a → b := by intro y0_ y1_ y2_ z_; repeat (first | (with_reducible first | exact z_ | apply below_alloc | apply pw_below_drewN | apply below_drew1 | refine below_set ?_ y0_ | refine below_set ?_ y1_ | refine below_set ?_ y2_) | exact z_)) : b := h y0_ y1_ y2_ x
theorem zB4 {s0 s1 s2 s3 a b : Prop} (y0_ : s0) (y1_ : s1) (y2_ : s2) (y3_ : s3) (x : a) (h : s0 → s1 → s2 → s3 → a → b := by intro y0_ y1_ y2_ y3_ z_; repeat (first | (with_reducible first | exact z_ | apply below_alloc | apply pw_below_drewN | apply below_drew1 | refine below_set ?_ y0_ | refine below_set ?_ y1_ | refine below_set ?_ y2_ | refine below_set ?_ y3_) | exact z_)) : b := h y0_ y1_ y2_ y3_ x
theorem zB5 {s0 s1 s2 s3 s4 a b : Prop} (y0_ : s0) (y1_ : s1) (y2_ : s2) (y3_ : s3) (y4_ : s4) (x : a) (h : s0 → s1 → s2 → s3 → s4 → a → b := by intro y0_ y1_ y2_ y3_ y4_ z_; repeat (first | (with_reducible first | exact z_ | apply below_alloc | apply pw_below_drewN | apply below_drew1 | refine below_set ?_ y0_ | refine below_set ?_ y1_ | refine below_set ?_ y2_ | refine below_set ?_ y3_ | refine below_set ?_ y4_) | exact z_)) : b := h y0_ y1_ y2_ y3_ y4_ x
theorem zP {a b : Prop} (x : a) (h : a → b := by intro z_; (with_reducible repeat (first | refine blk_drewN ?_ _ | refine blk_drew ?_ | refine blk_alloc ?_ _)); exact z_) : b := h x
theorem zR {a b : Prop} (x : a) (h : a → b := by intro z_; (with_reducible repeat (first | apply Kd.R_alloc | apply Kd.R_drewN | apply Kd.R_drew)); exact z_) : b := h x
theorem zRm {α : Type} {d : Kd α} {e : Nat} {w w' : World} {base : Nat} {ok ok' : Nat → Prop} {v : Value} {xs : List α} (x : Kd.R d e w base ok v xs) (hk : ∀ k, ok k → ok' k) (h : Kd.R d e w base ok v xs → Kd.R d e w' base ok v xs := by intro z_; (with_reducible repeat (first | apply Kd.R_alloc | apply Kd.R_drewN | apply Kd.R_drew)); exact z_) : Kd.R d e w' base ok' v xs := Kd.R_mono (h x) hk
theorem zN {a b : Prop} (x : a) (h : a → b := by intro z_; (with_reducible repeat (first | apply Kd.N_alloc | apply Kd.N_drewN | apply Kd.N_drew)); exact z_) : b := h x
theorem zV {a b : Prop} (x : a) (h : a → b := by intro z_; (with_reducible repeat (first | apply Kd.V_alloc | apply Kd.V_drewN | apply Kd.V_drew)); exact z_) : b := h x
theorem zC {a b : Prop} (x : a) (h : a → b := by intro z_; repeat (first | exact z_ | (with_reducible refine Kd.C_alloc ?_ _) | (with_reducible refine Kd.C_drewN ?_ _) | (with_reducible refine Kd.C_drew ?_))) : b := h x
theorem zK {a b : Prop} (x : a) (h : a → b := by intro z_; repeat (first | (with_reducible first | exact z_ | apply Kept.alloc | apply Kept.drewN | apply Kept.drew) | exact z_)) : b := h x
theorem zU {a b : Prop} (x : a) (h : a → b := by intro z_; repeat (first | (with_reducible first | exact z_ | apply KeepBut.set_ | apply keep_drewN | apply keep_drew | apply keep_alloc) | exact z_)) : b := h x
theorem zU1 {s a b : Prop} (y : s) (x : a) (h : s → a → b := by intro y_ z_; repeat (first | (with_reducible first | exact z_ | apply KeepBut.set_ | apply keep_drewN | apply keep_drew | apply keep_alloc | refine keep_far ?_ y_ _) | exact z_)) : b := h y x
theorem zU2 {s t a b : Prop} (y : s) (u : t) (x : a) (h : s → t → a → b := by intro y_ u_ z_; repeat (first | (with_reducible first | exact z_ | apply KeepBut.set_ | apply keep_drewN | apply keep_drew | apply keep_alloc | refine keep_far ?_ y_ _ | refine keep_far ?_ u_ _) | exact z_)) : b := h y u x
theorem zD {p : Prop} [Decidable p] (h : decide p = true := by first | (with_reducible assumption) | assumption) : p := of_decide_eq_true h
theorem zE {p : Prop} (h : p := by first | rfl | (simp [errW_none, errW_some] <;> rfl) | (simp [*, errW_none, errW_some] <;> rfl)) : p := h
theorem zS {p : Prop} (h : p := by first | rfl | (simp; done) | (simp [*]; done)) : p := h
theorem zW {w w' : World} (h : Drawn0 w w' := by repeat (first | exact Drawn0.refl _ | apply Drawn0.step)) : Drawn0 w w' := h
theorem zH {α : Type} {y t : α} {a b : Prop} (e : y = t) (H : a) (h : y = t → a → b := by intro hy_ H_; first | (rw [hy_]; with_reducible exact H_) | (have H2_ := (Option.bind_some _ _).symm.trans H_; rw [hy_]; with_reducible exact H2_) | (have H2_ := (Option.bind_some _ _).symm.trans H_; with_reducible exact H2_) | with_reducible exact H_ | (rw [hy_]; exact H_) | exact H_) : b := h e H
theorem zG {P : Program} {ops : Array Oper} {Q : Exit → Act → World → Prop} {rest : List Oper} {oi : Oper} {a : Act} {w : World} (N : Option Tmp) {f : FuncId} {fn : Func} {xs_ : Array Operand} {ts : Array TypeId} (hf : P.funcs[f]? = some fn) (args : Array Value)
    (h : Calls P f args w fun e w' => ∃ v, e = .returned v ∧ wpList P ops Q rest (a.put N v) w')
    (hN : oi.dst = N := by rfl) (hg : oi.guard = none := by rfl) (h1 : (fn.name == "runtime.NumGoroutine") = false := by kernel_rfl) (h2 : fn.body.isSome = true := by rfl)
    (ho : oi.op = .call { callee := .value (.func f), args := xs_, argTypes := ts } := by rfl)
    (ha : Array.map a.eval xs_ = args := by (try simp only [List.map_toArray, List.map_cons, List.map_nil]); first | done | rfl | (simp only [List.length_drop, List.length_take]; rfl)) : wpList P ops Q (oi :: rest) a w := goesL_ N hN hg hf h1 h2 args ho ha h
def ba : Nat → Nat → List Bool
  | 0, _ => []
  | n + 1, m => (m % 2 == 1) :: ba n (m / 2)
theorem zq {P : Program} {ops : Array Oper} {Q : Exit → Act → World → Prop} {md : Region.Mode} {S : World → Prop} {ds : List Nat} {oi : Oper} {v : Value} {fuel : Nat} {l : Array Bool} {a : Act} {w : World} {T : Bool × List (List Nat × List Nat)} {a' : Act} (i : Nat) (N : Option Tmp) (l' : Array Bool)
    (hT : Aside0 (rtab md ops = T)) (k : wpAnyLast P md ops Q S ds fuel l' a' w) (h1 : ops[i]? = some oi := by rfl) (h2 : oi.dst = N := by rfl) (h3 : anyT T l.toList l'.toList i = true := by kernel_rfl) (h4 : ∀ c a w, Q (.panic c) (a.put oi.dst v) w → Q (.panic c) a w := by exact fun _ _ _ h => h)
    (h5 : Yields P ops oi v a := by refine Or.inl ⟨by rfl, ?_⟩; intro w'; go_simp; with_reducible rfl) (h6 : a.put N v = a' := by simp only [Act.put, List.setIfInBounds_toArray, List.set_cons_zero, List.set_cons_succ, i64_w, i32_w]; rfl) : wpAnyLast P md ops Q S ds (fuel + 1) l a w := pure_ l' h1 h2 (any_of hT.out h3) h4 h5 h6 k
theorem zu {P : Program} {ops : Array Oper} {Q : Exit → Act → World → Prop} {md : Region.Mode} {S : World → Prop} {ds : List Nat} {oi : Oper} {fuel : Nat} {l : Array Bool} {a : Act} {w : World} {T : Bool × List (List Nat × List Nat)} {a' : Act} (i : Nat) (N : Option Tmp) (l' : Array Bool)
    (hT : Aside0 (rtab md ops = T)) (k : wpAnyLast P md ops Q S ds fuel l' a' w) (h1 : ops[i]? = some oi := by rfl) (h2 : oi.dst = N := by rfl) (h3 : anyT T l.toList l'.toList i = true := by kernel_rfl) (h4 : ∀ c a w, Q (.panic c) (a.put oi.dst undef) w → Q (.panic c) a w := by exact fun _ _ _ h => h)
    (h5 : Yields P ops oi undef a := by exact Or.inr ⟨by rfl, rfl⟩) (h6 : a.put N undef = a' := by simp only [Act.put, List.setIfInBounds_toArray, List.set_cons_zero, List.set_cons_succ, i64_w, i32_w]; rfl) : wpAnyLast P md ops Q S ds (fuel + 1) l a w := pure_ l' h1 h2 (any_of hT.out h3) h4 h5 h6 k
theorem zt1 {P : Program} {ops : Array Oper} {Q : Exit → Act → World → Prop} {md : Region.Mode} {S : World → Prop} {ds : List Nat} {oi : Oper} {v : Value} {fuel : Nat} {l : Array Bool} {a : Act} {w : World} {T : Bool × List (List Nat × List Nat)} {B : List Nat} {a' : Act} (i : Nat) (N : Option Tmp) (l' : Array Bool)
    (hT : Aside0 (rtab md ops = T)) (hB : Aside0 (waitsOk T.snd B = true)) (hS : S w) (k : wpAnyLast P md ops Q S ds fuel l' a' w) (h1 : ops[i]? = some oi := by rfl) (h2 : oi.dst = N := by rfl) (h3 : takeW T B ds l.toList l'.toList i = true := by kernel_rfl) (h4 : ∀ c a w, Q (.panic c) (a.put oi.dst v) w → Q (.panic c) a w := by exact fun _ _ _ h => h)
    (h5 : YieldsIf P ops S oi v a := by refine Or.inl ⟨by rfl, ?_⟩; rintro w' s0; go_simp; with_reducible rfl) (h6 : a.put N v = a' := by simp only [Act.put, List.setIfInBounds_toArray, List.set_cons_zero, List.set_cons_succ, i64_w, i32_w]; rfl) : wpAnyLast P md ops Q S ds (fuel + 1) l a w := take_ l' h1 h2 (take_ofW hT.out hB.out h3) h4 h5 hS h6 k
theorem zt2 {P : Program} {ops : Array Oper} {Q : Exit → Act → World → Prop} {md : Region.Mode} {S : World → Prop} {ds : List Nat} {oi : Oper} {v : Value} {fuel : Nat} {l : Array Bool} {a : Act} {w : World} {T : Bool × List (List Nat × List Nat)} {B : List Nat} {a' : Act} (i : Nat) (N : Option Tmp) (l' : Array Bool)
    (hT : Aside0 (rtab md ops = T)) (hB : Aside0 (waitsOk T.snd B = true)) (hS : S w) (k : wpAnyLast P md ops Q S ds fuel l' a' w) (h1 : ops[i]? = some oi := by rfl) (h2 : oi.dst = N := by rfl) (h3 : takeW T B ds l.toList l'.toList i = true := by kernel_rfl) (h4 : ∀ c a w, Q (.panic c) (a.put oi.dst v) w → Q (.panic c) a w := by exact fun _ _ _ h => h)
    (h5 : YieldsIf P ops S oi v a := by refine Or.inl ⟨by rfl, ?_⟩; rintro w' ⟨s0, s1⟩; go_simp; with_reducible rfl) (h6 : a.put N v = a' := by simp only [Act.put, List.setIfInBounds_toArray, List.set_cons_zero, List.set_cons_succ, i64_w, i32_w]; rfl) : wpAnyLast P md ops Q S ds (fuel + 1) l a w := take_ l' h1 h2 (take_ofW hT.out hB.out h3) h4 h5 hS h6 k
theorem zt3 {P : Program} {ops : Array Oper} {Q : Exit → Act → World → Prop} {md : Region.Mode} {S : World → Prop} {ds : List Nat} {oi : Oper} {v : Value} {fuel : Nat} {l : Array Bool} {a : Act} {w : World} {T : Bool × List (List Nat × List Nat)} {B : List Nat} {a' : Act} (i : Nat) (N : Option Tmp) (l' : Array Bool)
    (hT : Aside0 (rtab md ops = T)) (hB : Aside0 (waitsOk T.snd B = true)) (hS : S w) (k : wpAnyLast P md ops Q S ds fuel l' a' w) (h1 : ops[i]? = some oi := by rfl) (h2 : oi.dst = N := by rfl) (h3 : takeW T B ds l.toList l'.toList i = true := by kernel_rfl) (h4 : ∀ c a w, Q (.panic c) (a.put oi.dst v) w → Q (.panic c) a w := by exact fun _ _ _ h => h)
    (h5 : YieldsIf P ops S oi v a := by refine Or.inl ⟨by rfl, ?_⟩; rintro w' ⟨s0, s1, s2⟩; go_simp; with_reducible rfl) (h6 : a.put N v = a' := by simp only [Act.put, List.setIfInBounds_toArray, List.set_cons_zero, List.set_cons_succ, i64_w, i32_w]; rfl) : wpAnyLast P md ops Q S ds (fuel + 1) l a w := take_ l' h1 h2 (take_ofW hT.out hB.out h3) h4 h5 hS h6 k
theorem zt4 {P : Program} {ops : Array Oper} {Q : Exit → Act → World → Prop} {md : Region.Mode} {S : World → Prop} {ds : List Nat} {oi : Oper} {v : Value} {fuel : Nat} {l : Array Bool} {a : Act} {w : World} {T : Bool × List (List Nat × List Nat)} {B : List Nat} {a' : Act} (i : Nat) (N : Option Tmp) (l' : Array Bool)
    (hT : Aside0 (rtab md ops = T)) (hB : Aside0 (waitsOk T.snd B = true)) (hS : S w) (k : wpAnyLast P md ops Q S ds fuel l' a' w) (h1 : ops[i]? = some oi := by rfl) (h2 : oi.dst = N := by rfl) (h3 : takeW T B ds l.toList l'.toList i = true := by kernel_rfl) (h4 : ∀ c a w, Q (.panic c) (a.put oi.dst v) w → Q (.panic c) a w := by exact fun _ _ _ h => h)
    (h5 : YieldsIf P ops S oi v a := by refine Or.inl ⟨by rfl, ?_⟩; rintro w' ⟨s0, s1, s2, s3⟩; go_simp; with_reducible rfl) (h6 : a.put N v = a' := by simp only [Act.put, List.setIfInBounds_toArray, List.set_cons_zero, List.set_cons_succ, i64_w, i32_w]; rfl) : wpAnyLast P md ops Q S ds (fuel + 1) l a w := take_ l' h1 h2 (take_ofW hT.out hB.out h3) h4 h5 hS h6 k
theorem zt5 {P : Program} {ops : Array Oper} {Q : Exit → Act → World → Prop} {md : Region.Mode} {S : World → Prop} {ds : List Nat} {oi : Oper} {v : Value} {fuel : Nat} {l : Array Bool} {a : Act} {w : World} {T : Bool × List (List Nat × List Nat)} {B : List Nat} {a' : Act} (i : Nat) (N : Option Tmp) (l' : Array Bool)
    (hT : Aside0 (rtab md ops = T)) (hB : Aside0 (waitsOk T.snd B = true)) (hS : S w) (k : wpAnyLast P md ops Q S ds fuel l' a' w) (h1 : ops[i]? = some oi := by rfl) (h2 : oi.dst = N := by rfl) (h3 : takeW T B ds l.toList l'.toList i = true := by kernel_rfl) (h4 : ∀ c a w, Q (.panic c) (a.put oi.dst v) w → Q (.panic c) a w := by exact fun _ _ _ h => h)
    (h5 : YieldsIf P ops S oi v a := by refine Or.inl ⟨by rfl, ?_⟩; rintro w' ⟨s0, s1, s2, s3, s4⟩; go_simp; with_reducible rfl) (h6 : a.put N v = a' := by simp only [Act.put, List.setIfInBounds_toArray, List.set_cons_zero, List.set_cons_succ, i64_w, i32_w]; rfl) : wpAnyLast P md ops Q S ds (fuel + 1) l a w := take_ l' h1 h2 (take_ofW hT.out hB.out h3) h4 h5 hS h6 k
theorem zt6 {P : Program} {ops : Array Oper} {Q : Exit → Act → World → Prop} {md : Region.Mode} {S : World → Prop} {ds : List Nat} {oi : Oper} {v : Value} {fuel : Nat} {l : Array Bool} {a : Act} {w : World} {T : Bool × List (List Nat × List Nat)} {B : List Nat} {a' : Act} (i : Nat) (N : Option Tmp) (l' : Array Bool)
    (hT : Aside0 (rtab md ops = T)) (hB : Aside0 (waitsOk T.snd B = true)) (hS : S w) (k : wpAnyLast P md ops Q S ds fuel l' a' w) (h1 : ops[i]? = some oi := by rfl) (h2 : oi.dst = N := by rfl) (h3 : takeW T B ds l.toList l'.toList i = true := by kernel_rfl) (h4 : ∀ c a w, Q (.panic c) (a.put oi.dst v) w → Q (.panic c) a w := by exact fun _ _ _ h => h)
    (h5 : YieldsIf P ops S oi v a := by refine Or.inl ⟨by rfl, ?_⟩; rintro w' ⟨s0, s1, s2, s3, s4, s5⟩; go_simp; with_reducible rfl) (h6 : a.put N v = a' := by simp only [Act.put, List.setIfInBounds_toArray, List.set_cons_zero, List.set_cons_succ, i64_w, i32_w]; rfl) : wpAnyLast P md ops Q S ds (fuel + 1) l a w := take_ l' h1 h2 (take_ofW hT.out hB.out h3) h4 h5 hS h6 k
theorem zt7 {P : Program} {ops : Array Oper} {Q : Exit → Act → World → Prop} {md : Region.Mode} {S : World → Prop} {ds : List Nat} {oi : Oper} {v : Value} {fuel : Nat} {l : Array Bool} {a : Act} {w : World} {T : Bool × List (List Nat × List Nat)} {B : List Nat} {a' : Act} (i : Nat) (N : Option Tmp) (l' : Array Bool)
    (hT : Aside0 (rtab md ops = T)) (hB : Aside0 (waitsOk T.snd B = true)) (hS : S w) (k : wpAnyLast P md ops Q S ds fuel l' a' w) (h1 : ops[i]? = some oi := by rfl) (h2 : oi.dst = N := by rfl) (h3 : takeW T B ds l.toList l'.toList i = true := by kernel_rfl) (h4 : ∀ c a w, Q (.panic c) (a.put oi.dst v) w → Q (.panic c) a w := by exact fun _ _ _ h => h)
    (h5 : YieldsIf P ops S oi v a := by refine Or.inl ⟨by rfl, ?_⟩; rintro w' ⟨s0, s1, s2, s3, s4, s5, s6⟩; go_simp; with_reducible rfl) (h6 : a.put N v = a' := by simp only [Act.put, List.setIfInBounds_toArray, List.set_cons_zero, List.set_cons_succ, i64_w, i32_w]; rfl) : wpAnyLast P md ops Q S ds (fuel + 1) l a w := take_ l' h1 h2 (take_ofW hT.out hB.out h3) h4 h5 hS h6 k
theorem zt8 {P : Program} {ops : Array Oper} {Q : Exit → Act → World → Prop} {md : Region.Mode} {S : World → Prop} {ds : List Nat} {oi : Oper} {v : Value} {fuel : Nat} {l : Array Bool} {a : Act} {w : World} {T : Bool × List (List Nat × List Nat)} {B : List Nat} {a' : Act} (i : Nat) (N : Option Tmp) (l' : Array Bool)
    (hT : Aside0 (rtab md ops = T)) (hB : Aside0 (waitsOk T.snd B = true)) (hS : S w) (k : wpAnyLast P md ops Q S ds fuel l' a' w) (h1 : ops[i]? = some oi := by rfl) (h2 : oi.dst = N := by rfl) (h3 : takeW T B ds l.toList l'.toList i = true := by kernel_rfl) (h4 : ∀ c a w, Q (.panic c) (a.put oi.dst v) w → Q (.panic c) a w := by exact fun _ _ _ h => h)
    (h5 : YieldsIf P ops S oi v a := by refine Or.inl ⟨by rfl, ?_⟩; rintro w' ⟨s0, s1, s2, s3, s4, s5, s6, s7⟩; go_simp; with_reducible rfl) (h6 : a.put N v = a' := by simp only [Act.put, List.setIfInBounds_toArray, List.set_cons_zero, List.set_cons_succ, i64_w, i32_w]; rfl) : wpAnyLast P md ops Q S ds (fuel + 1) l a w := take_ l' h1 h2 (take_ofW hT.out hB.out h3) h4 h5 hS h6 k
theorem zt9 {P : Program} {ops : Array Oper} {Q : Exit → Act → World → Prop} {md : Region.Mode} {S : World → Prop} {ds : List Nat} {oi : Oper} {v : Value} {fuel : Nat} {l : Array Bool} {a : Act} {w : World} {T : Bool × List (List Nat × List Nat)} {B : List Nat} {a' : Act} (i : Nat) (N : Option Tmp) (l' : Array Bool)
    (hT : Aside0 (rtab md ops = T)) (hB : Aside0 (waitsOk T.snd B = true)) (hS : S w) (k : wpAnyLast P md ops Q S ds fuel l' a' w) (h1 : ops[i]? = some oi := by rfl) (h2 : oi.dst = N := by rfl) (h3 : takeW T B ds l.toList l'.toList i = true := by kernel_rfl) (h4 : ∀ c a w, Q (.panic c) (a.put oi.dst v) w → Q (.panic c) a w := by exact fun _ _ _ h => h)
    (h5 : YieldsIf P ops S oi v a := by refine Or.inl ⟨by rfl, ?_⟩; rintro w' ⟨s0, s1, s2, s3, s4, s5, s6, s7, s8⟩; go_simp; with_reducible rfl) (h6 : a.put N v = a' := by simp only [Act.put, List.setIfInBounds_toArray, List.set_cons_zero, List.set_cons_succ, i64_w, i32_w]; rfl) : wpAnyLast P md ops Q S ds (fuel + 1) l a w := take_ l' h1 h2 (take_ofW hT.out hB.out h3) h4 h5 hS h6 k
theorem zt10 {P : Program} {ops : Array Oper} {Q : Exit → Act → World → Prop} {md : Region.Mode} {S : World → Prop} {ds : List Nat} {oi : Oper} {v : Value} {fuel : Nat} {l : Array Bool} {a : Act} {w : World} {T : Bool × List (List Nat × List Nat)} {B : List Nat} {a' : Act} (i : Nat) (N : Option Tmp) (l' : Array Bool)
    (hT : Aside0 (rtab md ops = T)) (hB : Aside0 (waitsOk T.snd B = true)) (hS : S w) (k : wpAnyLast P md ops Q S ds fuel l' a' w) (h1 : ops[i]? = some oi := by rfl) (h2 : oi.dst = N := by rfl) (h3 : takeW T B ds l.toList l'.toList i = true := by kernel_rfl) (h4 : ∀ c a w, Q (.panic c) (a.put oi.dst v) w → Q (.panic c) a w := by exact fun _ _ _ h => h)
    (h5 : YieldsIf P ops S oi v a := by refine Or.inl ⟨by rfl, ?_⟩; rintro w' ⟨s0, s1, s2, s3, s4, s5, s6, s7, s8, s9⟩; go_simp; with_reducible rfl) (h6 : a.put N v = a' := by simp only [Act.put, List.setIfInBounds_toArray, List.set_cons_zero, List.set_cons_succ, i64_w, i32_w]; rfl) : wpAnyLast P md ops Q S ds (fuel + 1) l a w := take_ l' h1 h2 (take_ofW hT.out hB.out h3) h4 h5 hS h6 k
theorem zt11 {P : Program} {ops : Array Oper} {Q : Exit → Act → World → Prop} {md : Region.Mode} {S : World → Prop} {ds : List Nat} {oi : Oper} {v : Value} {fuel : Nat} {l : Array Bool} {a : Act} {w : World} {T : Bool × List (List Nat × List Nat)} {B : List Nat} {a' : Act} (i : Nat) (N : Option Tmp) (l' : Array Bool)
    (hT : Aside0 (rtab md ops = T)) (hB : Aside0 (waitsOk T.snd B = true)) (hS : S w) (k : wpAnyLast P md ops Q S ds fuel l' a' w) (h1 : ops[i]? = some oi := by rfl) (h2 : oi.dst = N := by rfl) (h3 : takeW T B ds l.toList l'.toList i = true := by kernel_rfl) (h4 : ∀ c a w, Q (.panic c) (a.put oi.dst v) w → Q (.panic c) a w := by exact fun _ _ _ h => h)
    (h5 : YieldsIf P ops S oi v a := by refine Or.inl ⟨by rfl, ?_⟩; rintro w' ⟨s0, s1, s2, s3, s4, s5, s6, s7, s8, s9, s10⟩; go_simp; with_reducible rfl) (h6 : a.put N v = a' := by simp only [Act.put, List.setIfInBounds_toArray, List.set_cons_zero, List.set_cons_succ, i64_w, i32_w]; rfl) : wpAnyLast P md ops Q S ds (fuel + 1) l a w := take_ l' h1 h2 (take_ofW hT.out hB.out h3) h4 h5 hS h6 k
theorem zt12 {P : Program} {ops : Array Oper} {Q : Exit → Act → World → Prop} {md : Region.Mode} {S : World → Prop} {ds : List Nat} {oi : Oper} {v : Value} {fuel : Nat} {l : Array Bool} {a : Act} {w : World} {T : Bool × List (List Nat × List Nat)} {B : List Nat} {a' : Act} (i : Nat) (N : Option Tmp) (l' : Array Bool)
    (hT : Aside0 (rtab md ops = T)) (hB : Aside0 (waitsOk T.snd B = true)) (hS : S w) (k : wpAnyLast P md ops Q S ds fuel l' a' w) (h1 : ops[i]? = some oi := by rfl) (h2 : oi.dst = N := by rfl) (h3 : takeW T B ds l.toList l'.toList i = true := by kernel_rfl) (h4 : ∀ c a w, Q (.panic c) (a.put oi.dst v) w → Q (.panic c) a w := by exact fun _ _ _ h => h)
    (h5 : YieldsIf P ops S oi v a := by refine Or.inl ⟨by rfl, ?_⟩; rintro w' ⟨s0, s1, s2, s3, s4, s5, s6, s7, s8, s9, s10, s11⟩; go_simp; with_reducible rfl) (h6 : a.put N v = a' := by simp only [Act.put, List.setIfInBounds_toArray, List.set_cons_zero, List.set_cons_succ, i64_w, i32_w]; rfl) : wpAnyLast P md ops Q S ds (fuel + 1) l a w := take_ l' h1 h2 (take_ofW hT.out hB.out h3) h4 h5 hS h6 k
theorem zM {p : Prop} (h : p) : Aside0 p := ⟨h⟩
theorem zA {p : Prop} (h : Aside0 p) : p := h.out
theorem info3 : (Try.prog.info? 3).map (fun i => (i.zero, i.size, i.bytes)) = some (some (.int .i64 0), 1, 8) := by kernel_rfl
theorem info5 : (Try.prog.info? 5).map (fun i => (i.zero, i.size, i.bytes)) = some (some (.int .u8 0), 1, 1) := by kernel_rfl
theorem info26 : (Try.prog.info? 26).map (fun i => (i.zero, i.size, i.bytes)) = some (some (.agg #[(.int .i64 0), (.int .i64 0)]), 2, 16) := by kernel_rfl
theorem info44 : (Try.prog.info? 44).map (fun i => (i.zero, i.size, i.bytes)) = some (some (.agg #[(.int .i64 0), (.string ⟨#[]⟩)]), 2, 24) := by kernel_rfl
-- the values' own types
/-! #### struct type 26 -/
def k26 : Kd S26 := Kd.iso (Kd.pair (Kd.int .i64) (Kd.int .i64)) (fun x : S26 => (x.f0, x.f1))
theorem k26_open {w : World} {x : S26} {cs : List Value} (h : k26.K w x cs) : cs = [.int .i64 x.f0, .int .i64 x.f1] := by
 obtain ⟨_, _, rfl, rfl, rfl⟩ := h
 exact rfl
theorem k26_openM {w : World} {base : Nat} {ok : Nat → Prop} {x : S26} {cs : List Value} (h : k26.M w base ok x cs) : cs = [.int .i64 x.f0, .int .i64 x.f1] := by
 obtain ⟨_, _, rfl, rfl, rfl⟩ := h
 exact rfl
theorem k26_mk (w : World) (x : S26)  : k26.K w x [.int .i64 x.f0, .int .i64 x.f1] := ⟨[.int .i64 x.f0], [.int .i64 x.f1], rfl, rfl, rfl⟩
theorem k26_mkM (w : World) (base : Nat) (ok : Nat → Prop) (x : S26)  : k26.M w base ok x [.int .i64 x.f0, .int .i64 x.f1] := ⟨[.int .i64 x.f0], [.int .i64 x.f1], rfl, rfl, rfl⟩
theorem at_T26 {w : World} {A : Option Addr} {n : Nat} {xs : List S26} (h : Kd.C k26 w A n xs) (i : Int) (h0 : 0 ≤ i) (h1 : i < n) : ∃ ad , A = some ad ∧ w.cell? (ad.add (i.toNat * 2)) = some (.int .i64 (rd_T26 xs i).f0) ∧ w.cell? ⟨(ad.add (i.toNat * 2)).block, (ad.add (i.toNat * 2)).off + 1, none⟩ = some (.int .i64 (rd_T26 xs i).f1) := by
 obtain ⟨ad, c, e, _, hK, hc0⟩ := Kd.C_get h z26 i h0 h1
 have hc : ∀ j u, c[j]? = some u → w.cell? (ad.add (i.toNat * 2 + j)) = some u := hc0
 obtain rfl := k26_open hK
 exact ⟨ad, e, hc 0 _ rfl, by rw [← add_field _ _ 1 (by omega)]; exact hc 1 _ rfl⟩

/-! #### struct type 37 -/
def k37 : Kd S37 := Kd.iso (Kd.pair (Kd.int .i64) Kd.string) (fun x : S37 => (x.f0, x.f1))
theorem k37_open {w : World} {x : S37} {cs : List Value} (h : k37.K w x cs) : cs = [.int .i64 x.f0, .string x.f1] := by
 obtain ⟨_, _, rfl, rfl, rfl⟩ := h
 exact rfl
theorem k37_openM {w : World} {base : Nat} {ok : Nat → Prop} {x : S37} {cs : List Value} (h : k37.M w base ok x cs) : cs = [.int .i64 x.f0, .string x.f1] := by
 obtain ⟨_, _, rfl, rfl, rfl⟩ := h
 exact rfl
theorem k37_mk (w : World) (x : S37)  : k37.K w x [.int .i64 x.f0, .string x.f1] := ⟨[.int .i64 x.f0], [.string x.f1], rfl, rfl, rfl⟩
theorem k37_mkM (w : World) (base : Nat) (ok : Nat → Prop) (x : S37)  : k37.M w base ok x [.int .i64 x.f0, .string x.f1] := ⟨[.int .i64 x.f0], [.string x.f1], rfl, rfl, rfl⟩
theorem at_T37 {w : World} {A : Option Addr} {n : Nat} {xs : List S37} (h : Kd.C k37 w A n xs) (i : Int) (h0 : 0 ≤ i) (h1 : i < n) : ∃ ad , A = some ad ∧ w.cell? (ad.add (i.toNat * 2)) = some (.int .i64 (rd_T37 xs i).f0) ∧ w.cell? ⟨(ad.add (i.toNat * 2)).block, (ad.add (i.toNat * 2)).off + 1, none⟩ = some (.string (rd_T37 xs i).f1) := by
 obtain ⟨ad, c, e, _, hK, hc0⟩ := Kd.C_get h z37 i h0 h1
 have hc : ∀ j u, c[j]? = some u → w.cell? (ad.add (i.toNat * 2 + j)) = some u := hc0
 obtain rfl := k37_open hK
 exact ⟨ad, e, hc 0 _ rfl, by rw [← add_field _ _ 1 (by omega)]; exact hc 1 _ rfl⟩

/-! #### struct type 44 -/
def k44 : Kd S44 := Kd.iso (Kd.pair (Kd.int .i64) Kd.string) (fun x : S44 => (x.f0, x.f1))
theorem k44_open {w : World} {x : S44} {cs : List Value} (h : k44.K w x cs) : cs = [.int .i64 x.f0, .string x.f1] := by
 obtain ⟨_, _, rfl, rfl, rfl⟩ := h
 exact rfl
theorem k44_openM {w : World} {base : Nat} {ok : Nat → Prop} {x : S44} {cs : List Value} (h : k44.M w base ok x cs) : cs = [.int .i64 x.f0, .string x.f1] := by
 obtain ⟨_, _, rfl, rfl, rfl⟩ := h
 exact rfl
theorem k44_mk (w : World) (x : S44)  : k44.K w x [.int .i64 x.f0, .string x.f1] := ⟨[.int .i64 x.f0], [.string x.f1], rfl, rfl, rfl⟩
theorem k44_mkM (w : World) (base : Nat) (ok : Nat → Prop) (x : S44)  : k44.M w base ok x [.int .i64 x.f0, .string x.f1] := ⟨[.int .i64 x.f0], [.string x.f1], rfl, rfl, rfl⟩
theorem at_T44 {w : World} {A : Option Addr} {n : Nat} {xs : List S44} (h : Kd.C k44 w A n xs) (i : Int) (h0 : 0 ≤ i) (h1 : i < n) : ∃ ad , A = some ad ∧ w.cell? (ad.add (i.toNat * 2)) = some (.int .i64 (rd_T44 xs i).f0) ∧ w.cell? ⟨(ad.add (i.toNat * 2)).block, (ad.add (i.toNat * 2)).off + 1, none⟩ = some (.string (rd_T44 xs i).f1) := by
 obtain ⟨ad, c, e, _, hK, hc0⟩ := Kd.C_get h z44 i h0 h1
 have hc : ∀ j u, c[j]? = some u → w.cell? (ad.add (i.toNat * 2 + j)) = some u := hc0
 obtain rfl := k44_open hK
 exact ⟨ad, e, hc 0 _ rfl, by rw [← add_field _ _ 1 (by omega)]; exact hc 1 _ rfl⟩

end Go.Proofs.Yteahdfibipalkaa.G

namespace Go.Proofs.Yteahdfibipalkaa.G
open Go.RowKit Go.Proofs.YteahdfibipalkaaW.PrintWords Go.Proofs.YteahdfibipalkaaW.PrintLast Go.Proofs.YteahdfibipalkaaW.PrintMore
attribute [local go_sem] max2_int min2_int max_two min_two max_three min_three max_four min_four   -- for this text's walks alone
set_option linter.unusedVariables false
set_option linter.unusedSimpArgs false

/-! ### laws_big: function 6 -/
set_option maxHeartbeats 8000000 in
set_option maxRecDepth 100000 in
theorem laws_big.calls (A0 : Option Addr) (c0 : Nat) (l0 : List Int) (r : Bool) (w : World) (hr0 : Kd.C (Kd.int .u8) w A0 l0.length l0) (hc0 : l0.length ≤ c0) (h : laws_big.f l0 = some r) :
  Calls Try.prog 6 #[.slice A0 l0.length c0] w fun e w' => e = .returned (.bool r) ∧ Drawn0 w w' := by
 have HR0 := zM hr0
 have HC0 := zM hc0
 clear hr0 hc0
 have H : (some (decide ((l0.length : Int) > 1048576))) = some r := h
 clear h
 obtain rfl := Option.some.inj H
 go_enter Try.func6, Try.ntmps6
 go_wp2
 go_ret
 exact ⟨zS, zW⟩

end Go.Proofs.Yteahdfibipalkaa.G

namespace Go.Proofs.Yteahdfibipalkaa.G
open Go.RowKit Go.Proofs.YteahdfibipalkaaW.PrintWords Go.Proofs.YteahdfibipalkaaW.PrintLast Go.Proofs.YteahdfibipalkaaW.PrintMore
attribute [local go_sem] max2_int min2_int max_two min_two max_three min_three max_four min_four   -- for this text's walks alone
set_option linter.unusedVariables false
set_option linter.unusedSimpArgs false

/-! ### spec_IsSpanSet: function 11 -/
set_option maxHeartbeats 8000000 in
set_option maxRecDepth 100000 in
theorem spec_IsSpanSet.calls (k : Nat) (A0 : Option Addr) (c0 : Nat) (l0 : List (S26)) (r : Bool) (w : World) (hr0 : Kd.C k26 w A0 l0.length l0) (hc0 : l0.length ≤ c0) (h : spec_IsSpanSet.f k l0 = some r) :
  Calls Try.prog 11 #[.slice A0 l0.length c0] w fun e w' => e = .returned (.bool r) ∧ Drawn0 w w' := by
 have HR0 := zM hr0
 have HC0 := zM hc0
 clear hr0 hc0
 have H : (spec_IsSpanSet.l0 k l0 0) = some r := h
 clear h
 have H' := zM H
 clear H
 go_enter Try.func11, Try.ntmps11
 go_wp2
 repeat (go_quiet (fail); try go_wp2)
 go_loopg [3] k (fun kq v3 w' => ∃ (x3_1 : Int), v3 = .int .i64 x3_1 ∧ Aside0 (spec_IsSpanSet.l0 kq l0 x3_1 = some r) ∧ Aside0 (kq ≤ k) ∧ Drawn0 w w')
 case atStart => exact ⟨(0), zS, H', ⟨Nat.le_refl _⟩, zW⟩
 case round =>
  clear H'
  try clear c1
  obtain ⟨x3_1, rfl, HA, HK1, ⟨m1, rfl⟩⟩ := hrel
  cases gk with
  | zero => exact absurd HA.out (by simp [spec_IsSpanSet.l0])
  | succ k1 =>
   have H := HA.out
   clear HA
   simp only [spec_IsSpanSet.l0] at H
   by_cases c2 : x3_1 < (l0.length : Int)
   ·rw [if_pos c2] at H
    have c2b0 : decide (x3_1 < (l0.length : Int)) = true := decide_eq_true c2
    clear c2
    by_cases c3 : 0 ≤ x3_1
    ·rw [if_pos c3] at H
     have c3b0 : decide (0 ≤ x3_1) = true := decide_eq_true c3
     clear c3
     by_cases c4 : ((rd_T26 l0 x3_1).f0) < 0
     ·rw [if_pos c4] at H
      have c4b0 : decide (((rd_T26 l0 x3_1).f0) < 0) = true := decide_eq_true c4
      clear c4
      obtain rfl := Option.some.inj H
      have p127 : 0 ≤ (x3_1 : Int) := zD
      have q127 : x3_1 < (l0.length : Int) := zD
      obtain ⟨ad127, e127, hx127_0, hx127_1⟩ := at_T26 HR0.out x3_1 p127 q127
      cases e127
      replace p127 := eq_true p127
      replace q127 := eq_true q127
      go_wp2
      repeat (go_quiet (fail); try go_wp2)
      go_ret
      exact ⟨zS, zW⟩
     ·rw [if_neg c4] at H
      have c4b0 : decide (((rd_T26 l0 x3_1).f0) < 0) = false := decide_eq_false c4
      clear c4
      by_cases c5 : ((rd_T26 l0 x3_1).f0) ≥ ((rd_T26 l0 x3_1).f1)
      ·rw [if_pos c5] at H
       have c5b0 : decide (((rd_T26 l0 x3_1).f1) ≤ ((rd_T26 l0 x3_1).f0)) = true := decide_eq_true c5
       clear c5
       obtain rfl := Option.some.inj H
       have p127 : 0 ≤ (x3_1 : Int) := zD
       have q127 : x3_1 < (l0.length : Int) := zD
       obtain ⟨ad127, e127, hx127_0, hx127_1⟩ := at_T26 HR0.out x3_1 p127 q127
       cases e127
       replace p127 := eq_true p127
       replace q127 := eq_true q127
       have p128 : 0 ≤ (x3_1 : Int) := zD
       have q128 : x3_1 < (l0.length : Int) := zD
       obtain ⟨ad128, e128, hx128_0, hx128_1⟩ := at_T26 HR0.out x3_1 p128 q128
       obtain rfl : ad127 = ad128 := (by injection e128)
       replace p128 := eq_true p128
       replace q128 := eq_true q128
       have p129 : 0 ≤ (x3_1 : Int) := zD
       have q129 : x3_1 < (l0.length : Int) := zD
       obtain ⟨ad129, e129, hx129_0, hx129_1⟩ := at_T26 HR0.out x3_1 p129 q129
       obtain rfl : ad127 = ad129 := (by injection e129)
       replace p129 := eq_true p129
       replace q129 := eq_true q129
       go_wp2
       repeat (go_quiet (fail); try go_wp2)
       go_ret
       exact ⟨zS, zW⟩
      ·rw [if_neg c5] at H
       have c5b0 : decide (((rd_T26 l0 x3_1).f1) ≤ ((rd_T26 l0 x3_1).f0)) = false := decide_eq_false c5
       clear c5
       by_cases c6 : ((rd_T26 l0 x3_1).f1) > 1000000000000
       ·rw [if_pos c6] at H
        have c6b0 : decide (1000000000000 < ((rd_T26 l0 x3_1).f1)) = true := decide_eq_true c6
        clear c6
        obtain rfl := Option.some.inj H
        have p127 : 0 ≤ (x3_1 : Int) := zD
        have q127 : x3_1 < (l0.length : Int) := zD
        obtain ⟨ad127, e127, hx127_0, hx127_1⟩ := at_T26 HR0.out x3_1 p127 q127
        cases e127
        replace p127 := eq_true p127
        replace q127 := eq_true q127
        have p128 : 0 ≤ (x3_1 : Int) := zD
        have q128 : x3_1 < (l0.length : Int) := zD
        obtain ⟨ad128, e128, hx128_0, hx128_1⟩ := at_T26 HR0.out x3_1 p128 q128
        obtain rfl : ad127 = ad128 := (by injection e128)
        replace p128 := eq_true p128
        replace q128 := eq_true q128
        have p129 : 0 ≤ (x3_1 : Int) := zD
        have q129 : x3_1 < (l0.length : Int) := zD
        obtain ⟨ad129, e129, hx129_0, hx129_1⟩ := at_T26 HR0.out x3_1 p129 q129
        obtain rfl : ad127 = ad129 := (by injection e129)
        replace p129 := eq_true p129
        replace q129 := eq_true q129
        have p130 : 0 ≤ (x3_1 : Int) := zD
        have q130 : x3_1 < (l0.length : Int) := zD
        obtain ⟨ad130, e130, hx130_0, hx130_1⟩ := at_T26 HR0.out x3_1 p130 q130
        obtain rfl : ad127 = ad130 := (by injection e130)
        replace p130 := eq_true p130
        replace q130 := eq_true q130
        go_wp2
        repeat (go_quiet (fail); try go_wp2)
        go_ret
        exact ⟨zS, zW⟩
       ·rw [if_neg c6] at H
        have c6b0 : decide (1000000000000 < ((rd_T26 l0 x3_1).f1)) = false := decide_eq_false c6
        clear c6
        by_cases c7 : x3_1 > 0
        ·rw [if_pos c7] at H
         have c7b0 : decide (0 < x3_1) = true := decide_eq_true c7
         clear c7
         obtain ⟨ji8, hji8⟩ : ∃ j_ : Int, (wrap64 (x3_1 - 1)) = j_ := ⟨_, rfl⟩
         replace H : (if 0 ≤ (ji8) then (if (ji8) < (l0.length : Int) then (if ((rd_T26 l0 (ji8)).f1) ≥ ((rd_T26 l0 x3_1).f0) then (some false) else (spec_IsSpanSet.l0 k1 l0 (wrap64 (x3_1 + 1)))) else (none)) else (none)) = some r := by first | (rw [hji8] at H; exact H) | (simp only [hji8] at H ⊢; exact H)
         have hji8w : (IntKind.i64.wrap (x3_1 - 1)) = ji8 := (i64_w _).trans hji8
         by_cases c9 : 0 ≤ (ji8)
         ·rw [if_pos c9] at H
          have c9b0 : decide (0 ≤ (ji8)) = true := decide_eq_true c9
          clear c9
          by_cases c10 : (ji8) < (l0.length : Int)
          ·rw [if_pos c10] at H
           have c10b0 : decide ((ji8) < (l0.length : Int)) = true := decide_eq_true c10
           clear c10
           by_cases c11 : ((rd_T26 l0 (ji8)).f1) ≥ ((rd_T26 l0 x3_1).f0)
           ·rw [if_pos c11] at H
            have c11b0 : decide (((rd_T26 l0 x3_1).f0) ≤ ((rd_T26 l0 (ji8)).f1)) = true := decide_eq_true c11
            clear c11
            obtain rfl := Option.some.inj H
            have p127 : 0 ≤ (x3_1 : Int) := zD
            have q127 : x3_1 < (l0.length : Int) := zD
            obtain ⟨ad127, e127, hx127_0, hx127_1⟩ := at_T26 HR0.out x3_1 p127 q127
            cases e127
            replace p127 := eq_true p127
            replace q127 := eq_true q127
            have p128 : 0 ≤ (x3_1 : Int) := zD
            have q128 : x3_1 < (l0.length : Int) := zD
            obtain ⟨ad128, e128, hx128_0, hx128_1⟩ := at_T26 HR0.out x3_1 p128 q128
            obtain rfl : ad127 = ad128 := (by injection e128)
            replace p128 := eq_true p128
            replace q128 := eq_true q128
            have p129 : 0 ≤ (x3_1 : Int) := zD
            have q129 : x3_1 < (l0.length : Int) := zD
            obtain ⟨ad129, e129, hx129_0, hx129_1⟩ := at_T26 HR0.out x3_1 p129 q129
            obtain rfl : ad127 = ad129 := (by injection e129)
            replace p129 := eq_true p129
            replace q129 := eq_true q129
            have p130 : 0 ≤ (x3_1 : Int) := zD
            have q130 : x3_1 < (l0.length : Int) := zD
            obtain ⟨ad130, e130, hx130_0, hx130_1⟩ := at_T26 HR0.out x3_1 p130 q130
            obtain rfl : ad127 = ad130 := (by injection e130)
            replace p130 := eq_true p130
            replace q130 := eq_true q130
            have p131 : 0 ≤ ((ji8) : Int) := zD
            have q131 : (ji8) < (l0.length : Int) := zD
            obtain ⟨ad131, e131, hx131_0, hx131_1⟩ := at_T26 HR0.out (ji8) p131 q131
            obtain rfl : ad127 = ad131 := (by injection e131)
            replace p131 := eq_true p131
            replace q131 := eq_true q131
            have p132 : 0 ≤ (x3_1 : Int) := zD
            have q132 : x3_1 < (l0.length : Int) := zD
            obtain ⟨ad132, e132, hx132_0, hx132_1⟩ := at_T26 HR0.out x3_1 p132 q132
            obtain rfl : ad127 = ad132 := (by injection e132)
            replace p132 := eq_true p132
            replace q132 := eq_true q132
            go_wp2
            repeat (go_quiet (fail); try go_wp2)
            go_ret
            exact ⟨by first | rfl | (simp; done) | (simp only [← hji8] <;> (first | rfl | simp)) | (simp [*]; done), zW⟩
           ·rw [if_neg c11] at H
            have c11b0 : decide (((rd_T26 l0 x3_1).f0) ≤ ((rd_T26 l0 (ji8)).f1)) = false := decide_eq_false c11
            clear c11
            have H' := zM H
            clear H
            have p127 : 0 ≤ (x3_1 : Int) := zD
            have q127 : x3_1 < (l0.length : Int) := zD
            obtain ⟨ad127, e127, hx127_0, hx127_1⟩ := at_T26 HR0.out x3_1 p127 q127
            cases e127
            replace p127 := eq_true p127
            replace q127 := eq_true q127
            have p128 : 0 ≤ (x3_1 : Int) := zD
            have q128 : x3_1 < (l0.length : Int) := zD
            obtain ⟨ad128, e128, hx128_0, hx128_1⟩ := at_T26 HR0.out x3_1 p128 q128
            obtain rfl : ad127 = ad128 := (by injection e128)
            replace p128 := eq_true p128
            replace q128 := eq_true q128
            have p129 : 0 ≤ (x3_1 : Int) := zD
            have q129 : x3_1 < (l0.length : Int) := zD
            obtain ⟨ad129, e129, hx129_0, hx129_1⟩ := at_T26 HR0.out x3_1 p129 q129
            obtain rfl : ad127 = ad129 := (by injection e129)
            replace p129 := eq_true p129
            replace q129 := eq_true q129
            have p130 : 0 ≤ (x3_1 : Int) := zD
            have q130 : x3_1 < (l0.length : Int) := zD
            obtain ⟨ad130, e130, hx130_0, hx130_1⟩ := at_T26 HR0.out x3_1 p130 q130
            obtain rfl : ad127 = ad130 := (by injection e130)
            replace p130 := eq_true p130
            replace q130 := eq_true q130
            have p131 : 0 ≤ ((ji8) : Int) := zD
            have q131 : (ji8) < (l0.length : Int) := zD
            obtain ⟨ad131, e131, hx131_0, hx131_1⟩ := at_T26 HR0.out (ji8) p131 q131
            obtain rfl : ad127 = ad131 := (by injection e131)
            replace p131 := eq_true p131
            replace q131 := eq_true q131
            have p132 : 0 ≤ (x3_1 : Int) := zD
            have q132 : x3_1 < (l0.length : Int) := zD
            obtain ⟨ad132, e132, hx132_0, hx132_1⟩ := at_T26 HR0.out x3_1 p132 q132
            obtain rfl : ad127 = ad132 := (by injection e132)
            replace p132 := eq_true p132
            replace q132 := eq_true q132
            go_wp2
            repeat (go_quiet (fail); try go_wp2)
            go_roundg k1
            case measure => have := HK1.out; omega
            case rel => exact ⟨(wrap64 (x3_1 + 1)), zS, H', ⟨by have := HK1.out; omega⟩, zW⟩
          ·rw [if_neg c10] at H
           exact absurd H (by simp)
         ·rw [if_neg c9] at H
          exact absurd H (by simp)
        ·rw [if_neg c7] at H
         have c7b0 : decide (0 < x3_1) = false := decide_eq_false c7
         clear c7
         have H' := zM H
         clear H
         have p127 : 0 ≤ (x3_1 : Int) := zD
         have q127 : x3_1 < (l0.length : Int) := zD
         obtain ⟨ad127, e127, hx127_0, hx127_1⟩ := at_T26 HR0.out x3_1 p127 q127
         cases e127
         replace p127 := eq_true p127
         replace q127 := eq_true q127
         have p128 : 0 ≤ (x3_1 : Int) := zD
         have q128 : x3_1 < (l0.length : Int) := zD
         obtain ⟨ad128, e128, hx128_0, hx128_1⟩ := at_T26 HR0.out x3_1 p128 q128
         obtain rfl : ad127 = ad128 := (by injection e128)
         replace p128 := eq_true p128
         replace q128 := eq_true q128
         have p129 : 0 ≤ (x3_1 : Int) := zD
         have q129 : x3_1 < (l0.length : Int) := zD
         obtain ⟨ad129, e129, hx129_0, hx129_1⟩ := at_T26 HR0.out x3_1 p129 q129
         obtain rfl : ad127 = ad129 := (by injection e129)
         replace p129 := eq_true p129
         replace q129 := eq_true q129
         have p130 : 0 ≤ (x3_1 : Int) := zD
         have q130 : x3_1 < (l0.length : Int) := zD
         obtain ⟨ad130, e130, hx130_0, hx130_1⟩ := at_T26 HR0.out x3_1 p130 q130
         obtain rfl : ad127 = ad130 := (by injection e130)
         replace p130 := eq_true p130
         replace q130 := eq_true q130
         go_wp2
         repeat (go_quiet (fail); try go_wp2)
         go_roundg k1
         case measure => have := HK1.out; omega
         case rel => exact ⟨(wrap64 (x3_1 + 1)), zS, H', ⟨by have := HK1.out; omega⟩, zW⟩
    ·rw [if_neg c3] at H
     exact absurd H (by simp)
   ·rw [if_neg c2] at H
    have c2b0 : decide (x3_1 < (l0.length : Int)) = false := decide_eq_false c2
    clear c2
    obtain rfl := Option.some.inj H
    go_wp2
    repeat (go_quiet (fail); try go_wp2)
    go_ret
    exact ⟨zS, zW⟩

end Go.Proofs.Yteahdfibipalkaa.G

namespace Go.Proofs.Yteahdfibipalkaa.G
open Go.RowKit Go.Proofs.YteahdfibipalkaaW.PrintWords Go.Proofs.YteahdfibipalkaaW.PrintLast Go.Proofs.YteahdfibipalkaaW.PrintMore
attribute [local go_sem] max2_int min2_int max_two min_two max_three min_three max_four min_four   -- for this text's walks alone
set_option linter.unusedVariables false
set_option linter.unusedSimpArgs false

/-- A state of type 73 at block g of W; what its slices lead to came in by w0. -/
def IsS73 (w0 W : World) (g : Nat) (f0 : List Int) (f1 : Int) (f2 : Int) : Prop := ∃ A0 c0, W.heap[g]? = some (.cells #[.slice A0 f0.length c0, .int .i64 f1, .int .i64 f2] 73 (0, 0)) ∧ w0.heap.size ≤ g ∧ Kd.C (Kd.int .u8) w0 A0 f0.length f0
theorem IsS73.grown {w0 W : World} {g : Nat} {f0 : List Int} {f1 : Int} {f2 : Int} {W1 : World} {row : Option Nat} (h : IsS73 w0 W g f0 f1 f2) (hw : W.grownBy W1 row) (hne : some g ≠ row) : IsS73 w0 W1 g f0 f1 f2 := by
 obtain ⟨A0, c0, hb, hg, hr0⟩ := h
 exact ⟨A0, c0, blk_grown hb hw hne, hg, hr0⟩
theorem IsS73.own_neN {w0 W : World} {g : Nat} {f0 : List Int} {f1 : Int} {f2 : Int} {α : Type} {d : Kd α} {e : Nat} {base : Nat} {ok : Nat → Prop} {v : Value} {xs : List α} (h : IsS73 w0 W g f0 f1 f2) (ho : Kd.N d e W base ok v xs) (ht : e ≠ 73) : some g ≠ v.ownBlock := by
 obtain ⟨A0, c0, hb, hg, hr0⟩ := h
 exact Kd.N_ne ho hb ht
theorem IsS73.fresh {w0 W : World} {g : Nat} {f0 : List Int} {f1 : Int} {f2 : Int} (h : IsS73 w0 W g f0 f1 f2) : ∀ k, W.heap.size ≤ k → k ≠ g := by
 obtain ⟨A0, c0, hb, hg, hr0⟩ := h
 exact Kd.freshB hb
theorem IsS73.kept {w0 W : World} {g : Nat} {f0 : List Int} {f1 : Int} {f2 : Int} {W1 : World} {S : Nat → Prop} (h : IsS73 w0 W g f0 f1 f2) (hk : Kept W W1 S) (hne : ¬ S g) : IsS73 w0 W1 g f0 f1 f2 := by
 obtain ⟨A0, c0, hb, hg, hr0⟩ := h
 exact ⟨A0, c0, blk_kept hb hk hne, hg, hr0⟩
theorem IsS73.below {w0 W : World} {g : Nat} {f0 : List Int} {f1 : Int} {f2 : Int} {W1 : World} (h : IsS73 w0 W g f0 f1 f2) (hw : Below W.heap.size W W1) : IsS73 w0 W1 g f0 f1 f2 := h.grown (grown_of_below hw none) (by simp)
theorem IsS73.alloc {w0 W : World} {g : Nat} {f0 : List Int} {f1 : Int} {f2 : Int} (h : IsS73 w0 W g f0 f1 f2) (o : Obj) : IsS73 w0 (W.alloc o) g f0 f1 f2 := h.below (below_alloc (Below.refl _ _) o)
theorem IsS73.drewN {w0 W : World} {g : Nat} {f0 : List Int} {f1 : Int} {f2 : Int} (h : IsS73 w0 W g f0 f1 f2) (m : Nat) : IsS73 w0 (W.drewN m) g f0 f1 f2 := h
theorem IsS73.drew {w0 W : World} {g : Nat} {f0 : List Int} {f1 : Int} {f2 : Int} (h : IsS73 w0 W g f0 f1 f2) : IsS73 w0 W.drew g f0 f1 f2 := h
theorem IsS73.at_ {w0 W : World} {g : Nat} {f0 : List Int} {f1 : Int} {f2 : Int} {w' : World} {m : Nat} (hq : W.drewN m = w') (h : IsS73 w0 W g f0 f1 f2) : IsS73 w0 w' g f0 f1 f2 := by subst hq; exact IsS73.drewN h m
theorem IsS73.apart {w0 W : World} {g : Nat} {f0 : List Int} {f1 : Int} {f2 : Int} {α : Type} {d : Kd α} {e : Nat} {base : Nat} {ok : Nat → Prop} {v : Value} {xs : List α} (h : IsS73 w0 W g f0 f1 f2) (ho : d.R e W base ok v xs) (ht : ∀ q, q ∈ e :: d.E → q ≠ 73) : d.R e W base (fun k => ok k ∧ k ≠ g) v xs := by
 obtain ⟨A0, c0, hb, hg, hr0⟩ := h
 exact Kd.R_types ho hb ht
theorem IsS73.own_ne {w0 W : World} {g : Nat} {f0 : List Int} {f1 : Int} {f2 : Int} {α : Type} {d : Kd α} {e : Nat} {base : Nat} {ok : Nat → Prop} {v : Value} {xs : List α} (h : IsS73 w0 W g f0 f1 f2) (ho : d.R e W base ok v xs) (ht : e ≠ 73) : some g ≠ v.ownBlock := by
 obtain ⟨A0, c0, hb, hg, hr0⟩ := h
 exact Kd.R_ne ho hb ht
theorem IsS73.apartQ {w0 W : World} {g : Nat} {f0 : List Int} {f1 : Int} {f2 : Int} {α : Type} {d : Kd α} {e : Nat} {base : Nat} {ok : Nat → Prop} {v : Value} {xs : List α} (h : IsS73 w0 W g f0 f1 f2) (ho : d.Q e W base ok v xs) (ht : ∀ q, q ∈ e :: d.E → q ≠ 73) : d.Q e W base (fun k => ok k ∧ k ≠ g) v xs := by
 obtain ⟨A0, c0, hb, hg, hr0⟩ := h
 exact Kd.Q_types ho hb ht
theorem IsS73.own_neQ {w0 W : World} {g : Nat} {f0 : List Int} {f1 : Int} {f2 : Int} {α : Type} {d : Kd α} {e : Nat} {base : Nat} {ok : Nat → Prop} {v : Value} {xs : List α} (h : IsS73 w0 W g f0 f1 f2) (ho : d.Q e W base ok v xs) (ht : e ≠ 73) : some g ≠ v.ownBlock := by
 obtain ⟨A0, c0, hb, hg, hr0⟩ := h
 exact Kd.Q_ne ho hb ht
theorem IsS73.apartS {w0 W : World} {g : Nat} {f0 : List Int} {f1 : Int} {f2 : Int} {α : Type} {d : Kd α} {e : Nat} {base : Nat} {ok : Nat → Prop} {v : Value} {xs : List α} (h : IsS73 w0 W g f0 f1 f2) (ho : d.S e W base ok v xs) (ht : ∀ q, q ∈ e :: d.E → q ≠ 73) : d.S e W base (fun k => ok k ∧ k ≠ g) v xs := by
 obtain ⟨A0, c0, hb, hg, hr0⟩ := h
 exact Kd.S_types ho hb ht
theorem IsS73.own_neS {w0 W : World} {g : Nat} {f0 : List Int} {f1 : Int} {f2 : Int} {α : Type} {d : Kd α} {e : Nat} {base : Nat} {ok : Nat → Prop} {v : Value} {xs : List α} (h : IsS73 w0 W g f0 f1 f2) (ho : d.S e W base ok v xs) (ht : e ≠ 73) : some g ≠ v.ownBlock := by
 obtain ⟨A0, c0, hb, hg, hr0⟩ := h
 exact Kd.S_ne ho hb ht
theorem IsS73.lt {w0 W : World} {g : Nat} {f0 : List Int} {f1 : Int} {f2 : Int} (h : IsS73 w0 W g f0 f1 f2) : g < W.heap.size := by
 obtain ⟨A0, c0, hb, hg, hr0⟩ := h
 exact blk_lt hb
theorem IsS73.ge {w0 W : World} {g : Nat} {f0 : List Int} {f1 : Int} {f2 : Int} (h : IsS73 w0 W g f0 f1 f2) : w0.heap.size ≤ g := by
 obtain ⟨A0, c0, hb, hg, hr0⟩ := h
 exact hg
theorem IsS73.ne_blk {w0 W : World} {g : Nat} {f0 : List Int} {f1 : Int} {f2 : Int} {a : Nat} {cs : Array Value} {t : TypeId} {fr : Nat × Nat} (h : IsS73 w0 W g f0 f1 f2) (hb2 : W.heap[a]? = some (.cells cs t fr)) (ht : t ≠ 73) : g ≠ a := by
 obtain ⟨A0, c0, hb, hg, hr0⟩ := h
 rintro rfl
 rw [hb] at hb2
 injection hb2 with hb2
 injection hb2 with _ ht2
 exact ht ht2.symm
theorem IsS73.far {w0 W : World} {g : Nat} {f0 : List Int} {f1 : Int} {f2 : Int} {p : Addr} (h : IsS73 w0 W g f0 f1 f2) (hne : g ≠ p.block) (u : Value) : IsS73 w0 (W.setCell p u) g f0 f1 f2 := by
 obtain ⟨A0, c0, hb, hg, hr0⟩ := h
 exact ⟨A0, c0, blk_far hb hne u, hg, hr0⟩
theorem cellS73_0 {W : World} {g : Nat} {A0 : Option Addr} {c0 : Nat} {f0 : List Int} {f1 : Int} {f2 : Int} (h : W.heap[g]? = some (.cells #[.slice A0 f0.length c0, .int .i64 f1, .int .i64 f2] 73 (0, 0))) : W.cell? ⟨g, 0, none⟩ = some (.slice A0 f0.length c0) := (blk_cell h 0).trans rfl
theorem cellS73_1 {W : World} {g : Nat} {A0 : Option Addr} {c0 : Nat} {f0 : List Int} {f1 : Int} {f2 : Int} (h : W.heap[g]? = some (.cells #[.slice A0 f0.length c0, .int .i64 f1, .int .i64 f2] 73 (0, 0))) : W.cell? ⟨g, 1, none⟩ = some (.int .i64 f1) := (blk_cell h 1).trans rfl
theorem IsS73.set_1 {w0 W : World} {g : Nat} {f0 : List Int} {f1 : Int} {f2 : Int} (h : IsS73 w0 W g f0 f1 f2) (x : Int) : IsS73 w0 (W.setCell ⟨g, 1, none⟩ (.int .i64 x)) g f0 x f2 := by
 obtain ⟨A0, c0, hb, hg, hr0⟩ := h
 exact ⟨A0, c0, by simpa using blk_set hb 1 (.int .i64 x), hg, hr0⟩
theorem cellS73_2 {W : World} {g : Nat} {A0 : Option Addr} {c0 : Nat} {f0 : List Int} {f1 : Int} {f2 : Int} (h : W.heap[g]? = some (.cells #[.slice A0 f0.length c0, .int .i64 f1, .int .i64 f2] 73 (0, 0))) : W.cell? ⟨g, 2, none⟩ = some (.int .i64 f2) := (blk_cell h 2).trans rfl
theorem IsS73.set_2 {w0 W : World} {g : Nat} {f0 : List Int} {f1 : Int} {f2 : Int} (h : IsS73 w0 W g f0 f1 f2) (x : Int) : IsS73 w0 (W.setCell ⟨g, 2, none⟩ (.int .i64 x)) g f0 f1 x := by
 obtain ⟨A0, c0, hb, hg, hr0⟩ := h
 exact ⟨A0, c0, by simpa using blk_set hb 2 (.int .i64 x), hg, hr0⟩
theorem IsS73.new (w0 W : World) (A0 : Option Addr) (c0 : Nat) (f0 : List Int) (f1 : Int) (f2 : Int) (hB : Below w0.heap.size w0 W) (hr0 : Kd.C (Kd.int .u8) w0 A0 f0.length f0) : IsS73 w0 (W.alloc (.cells #[.slice A0 f0.length c0, .int .i64 f1, .int .i64 f2] 73)) W.heap.size f0 f1 f2 := ⟨A0, c0, by simpa using heap_alloc_new W _, hB.size, hr0⟩

theorem zI73 { a b : Prop} (x : a) (h : a → b := by intro  z_; repeat (first | (with_reducible first | exact z_ | apply IsS73.alloc | apply IsS73.drewN | apply IsS73.drew | apply IsS73.set_1 | apply IsS73.set_2) | exact z_)) : b := h  x
theorem zI73_1 {s0 a b : Prop} (y0_ : s0) (x : a) (h : s0 → a → b := by intro y0_ z_; repeat (first | (with_reducible first | exact z_ | apply IsS73.alloc | apply IsS73.drewN | apply IsS73.drew | apply IsS73.set_1 | apply IsS73.set_2 | refine IsS73.far ?_ y0_ _) | exact z_)) : b := h y0_ x
theorem zI73_2 {s0 s1 a b : Prop} (y0_ : s0) (y1_ : s1) (x : a) (h : s0 → s1 → a → b := by intro y0_ y1_ z_; repeat (first | (with_reducible first | exact z_ | apply IsS73.alloc | apply IsS73.drewN | apply IsS73.drew | apply IsS73.set_1 | apply IsS73.set_2 | refine IsS73.far ?_ y0_ _ | refine IsS73.far ?_ y1_ _) | exact z_)) : b := h y0_ y1_ x
theorem zI73_3 {s0 s1 s2 a b : Prop} (y0_ : s0) (y1_ : s1) (y2_ : s2) (x : a) (h : s0 → s1 → s2 → a → b := by intro y0_ y1_ y2_ z_; repeat (first | (with_reducible first | exact z_ | apply IsS73.alloc | apply IsS73.drewN | apply IsS73.drew | apply IsS73.set_1 | apply IsS73.set_2 | refine IsS73.far ?_ y0_ _ | refine IsS73.far ?_ y1_ _ | refine IsS73.far ?_ y2_ _) | exact z_)) : b := h y0_ y1_ y2_ x
theorem zI73_4 {s0 s1 s2 s3 a b : Prop} (y0_ : s0) (y1_ : s1) (y2_ : s2) (y3_ : s3) (x : a) (h : s0 → s1 → s2 → s3 → a → b := by intro y0_ y1_ y2_ y3_ z_; repeat (first | (with_reducible first | exact z_ | apply IsS73.alloc | apply IsS73.drewN | apply IsS73.drew | apply IsS73.set_1 | apply IsS73.set_2 | refine IsS73.far ?_ y0_ _ | refine IsS73.far ?_ y1_ _ | refine IsS73.far ?_ y2_ _ | refine IsS73.far ?_ y3_ _) | exact z_)) : b := h y0_ y1_ y2_ y3_ x

/-! ### spec_l1New: function 33 -/
set_option maxHeartbeats 8000000 in
set_option maxRecDepth 100000 in
theorem spec_l1New.calls (k : Nat) (A0 : Option Addr) (c0 : Nat) (l0 : List Int) (r1 : List Int) (r2 : Int) (r3 : Int) (w0 w : World) (hB : Below w0.heap.size w0 w) (hr0 : Kd.C (Kd.int .u8) w0 A0 l0.length l0) (hc0 : l0.length ≤ c0) (h : spec_l1New.f k l0 = some (r1, r2, r3)) :
  Calls Try.prog 33 #[.slice A0 l0.length c0] w fun e w' => ∃ g_ : Nat, e = .returned (.pointer (some ⟨g_, 0, none⟩)) ∧ IsS73 w0 w' g_ r1 r2 r3 ∧ Below w0.heap.size w0 w' ∧ Below w.heap.size w w' := by
 have hu73 := Try.underlying73
 have HR0 := zM hr0
 have HC0 := zM hc0
 clear hr0 hc0
 have HBW := zM (Below.refl w.heap.size w)
 have HW0 := zM hB.size
 have HB := zM hB
 clear hB
 have H : (spec_l1New.l0 k l0 (wrap64 (271091 + (l0.length : Int))) 0) = some (r1, r2, r3) := h
 clear h
 have H' := zM H
 clear H
 go_enter Try.func33, Try.ntmps33
 go_wp2
 go_loopg [3, 4] k (fun kq v3 v4 w' => ∃ (x3_1 : Int) (x4_1 : Int), v3 = .int .i64 x3_1 ∧ v4 = .int .i64 x4_1 ∧ Aside0 (spec_l1New.l0 kq l0 x3_1 x4_1 = some (r1, r2, r3)) ∧ Aside0 (kq ≤ k) ∧ Aside0 (Below w.heap.size w w') ∧ Aside0 (Below w0.heap.size w0 w'))
 case atStart => exact ⟨(wrap64 (271091 + (l0.length : Int))), (0), zS, zS, H', ⟨Nat.le_refl _⟩, ⟨(zB HBW.out)⟩, ⟨(zB HB.out)⟩⟩
 case round =>
  clear H'
  obtain ⟨x3_1, x4_1, rfl, rfl, HA, HK1, HBW, HB⟩ := hrel
  cases gk with
  | zero => exact absurd HA.out (by simp [spec_l1New.l0])
  | succ k1 =>
   have H := HA.out
   clear HA
   simp only [spec_l1New.l0] at H
   by_cases c2 : x4_1 < (l0.length : Int)
   ·rw [if_pos c2] at H
    have c2b0 : decide (x4_1 < (l0.length : Int)) = true := decide_eq_true c2
    clear c2
    by_cases c3 : x4_1 < 4000
    ·rw [if_pos c3] at H
     have c3b0 : decide (x4_1 < 4000) = true := decide_eq_true c3
     clear c3
     by_cases c4 : 0 ≤ x4_1
     ·rw [if_pos c4] at H
      have c4b0 : decide (0 ≤ x4_1) = true := decide_eq_true c4
      clear c4
      have H' := zM H
      clear H
      have p101 : 0 ≤ (x4_1 : Int) := zD
      have q101 : x4_1 < (l0.length : Int) := zD
      obtain ⟨ad101, e101, hx101_0⟩ := Kd.at_int HR0.out x4_1 p101 q101
      cases e101
      replace hx101_0 := pw_cell_below HB.out hx101_0
      replace p101 := eq_true p101
      replace q101 := eq_true q101
      go_wp2
      go_roundg k1
      case measure => have := HK1.out; omega
      case rel => exact ⟨(Go.bits .and .i64 (wrap64 ((wrap64 ((wrap64 (x3_1 * 139)) + (wrap64 (rd l0 x4_1)))) + 11)) 1073741823), (wrap64 (x4_1 + 1)), zS, zS, H', ⟨by have := HK1.out; omega⟩, ⟨(zB HBW.out)⟩, ⟨(zB HB.out)⟩⟩
     ·rw [if_neg c4] at H
      exact absurd H (by simp)
    ·rw [if_neg c3] at H
     have c3b0 : decide (x4_1 < 4000) = false := decide_eq_false c3
     clear c3
     simp only [Option.some.injEq, Prod.mk.injEq] at H
     obtain ⟨rfl, rfl, rfl⟩ := H
     go_wp2_with (first | ((with_reducible refine gate_dst (N := 31) rfl ?_); refine box_event ?hg (N := 31) ?hd (cs := #[.slice A0 l0.length c0, .int .i64 0, .int .i64 x3_1]) (t := 73) ?hr ?_; (case hd => rfl); (case hg => rfl); (case hr => first | (go_simp; done) | (go_simp; rfl)); intro gb102 hg w5 hbox hb; have n0_ := zM (below_step HBW.out hb); have n1_ := zM (below_step (zB HB.out) hb); have n2_ := zM (hbox); have n3_ := zM ((by rw [hg]; exact (below_size (zB HBW.out)) : w.heap.size ≤ gb102)); have n4_ := zM ((Nat.le_trans HW0.out (by rw [hg]; exact (below_size (zB HBW.out)) : w.heap.size ≤ gb102) : w0.heap.size ≤ gb102)); clear HBW; clear HB; have HBW := n0_; have HB := n1_; have BK102 := n2_; have GW102 := n3_; have GE102 := n4_; clear n0_ n1_ n2_ n3_ n4_; clear hb hbox hg))
     go_ret
     exact ⟨_, rfl, (show IsS73 w0 _ gb102 l0 0 x3_1 from ⟨_, _, (zP BK102.out), GE102.out, HR0.out⟩), (zB1 GE102.out HB.out), (zB1 GW102.out HBW.out)⟩
   ·rw [if_neg c2] at H
    have c2b0 : decide (x4_1 < (l0.length : Int)) = false := decide_eq_false c2
    clear c2
    simp only [Option.some.injEq, Prod.mk.injEq] at H
    obtain ⟨rfl, rfl, rfl⟩ := H
    go_wp2_with (first | ((with_reducible refine gate_dst (N := 31) rfl ?_); refine box_event ?hg (N := 31) ?hd (cs := #[.slice A0 l0.length c0, .int .i64 0, .int .i64 x3_1]) (t := 73) ?hr ?_; (case hd => rfl); (case hg => rfl); (case hr => first | (go_simp; done) | (go_simp; rfl)); intro gb103 hg w6 hbox hb; have n0_ := zM (below_step HBW.out hb); have n1_ := zM (below_step (zB HB.out) hb); have n2_ := zM (hbox); have n3_ := zM ((by rw [hg]; exact (below_size (zB HBW.out)) : w.heap.size ≤ gb103)); have n4_ := zM ((Nat.le_trans HW0.out (by rw [hg]; exact (below_size (zB HBW.out)) : w.heap.size ≤ gb103) : w0.heap.size ≤ gb103)); clear HBW; clear HB; have HBW := n0_; have HB := n1_; have BK103 := n2_; have GW103 := n3_; have GE103 := n4_; clear n0_ n1_ n2_ n3_ n4_; clear hb hbox hg))
    go_ret
    exact ⟨_, rfl, (show IsS73 w0 _ gb103 l0 0 x3_1 from ⟨_, _, (zP BK103.out), GE103.out, HR0.out⟩), (zB1 GE103.out HB.out), (zB1 GW103.out HBW.out)⟩

end Go.Proofs.Yteahdfibipalkaa.G

namespace Go.Proofs.Yteahdfibipalkaa.G
open Go.RowKit Go.Proofs.YteahdfibipalkaaW.PrintWords Go.Proofs.YteahdfibipalkaaW.PrintLast Go.Proofs.YteahdfibipalkaaW.PrintMore
attribute [local go_sem] max2_int min2_int max_two min_two max_three min_three max_four min_four   -- for this text's walks alone
set_option linter.unusedVariables false
set_option linter.unusedSimpArgs false

/-! ### spec_l1Byte: function 54 -/
set_option maxHeartbeats 8000000 in
set_option maxRecDepth 100000 in
theorem spec_l1Byte.calls (g : Nat) (s0_0 : List Int) (s0_1 : Int) (s0_2 : Int) (r1 : Int) (r2 : Int) (r3 : Int) (w0 w : World) (hI : IsS73 w0 w g s0_0 s0_1 s0_2) (hB : Below w0.heap.size w0 w) (h : spec_l1Byte.f s0_0 s0_1 s0_2 = some (r1, r2, r3)) :
  Calls Try.prog 54 #[.pointer (some ⟨g, 0, none⟩)] w fun e w' => e = .returned (.int .i64 r1) ∧ IsS73 w0 w' g s0_0 r2 r3 ∧ Below w0.heap.size w0 w' ∧ KeepBut w w' g none := by
 have HI0 := zM hI
 have HK := zM (KeepBut.refl w g none)
 have HL := zM hB.size
 clear hI
 have HW0 := zM hB.size
 have HB := zM hB
 clear hB
 have H : (if s0_1 < (s0_0.length : Int) then (if 0 ≤ s0_1 then (some (Go.bits .and .i64 (wrap64 ((Go.bits .and .i64 (Go.bits .xor .i64 ((wrap64 ((wrap64 (s0_2 * 6364136223846793005)) + 1442695040888963407)) / 8589934592) ((wrap64 ((wrap64 (s0_2 * 6364136223846793005)) + 1442695040888963407)) / 140737488355328)) 255) + (wrap64 (rd s0_0 s0_1)))) 255, wrap64 (s0_1 + 1), wrap64 ((wrap64 (s0_2 * 6364136223846793005)) + 1442695040888963407))) else (none)) else (some (Go.bits .and .i64 (Go.bits .xor .i64 ((wrap64 ((wrap64 (s0_2 * 6364136223846793005)) + 1442695040888963407)) / 8589934592) ((wrap64 ((wrap64 (s0_2 * 6364136223846793005)) + 1442695040888963407)) / 140737488355328)) 255, s0_1, wrap64 ((wrap64 (s0_2 * 6364136223846793005)) + 1442695040888963407)))) = some (r1, r2, r3) := h
 clear h
 by_cases c2 : s0_1 < (s0_0.length : Int)
 ·rw [if_pos c2] at H
  have c2b0 : decide (s0_1 < (s0_0.length : Int)) = true := decide_eq_true c2
  clear c2
  by_cases c3 : 0 ≤ s0_1
  ·rw [if_pos c3] at H
   have c3b0 : decide (0 ≤ s0_1) = true := decide_eq_true c3
   clear c3
   simp only [Option.some.injEq, Prod.mk.injEq] at H
   obtain ⟨rfl, rfl, rfl⟩ := H
   obtain ⟨ASz4_0, cSz4_0, HGz4, hgz4, HSz4_0⟩ := HI0.out
   have hcz4_0 := cellS73_0 HGz4
   have hcz4_1 := cellS73_1 HGz4
   have hcz4_2 := cellS73_2 HGz4
   have hfz4_1 := blk_frozen HGz4 1
   have hfz4_2 := blk_frozen HGz4 2
   clear HGz4 hgz4
   have p104 : 0 ≤ (s0_1 : Int) := zD
   have q104 : s0_1 < (s0_0.length : Int) := zD
   obtain ⟨ad104, e104, hx104_0⟩ := Kd.at_int HSz4_0 s0_1 p104 q104
   cases e104
   have hn104_0 : ad104.block ≠ g := Nat.ne_of_lt (Nat.lt_of_lt_of_le (by have := World.block_lt_of_cell? _ _ hx104_0; first | rwa [add_block] at this | exact this) (IsS73.ge HI0.out))
   replace hx104_0 := pw_cell_below HB.out hx104_0
   replace hx104_0 := (cell_far (p := ⟨g, 2, none⟩) (by first | (rw [add_block]; exact hn104_0) | (show (Addr.add _ _).block ≠ _; rw [add_block]; exact hn104_0) | exact hn104_0) (.int .i64 (wrap64 ((wrap64 (s0_2 * 6364136223846793005)) + 1442695040888963407)))).trans hx104_0
   (try have hy104_0 := fun (n_ : Nat) => (show (((w.drewN n_).setCell ⟨g, 2, none⟩ (.int .i64 (wrap64 ((wrap64 (s0_2 * 6364136223846793005)) + 1442695040888963407))))).cell? _ = some _ from hx104_0))
   clear hn104_0
   replace p104 := eq_true p104
   replace q104 := eq_true q104
   go_enter Try.func54, Try.ntmps54
   go_wp2
   repeat (go_quiet (fail); try go_wp2)
   go_ret
   exact ⟨zE, (zI73 HI0.out), (zB1 (IsS73.ge HI0.out) HB.out), (zU HK.out)⟩
  ·rw [if_neg c3] at H
   exact absurd H (by simp)
 ·rw [if_neg c2] at H
  have c2b0 : decide (s0_1 < (s0_0.length : Int)) = false := decide_eq_false c2
  clear c2
  simp only [Option.some.injEq, Prod.mk.injEq] at H
  obtain ⟨rfl, rfl, rfl⟩ := H
  obtain ⟨ASz5_0, cSz5_0, HGz5, hgz5, HSz5_0⟩ := HI0.out
  have hcz5_0 := cellS73_0 HGz5
  have hcz5_1 := cellS73_1 HGz5
  have hcz5_2 := cellS73_2 HGz5
  have hfz5_1 := blk_frozen HGz5 1
  have hfz5_2 := blk_frozen HGz5 2
  clear HGz5 hgz5
  go_enter Try.func54, Try.ntmps54
  go_wp2
  repeat (go_quiet (fail); try go_wp2)
  go_ret
  exact ⟨zE, (zI73 HI0.out), (zB1 (IsS73.ge HI0.out) HB.out), (zU HK.out)⟩

end Go.Proofs.Yteahdfibipalkaa.G

namespace Go.Proofs.Yteahdfibipalkaa.G
open Go.RowKit Go.Proofs.YteahdfibipalkaaW.PrintWords Go.Proofs.YteahdfibipalkaaW.PrintLast Go.Proofs.YteahdfibipalkaaW.PrintMore
attribute [local go_sem] max2_int min2_int max_two min_two max_three min_three max_four min_four   -- for this text's walks alone
set_option linter.unusedVariables false
set_option linter.unusedSimpArgs false

/-! ### spec_l1Below: function 41 -/
set_option maxHeartbeats 8000000 in
set_option maxRecDepth 100000 in
theorem spec_l1Below.calls (g : Nat) (s0_0 : List Int) (s0_1 : Int) (s0_2 : Int) (a1 : Int) (r1 : Int) (r2 : Int) (r3 : Int) (w0 w : World) (hI : IsS73 w0 w g s0_0 s0_1 s0_2) (hB : Below w0.heap.size w0 w) (h : spec_l1Below.f s0_0 s0_1 s0_2 a1 = some (r1, r2, r3)) :
  Calls Try.prog 41 #[.pointer (some ⟨g, 0, none⟩), .int .i64 a1] w fun e w' => e = .returned (.int .i64 r1) ∧ IsS73 w0 w' g s0_0 r2 r3 ∧ Below w0.heap.size w0 w' ∧ KeepBut w w' g none := by
 have HI0 := zM hI
 have HK := zM (KeepBut.refl w g none)
 have HL := zM hB.size
 clear hI
 have HW0 := zM hB.size
 have HB := zM hB
 clear hB
 have H : (if a1 ≤ 0 then (some (0, s0_1, s0_2)) else (if a1 ≤ 256 then ((spec_l1Byte.f s0_0 s0_1 s0_2).bind fun bt105 => (if a1 = 0 then (none) else (some (Int.tmod bt105.1 a1, bt105.2.1, bt105.2.2)))) else ((spec_l1Byte.f s0_0 s0_1 s0_2).bind fun bt108 => ((spec_l1Byte.f s0_0 bt108.2.1 bt108.2.2).bind fun bt111 => ((spec_l1Byte.f s0_0 bt111.2.1 bt111.2.2).bind fun bt114 => (if a1 = 0 then (none) else (some (Int.tmod (wrap64 ((wrap64 ((wrap64 (bt108.1 * 65536)) + (wrap64 (bt111.1 * 256)))) + bt114.1)) a1, bt114.2.1, bt114.2.2)))))))) = some (r1, r2, r3) := h
 clear h
 by_cases c3 : a1 ≤ 0
 ·rw [if_pos c3] at H
  have c3b0 : decide (a1 ≤ 0) = true := decide_eq_true c3
  clear c3
  simp only [Option.some.injEq, Prod.mk.injEq] at H
  obtain ⟨rfl, rfl, rfl⟩ := H
  go_enter Try.func41, Try.ntmps41
  go_wp2
  go_ret
  exact ⟨zE, (zI73 HI0.out), (zB1 (IsS73.ge HI0.out) HB.out), (zU HK.out)⟩
 ·rw [if_neg c3] at H
  have c3b0 : decide (a1 ≤ 0) = false := decide_eq_false c3
  clear c3
  by_cases c4 : a1 ≤ 256
  ·rw [if_pos c4] at H
   have c4b0 : decide (a1 ≤ 256) = true := decide_eq_true c4
   clear c4
   replace H := Option.bind_eq_some_iff.mp H
   obtain ⟨⟨t105, t106, t107⟩, A50, H⟩ := H
   try dsimp only at H
   have A5 := zM A50
   clear A50
   by_cases c6 : a1 = 0
   ·rw [if_pos c6] at H
    exact absurd H (by simp)
   ·rw [if_neg c6] at H
    have c6b0 : (a1 == 0) = false := beq_eq_false_iff_ne.mpr c6
    have c6b1 : (a1 != 0) = true := bne_iff_ne.mpr c6
    simp only [Option.some.injEq, Prod.mk.injEq] at H
    obtain ⟨rfl, rfl, rfl⟩ := H
    go_enter Try.func41, Try.ntmps41
    go_wp2_with (first | ((with_reducible refine gate_callee (f := 54) rfl ?_); refine zG (some 13) Try.func54 #[.pointer (some ⟨g, 0, none⟩)] ?_; (with_reducible refine (spec_l1Byte.calls g s0_0 s0_1 s0_2 t105 t106 t107 w0 _ ?side1 ?side2 A5.out).mono ?_); (case side1 => exact (zI73 HI0.out)); (case side2 => exact (zB1 (IsS73.ge HI0.out) HB.out)); rintro e w7 ⟨rfl, hi, hb, hk⟩; refine ⟨_, rfl, ?_⟩; have n0_ := zM (KeepBut.trans (zU HK.out) hk (.inl rfl)); have n1_ := zM (hb); have n2_ := zM (hi); clear HK; clear HB; clear HI0; have HK := n0_; have HB := n1_; have HI0 := n2_; clear n0_ n1_ n2_; (try clear hb); (try clear hb2); (try clear hk); (try clear hi)))
    go_ret
    exact ⟨zE, (zI73 HI0.out), (zB1 (IsS73.ge HI0.out) HB.out), (zU HK.out)⟩
  ·rw [if_neg c4] at H
   have c4b0 : decide (a1 ≤ 256) = false := decide_eq_false c4
   clear c4
   replace H := Option.bind_eq_some_iff.mp H
   obtain ⟨⟨t108, t109, t110⟩, A80, H⟩ := H
   try dsimp only at H
   have A8 := zM A80
   clear A80
   replace H := Option.bind_eq_some_iff.mp H
   obtain ⟨⟨t111, t112, t113⟩, A90, H⟩ := H
   try dsimp only at H
   have A9 := zM A90
   clear A90
   replace H := Option.bind_eq_some_iff.mp H
   obtain ⟨⟨t114, t115, t116⟩, A100, H⟩ := H
   try dsimp only at H
   have A10 := zM A100
   clear A100
   by_cases c11 : a1 = 0
   ·rw [if_pos c11] at H
    exact absurd H (by simp)
   ·rw [if_neg c11] at H
    have c11b0 : (a1 == 0) = false := beq_eq_false_iff_ne.mpr c11
    have c11b1 : (a1 != 0) = true := bne_iff_ne.mpr c11
    simp only [Option.some.injEq, Prod.mk.injEq] at H
    obtain ⟨rfl, rfl, rfl⟩ := H
    go_enter Try.func41, Try.ntmps41
    go_wp2_with (first | ((with_reducible refine gate_callee (f := 54) rfl ?_); refine zG (some 17) Try.func54 #[.pointer (some ⟨g, 0, none⟩)] ?_; (with_reducible refine (spec_l1Byte.calls g s0_0 s0_1 s0_2 t108 t109 t110 w0 _ ?side1 ?side2 A8.out).mono ?_); (case side1 => exact (zI73 HI0.out)); (case side2 => exact (zB1 (IsS73.ge HI0.out) HB.out)); rintro e w12 ⟨rfl, hi, hb, hk⟩; refine ⟨_, rfl, ?_⟩; have n0_ := zM (KeepBut.trans (zU HK.out) hk (.inl rfl)); have n1_ := zM (hb); have n2_ := zM (hi); clear HK; clear HB; clear HI0; have HK := n0_; have HB := n1_; have HI0 := n2_; clear n0_ n1_ n2_; (try clear hb); (try clear hb2); (try clear hk); (try clear hi)) | ((with_reducible refine gate_callee (f := 54) rfl ?_); refine zG (some 19) Try.func54 #[.pointer (some ⟨g, 0, none⟩)] ?_; (with_reducible refine (spec_l1Byte.calls g s0_0 t109 t110 t111 t112 t113 w0 _ ?side1 ?side2 A9.out).mono ?_); (case side1 => exact (zI73 HI0.out)); (case side2 => exact (zB1 (IsS73.ge HI0.out) HB.out)); rintro e w13 ⟨rfl, hi, hb, hk⟩; refine ⟨_, rfl, ?_⟩; have n0_ := zM (KeepBut.trans (zU HK.out) hk (.inl rfl)); have n1_ := zM (hb); have n2_ := zM (hi); clear HK; clear HB; clear HI0; have HK := n0_; have HB := n1_; have HI0 := n2_; clear n0_ n1_ n2_; (try clear hb); (try clear hb2); (try clear hk); (try clear hi)) | ((with_reducible refine gate_callee (f := 54) rfl ?_); refine zG (some 21) Try.func54 #[.pointer (some ⟨g, 0, none⟩)] ?_; (with_reducible refine (spec_l1Byte.calls g s0_0 t112 t113 t114 t115 t116 w0 _ ?side1 ?side2 A10.out).mono ?_); (case side1 => exact (zI73 HI0.out)); (case side2 => exact (zB1 (IsS73.ge HI0.out) HB.out)); rintro e w14 ⟨rfl, hi, hb, hk⟩; refine ⟨_, rfl, ?_⟩; have n0_ := zM (KeepBut.trans (zU HK.out) hk (.inl rfl)); have n1_ := zM (hb); have n2_ := zM (hi); clear HK; clear HB; clear HI0; have HK := n0_; have HB := n1_; have HI0 := n2_; clear n0_ n1_ n2_; (try clear hb); (try clear hb2); (try clear hk); (try clear hi)))
    go_ret
    exact ⟨zE, (zI73 HI0.out), (zB1 (IsS73.ge HI0.out) HB.out), (zU HK.out)⟩

end Go.Proofs.Yteahdfibipalkaa.G

namespace Go.Proofs.Yteahdfibipalkaa.G
open Go.RowKit Go.Proofs.YteahdfibipalkaaW.PrintWords Go.Proofs.YteahdfibipalkaaW.PrintLast Go.Proofs.YteahdfibipalkaaW.PrintMore
attribute [local go_sem] max2_int min2_int max_two min_two max_three min_three max_four min_four   -- for this text's walks alone
set_option linter.unusedVariables false
set_option linter.unusedSimpArgs false

/-! ### spec_l9Span: function 35 -/
set_option maxHeartbeats 8000000 in
set_option maxRecDepth 100000 in
theorem spec_l9Span.calls (g : Nat) (s0_0 : List Int) (s0_1 : Int) (s0_2 : Int) (r1 : Int) (r2 : Int) (r3 : Int) (r4 : Int) (w0 w : World) (hI : IsS73 w0 w g s0_0 s0_1 s0_2) (hB : Below w0.heap.size w0 w) (h : spec_l9Span.f s0_0 s0_1 s0_2 = some (r1, r2, r3, r4)) :
  Calls Try.prog 35 #[.pointer (some ⟨g, 0, none⟩)] w fun e w' => e = .returned (.agg #[.int .i64 r1, .int .i64 r2]) ∧ IsS73 w0 w' g s0_0 r3 r4 ∧ Below w0.heap.size w0 w' ∧ KeepBut w w' g none := by
 have hu26 := Try.underlying26
 have HI0 := zM hI
 have HK := zM (KeepBut.refl w g none)
 have HL := zM hB.size
 clear hI
 have HW0 := zM hB.size
 have HB := zM hB
 clear hB
 have H : ((spec_l1Below.f s0_0 s0_1 s0_2 16).bind fun bt118 => ((spec_l1Below.f s0_0 bt118.2.1 bt118.2.2 6).bind fun bt121 => (some (bt118.1, wrap64 (bt118.1 + bt121.1), bt121.2.1, bt121.2.2)))) = some (r1, r2, r3, r4) := h
 clear h
 replace H := Option.bind_eq_some_iff.mp H
 obtain ⟨⟨t118, t119, t120⟩, A20, H⟩ := H
 try dsimp only at H
 have A2 := zM A20
 clear A20
 replace H := Option.bind_eq_some_iff.mp H
 obtain ⟨⟨t121, t122, t123⟩, A30, H⟩ := H
 try dsimp only at H
 have A3 := zM A30
 clear A30
 simp only [Option.some.injEq, Prod.mk.injEq] at H
 obtain ⟨rfl, rfl, rfl, rfl⟩ := H
 go_enter Try.func35, Try.ntmps35
 go_wp2_with (first | ((with_reducible refine gate_dst (N := 2) rfl ?_); refine box_event ?hg (N := 2) ?hd (cs := #[.int .i64 0, .int .i64 0]) (t := 26) ?hr ?_; (case hd => rfl); (case hg => rfl); (case hr => first | (go_simp; done) | (go_simp; rfl)); intro gb117 hg w4 hbox hb; have n0_ := zM (IsS73.below (zI73 HI0.out) hb); have n1_ := zM (KeepBut.trans (zU HK.out) (KeepBut.of_below hb g none) (.inl rfl)); have n2_ := zM (below_step (zB1 (IsS73.ge HI0.out) HB.out) hb); have n3_ := zM (hbox); have n4_ := zM ((by rw [hg]; exact (keep_size (w := w) (g := g) (row := none) (zU HK.out)) : w.heap.size ≤ gb117)); have n5_ := zM ((Nat.le_trans HW0.out (by rw [hg]; exact (keep_size (w := w) (g := g) (row := none) (zU HK.out)) : w.heap.size ≤ gb117) : w0.heap.size ≤ gb117)); have n6_ := zM ((by rw [hg]; exact Nat.ne_of_lt (IsS73.lt (show IsS73 w0 _ g s0_0 s0_1 s0_2 from (zI73 HI0.out))) : g ≠ gb117)); have n7_ := zM ((by rw [hg]; exact Nat.ne_of_gt (IsS73.lt (show IsS73 w0 _ g s0_0 s0_1 s0_2 from (zI73 HI0.out))) : gb117 ≠ g)); clear HI0; clear HK; clear HB; have HI0 := n0_; have HK := n1_; have HB := n2_; have BK117 := n3_; have GW117 := n4_; have GE117 := n5_; have NB0_117 := n6_; have NB117_0 := n7_; clear n0_ n1_ n2_ n3_ n4_ n5_ n6_ n7_; clear hb hbox hg) | ((with_reducible refine gate_callee (f := 41) rfl ?_); refine zG (some 5) Try.func41 #[.pointer (some ⟨g, 0, none⟩), .int .i64 16] ?_; (with_reducible refine (spec_l1Below.calls g s0_0 s0_1 s0_2 16 t118 t119 t120 w0 _ ?side1 ?side2 A2.out).mono ?_); (case side1 => exact (zI73_1 NB0_117.out HI0.out)); (case side2 => exact (zB2 (IsS73.ge HI0.out) GE117.out HB.out)); rintro e w5 ⟨rfl, hi, hb, hk⟩; refine ⟨_, rfl, ?_⟩; have n0_ := zM (KeepBut.blk hk (g' := gb117) (o := .cells #[.int .i64 0, .int .i64 0] 26 (0, 0)) (zP BK117.out) NB117_0.out (by simp)); have n1_ := zM (KeepBut.trans (zU1 GW117.out HK.out) hk (.inl rfl)); have n2_ := zM (hb); have n3_ := zM (hi); clear BK117; clear HK; clear HB; clear HI0; have BK117 := n0_; have HK := n1_; have HB := n2_; have HI0 := n3_; clear n0_ n1_ n2_ n3_; (try clear hb); (try clear hb2); (try clear hk); (try clear hi)) | ((with_reducible refine gate_callee (f := 41) rfl ?_); refine zG (some 9) Try.func41 #[.pointer (some ⟨g, 0, none⟩), .int .i64 6] ?_; (with_reducible refine (spec_l1Below.calls g s0_0 t119 t120 6 t121 t122 t123 w0 _ ?side1 ?side2 A3.out).mono ?_); (case side1 => exact (zI73_1 NB0_117.out HI0.out)); (case side2 => exact (zB2 (IsS73.ge HI0.out) GE117.out HB.out)); rintro e w6 ⟨rfl, hi, hb, hk⟩; refine ⟨_, rfl, ?_⟩; have n0_ := zM (KeepBut.blk hk (g' := gb117) (o := .cells #[.int .i64 0, .int .i64 0] 26 (0, 0)) (zP BK117.out) NB117_0.out (by simp)); have n1_ := zM (KeepBut.trans (zU1 GW117.out HK.out) hk (.inl rfl)); have n2_ := zM (hb); have n3_ := zM (hi); clear BK117; clear HK; clear HB; clear HI0; have BK117 := n0_; have HK := n1_; have HB := n2_; have HI0 := n3_; clear n0_ n1_ n2_ n3_; (try clear hb); (try clear hb2); (try clear hk); (try clear hi); have hnb7 := NB117_0.out; have hnc7 := NB0_117.out; have hcz8_0 : w6.cell? ⟨gb117, 0, none⟩ = some (.int .i64 0) := (blk_cell BK117.out 0).trans rfl; have hcz8_1 : w6.cell? ⟨gb117, 1, none⟩ = some (.int .i64 0) := (blk_cell BK117.out 1).trans rfl; have hfz8_0 := blk_frozen BK117.out 0; have hfz8_1 := blk_frozen BK117.out 1))
 refine bodyPost_ret (results_cell_row rfl _ _ gb117 26 #[.int .i64 t118, .int .i64 (wrap64 (t118 + t121))] (0, 0) _ rfl (by (with_reducible repeat (first | refine blk_drewN ?_ _ | refine blk_drew ?_ | refine blk_alloc ?_ _)); refine blk_put (cs := #[.int .i64 t118, .int .i64 0]) ?_ 1 _ rfl; (with_reducible repeat (first | refine blk_drewN ?_ _ | refine blk_drew ?_ | refine blk_alloc ?_ _)); refine blk_put (cs := #[.int .i64 0, .int .i64 0]) ?_ 0 _ rfl; (with_reducible repeat (first | refine blk_drewN ?_ _ | refine blk_drew ?_ | refine blk_alloc ?_ _)); exact BK117.out) Try.underlying26 rfl (by kernel_rfl)) rfl ?_
 exact ⟨zE, (zI73_1 NB0_117.out HI0.out), (zB2 (IsS73.ge HI0.out) GE117.out HB.out), (zU1 GW117.out HK.out)⟩

end Go.Proofs.Yteahdfibipalkaa.G

namespace Go.Proofs.Yteahdfibipalkaa.G
open Go.RowKit Go.Proofs.YteahdfibipalkaaW.PrintWords Go.Proofs.YteahdfibipalkaaW.PrintLast Go.Proofs.YteahdfibipalkaaW.PrintMore
attribute [local go_sem] max2_int min2_int max_two min_two max_three min_three max_four min_four   -- for this text's walks alone
set_option linter.unusedVariables false
set_option linter.unusedSimpArgs false

/-! ### spec_l1Once: function 36 -/
set_option maxHeartbeats 8000000 in
set_option maxRecDepth 100000 in
theorem spec_l1Once.calls (g : Nat) (s0_0 : List Int) (s0_1 : Int) (s0_2 : Int) (a1 : Int) (r1 : Bool) (r2 : Int) (r3 : Int) (w0 w : World) (hI : IsS73 w0 w g s0_0 s0_1 s0_2) (hB : Below w0.heap.size w0 w) (h : spec_l1Once.f s0_0 s0_1 s0_2 a1 = some (r1, r2, r3)) :
  Calls Try.prog 36 #[.pointer (some ⟨g, 0, none⟩), .int .i64 a1] w fun e w' => e = .returned (.bool r1) ∧ IsS73 w0 w' g s0_0 r2 r3 ∧ Below w0.heap.size w0 w' ∧ KeepBut w w' g none := by
 have HI0 := zM hI
 have HK := zM (KeepBut.refl w g none)
 have HL := zM hB.size
 clear hI
 have HW0 := zM hB.size
 have HB := zM hB
 clear hB
 have H : ((spec_l1Below.f s0_0 s0_1 s0_2 a1).bind fun bt124 => (some ((bt124.1 == 0), bt124.2.1, bt124.2.2))) = some (r1, r2, r3) := h
 clear h
 replace H := Option.bind_eq_some_iff.mp H
 obtain ⟨⟨t124, t125, t126⟩, A30, H⟩ := H
 try dsimp only at H
 have A3 := zM A30
 clear A30
 simp only [Option.some.injEq, Prod.mk.injEq] at H
 obtain ⟨rfl, rfl, rfl⟩ := H
 go_enter Try.func36, Try.ntmps36
 go_wp2_with (first | ((with_reducible refine gate_callee (f := 41) rfl ?_); refine zG (some 7) Try.func41 #[.pointer (some ⟨g, 0, none⟩), .int .i64 a1] ?_; (with_reducible refine (spec_l1Below.calls g s0_0 s0_1 s0_2 a1 t124 t125 t126 w0 _ ?side1 ?side2 A3.out).mono ?_); (case side1 => exact (zI73 HI0.out)); (case side2 => exact (zB1 (IsS73.ge HI0.out) HB.out)); rintro e w4 ⟨rfl, hi, hb, hk⟩; refine ⟨_, rfl, ?_⟩; have n0_ := zM (KeepBut.trans (zU HK.out) hk (.inl rfl)); have n1_ := zM (hb); have n2_ := zM (hi); clear HK; clear HB; clear HI0; have HK := n0_; have HB := n1_; have HI0 := n2_; clear n0_ n1_ n2_; (try clear hb); (try clear hb2); (try clear hk); (try clear hi)))
 go_ret
 exact ⟨zE, (zI73 HI0.out), (zB1 (IsS73.ge HI0.out) HB.out), (zU HK.out)⟩

end Go.Proofs.Yteahdfibipalkaa.G

namespace Go.Proofs.Yteahdfibipalkaa.G
open Go.RowKit Go.Proofs.YteahdfibipalkaaW.PrintWords Go.Proofs.YteahdfibipalkaaW.PrintLast Go.Proofs.YteahdfibipalkaaW.PrintMore
attribute [local go_sem] max2_int min2_int max_two min_two max_three min_three max_four min_four   -- for this text's walks alone
set_option linter.unusedVariables false
set_option linter.unusedSimpArgs false

/-! ### spec_Min: function 55 -/
set_option maxHeartbeats 8000000 in
set_option maxRecDepth 100000 in
theorem spec_Min.calls (a0 : Int) (a1 : Int) (r : Int) (w : World) (h : spec_Min.f a0 a1 = some r) :
  Calls Try.prog 55 #[.int .i64 a0, .int .i64 a1] w fun e w' => e = .returned (.int .i64 r) ∧ Drawn0 w w' := by
 have H : (if a1 < a0 then (some a1) else (some a0)) = some r := h
 clear h
 by_cases c3 : a1 < a0
 ·rw [if_pos c3] at H
  have c3b0 : decide (a1 < a0) = true := decide_eq_true c3
  clear c3
  obtain rfl := Option.some.inj H
  go_enter Try.func55, Try.ntmps55
  go_wp2
  go_ret
  exact ⟨zS, zW⟩
 ·rw [if_neg c3] at H
  have c3b0 : decide (a1 < a0) = false := decide_eq_false c3
  clear c3
  obtain rfl := Option.some.inj H
  go_enter Try.func55, Try.ntmps55
  go_wp2
  go_ret
  exact ⟨zS, zW⟩

end Go.Proofs.Yteahdfibipalkaa.G

namespace Go.Proofs.Yteahdfibipalkaa.G
open Go.RowKit Go.Proofs.YteahdfibipalkaaW.PrintWords Go.Proofs.YteahdfibipalkaaW.PrintLast Go.Proofs.YteahdfibipalkaaW.PrintMore
attribute [local go_sem] max2_int min2_int max_two min_two max_three min_three max_four min_four   -- for this text's walks alone
set_option linter.unusedVariables false
set_option linter.unusedSimpArgs false

/-! ### spec_Max: function 56 -/
set_option maxHeartbeats 8000000 in
set_option maxRecDepth 100000 in
theorem spec_Max.calls (a0 : Int) (a1 : Int) (r : Int) (w : World) (h : spec_Max.f a0 a1 = some r) :
  Calls Try.prog 56 #[.int .i64 a0, .int .i64 a1] w fun e w' => e = .returned (.int .i64 r) ∧ Drawn0 w w' := by
 have H : (if a1 > a0 then (some a1) else (some a0)) = some r := h
 clear h
 by_cases c3 : a1 > a0
 ·rw [if_pos c3] at H
  have c3b0 : decide (a0 < a1) = true := decide_eq_true c3
  clear c3
  obtain rfl := Option.some.inj H
  go_enter Try.func56, Try.ntmps56
  go_wp2
  go_ret
  exact ⟨zS, zW⟩
 ·rw [if_neg c3] at H
  have c3b0 : decide (a0 < a1) = false := decide_eq_false c3
  clear c3
  obtain rfl := Option.some.inj H
  go_enter Try.func56, Try.ntmps56
  go_wp2
  go_ret
  exact ⟨zS, zW⟩

end Go.Proofs.Yteahdfibipalkaa.G

namespace Go.Proofs.Yteahdfibipalkaa.G
open Go.RowKit Go.Proofs.YteahdfibipalkaaW.PrintWords Go.Proofs.YteahdfibipalkaaW.PrintLast Go.Proofs.YteahdfibipalkaaW.PrintMore
attribute [local go_sem] max2_int min2_int max_two min_two max_three min_three max_four min_four   -- for this text's walks alone
set_option linter.unusedVariables false
set_option linter.unusedSimpArgs false

/-! ### spec_AddSpan: function 43 -/
def spec_AddSpan.T7 : Bool × List (List Nat × List Nat) := (true, [([], []), ([], []), ([0, 1], [0, 1]), ([2], [2]), ([3], [3]), ([], []), ([5], [5]), ([4, 6], [4, 6])])
def spec_AddSpan.B7 : List Nat := [0, 0, 3, 7, 15, 0, 32, 127]
theorem spec_AddSpan.tab7 : rtab .any (opsOf Try.f43 7) = spec_AddSpan.T7 := by kernel_rfl
theorem spec_AddSpan.bits7 : waitsOk spec_AddSpan.T7.2 spec_AddSpan.B7 = true := by kernel_rfl
def spec_AddSpan.T12 : Bool × List (List Nat × List Nat) := (true, [([], []), ([], []), ([0, 1], [0, 1]), ([2], [2]), ([3], [3]), ([], []), ([5], [5]), ([4, 6], [4, 6]), ([7], [7]), ([8], [8]), ([8], [8]), ([9, 10, 8], [8, 9, 10]), ([11, 8], [8, 11]), ([12, 8], [8, 12]), ([8], [8]), ([14, 8], [8, 14]), ([13, 15, 8], [8, 13, 15]), ([8, 16], [8, 16])])
def spec_AddSpan.B12 : List Nat := [0, 0, 3, 7, 15, 0, 32, 127, 255, 511, 511, 2047, 4095, 8191, 511, 16895, 65535, 131071]
theorem spec_AddSpan.tab12 : rtab .any (opsOf Try.f43 12) = spec_AddSpan.T12 := by kernel_rfl
theorem spec_AddSpan.bits12 : waitsOk spec_AddSpan.T12.2 spec_AddSpan.B12 = true := by kernel_rfl
def spec_AddSpan.T13 : Bool × List (List Nat × List Nat) := (true, [([], []), ([0], [0]), ([], []), ([], []), ([2, 3], [2, 3]), ([4], [4]), ([5], [5]), ([1, 6], [1, 6]), ([], []), ([8], [8]), ([], []), ([], []), ([10, 11], [10, 11]), ([12], [12]), ([13], [13]), ([9, 14, 7], [9, 14]), ([7, 15], [7, 15]), ([16, 15, 0, 1, 2, 3, 4, 5, 6, 7, 8, 9, 10, 11, 12, 13, 14, 15, 16], [16])])
def spec_AddSpan.B13 : List Nat := [0, 1, 0, 0, 12, 28, 60, 127, 0, 256, 0, 0, 3072, 7168, 15360, 32767, 65535, 131071]
theorem spec_AddSpan.tab13 : rtab .any (opsOf Try.f43 13) = spec_AddSpan.T13 := by kernel_rfl
theorem spec_AddSpan.bits13 : waitsOk spec_AddSpan.T13.2 spec_AddSpan.B13 = true := by kernel_rfl
def spec_AddSpan.T18 : Bool × List (List Nat × List Nat) := (true, [([], []), ([], []), ([0, 1], [0, 1]), ([2], [2]), ([3], [3]), ([], []), ([5], [5]), ([4, 6], [4, 6])])
def spec_AddSpan.B18 : List Nat := [0, 0, 3, 7, 15, 0, 32, 127]
theorem spec_AddSpan.tab18 : rtab .any (opsOf Try.f43 18) = spec_AddSpan.T18 := by kernel_rfl
theorem spec_AddSpan.bits18 : waitsOk spec_AddSpan.T18.2 spec_AddSpan.B18 = true := by kernel_rfl
set_option maxHeartbeats 8000000 in
set_option maxRecDepth 100000 in
theorem spec_AddSpan.calls (k : Nat) (A0 : Option Addr) (c0 : Nat) (l0 : List (S26)) (a1_0 : Int) (a1_1 : Int) (r : List (S26)) (w : World) (hr0 : Kd.C k26 w A0 l0.length l0) (hc0 : l0.length ≤ c0) (h : spec_AddSpan.f k l0 a1_0 a1_1 = some r) :
  Calls Try.prog 43 #[.slice A0 l0.length c0, .agg #[.int .i64 a1_0, .int .i64 a1_1]] w fun e w' => ∃ v0_ : Value, e = .returned (v0_) ∧ Kd.R k26 26 w' w.heap.size (fun _ => True) v0_ r ∧ Below w.heap.size w w' := by
 have hu26 := Try.underlying26
 have HR0 := zM hr0
 have HC0 := zM hc0
 clear hr0 hc0
 have HB := zM (Below.refl w.heap.size w)
 have H : ((spec_IsSpanSet.f k l0).bind fun t134 => (if t134 = true then (if a1_0 < 0 then (spec_AddSpan.j0 k l0 true a1_0 a1_1) else (if a1_0 ≥ a1_1 then (spec_AddSpan.j0 k l0 true a1_0 a1_1) else (spec_AddSpan.j0 k l0 (decide (a1_1 > 1000000000000)) a1_0 a1_1))) else (spec_AddSpan.j0 k l0 true a1_0 a1_1))) = some r := h
 clear h
 have HC3 := zM H
 clear H
 go_enter Try.func43, Try.ntmps43
 go_upto_region 1 with (first | ((with_reducible refine gate_dst (N := 3) rfl ?_); refine box_event ?hg (N := 3) ?hd (cs := #[.int .i64 a1_0, .int .i64 a1_1]) (t := 26) ?hr ?_; (case hd => rfl); (case hg => rfl); (case hr => first | (go_simp; done) | (go_simp; rfl)); intro gb133 hg w4 hbox hb; have n0_ := zM (below_step (zB HB.out) hb); have n1_ := zM (hbox); have n2_ := zM ((by rw [hg]; exact (below_size (zB HB.out)) : w.heap.size ≤ gb133)); have n3_ := zM ((by rw [hg]; exact (below_size (zB HB.out)) : w.heap.size ≤ gb133)); clear HB; have HB := n0_; have BK133 := n1_; have GW133 := n2_; have GE133 := n3_; clear n0_ n1_ n2_ n3_; clear hb hbox hg))
 (try simp only [Act.put, List.setIfInBounds_toArray, List.set_cons_zero, List.set_cons_succ])
 go_cut [28] (fun v28 wc => ∃ (kq : Nat) (x28_2 : Bool), v28 = .bool x28_2 ∧ Aside0 (spec_AddSpan.j0 kq l0 x28_2 a1_0 a1_1 = some r) ∧ Aside0 (kq ≤ k) ∧ Aside0 (wc.heap[gb133]? = some (.cells #[.int .i64 a1_0, .int .i64 a1_1] 26 (0, 0))) ∧ Aside0 (Below w.heap.size w wc))
 case first =>
  have H := HC3.out
  clear HC3
  replace H := Option.bind_eq_some_iff.mp H
  obtain ⟨t134, A50, H⟩ := H
  try dsimp only at H
  have A5 := zM A50
  clear A50
  by_cases c6 : t134 = true
  ·subst c6
   rw [if_pos rfl] at H
   by_cases c7 : a1_0 < 0
   ·rw [if_pos c7] at H
    have c7b0 : decide (a1_0 < 0) = true := decide_eq_true c7
    clear c7
    (first | rw [c7b0] | (simp only [i64_w, i32_w]; rw [c7b0]) | skip)
    have H' := zM H
    clear H
    go_wp2_with (first | ((with_reducible refine gate_callee (f := 11) rfl ?_); refine zG (some 10) Try.func11 #[.slice A0 l0.length c0] ?_; (with_reducible refine (spec_IsSpanSet.calls k _ _ l0 true _ ?side1 ?side2 A5.out).mono ?_); (case side1 => exact (zC (Kd.C_below HR0.out HB.out))); (case side2 => exact HC0.out); rintro e w' ⟨rfl, ⟨nd, rfl⟩⟩; refine ⟨_, rfl, ?_⟩; have hcz8_0 : w4.cell? ⟨gb133, 0, none⟩ = some (.int .i64 a1_0) := (blk_cell BK133.out 0).trans rfl; have hcz8_1 : w4.cell? ⟨gb133, 1, none⟩ = some (.int .i64 a1_1) := (blk_cell BK133.out 1).trans rfl; have hfz8_0 := blk_frozen BK133.out 0; have hfz8_1 := blk_frozen BK133.out 1))
    go_meet
    case rel => exact ⟨_, (true), zS, H', ⟨by first | omega | exact Nat.le_refl _⟩, ⟨(zP BK133.out)⟩, ⟨(zB1 GE133.out HB.out)⟩⟩
   ·rw [if_neg c7] at H
    have c7b0 : decide (a1_0 < 0) = false := decide_eq_false c7
    clear c7
    (first | rw [c7b0] | (simp only [i64_w, i32_w]; rw [c7b0]) | skip)
    by_cases c9 : a1_0 ≥ a1_1
    ·rw [if_pos c9] at H
     have c9b0 : decide (a1_1 ≤ a1_0) = true := decide_eq_true c9
     clear c9
     have H' := zM H
     clear H
     go_wp2_with (first | ((with_reducible refine gate_callee (f := 11) rfl ?_); refine zG (some 10) Try.func11 #[.slice A0 l0.length c0] ?_; (with_reducible refine (spec_IsSpanSet.calls k _ _ l0 true _ ?side1 ?side2 A5.out).mono ?_); (case side1 => exact (zC (Kd.C_below HR0.out HB.out))); (case side2 => exact HC0.out); rintro e w' ⟨rfl, ⟨nd, rfl⟩⟩; refine ⟨_, rfl, ?_⟩; have hcz10_0 : w4.cell? ⟨gb133, 0, none⟩ = some (.int .i64 a1_0) := (blk_cell BK133.out 0).trans rfl; have hcz10_1 : w4.cell? ⟨gb133, 1, none⟩ = some (.int .i64 a1_1) := (blk_cell BK133.out 1).trans rfl; have hfz10_0 := blk_frozen BK133.out 0; have hfz10_1 := blk_frozen BK133.out 1))
     go_meet
     case rel => exact ⟨_, (true), zS, H', ⟨by first | omega | exact Nat.le_refl _⟩, ⟨(zP BK133.out)⟩, ⟨(zB1 GE133.out HB.out)⟩⟩
    ·rw [if_neg c9] at H
     have c9b0 : decide (a1_1 ≤ a1_0) = false := decide_eq_false c9
     clear c9
     have H' := zM H
     clear H
     go_wp2_with (first | ((with_reducible refine gate_callee (f := 11) rfl ?_); refine zG (some 10) Try.func11 #[.slice A0 l0.length c0] ?_; (with_reducible refine (spec_IsSpanSet.calls k _ _ l0 true _ ?side1 ?side2 A5.out).mono ?_); (case side1 => exact (zC (Kd.C_below HR0.out HB.out))); (case side2 => exact HC0.out); rintro e w' ⟨rfl, ⟨nd, rfl⟩⟩; refine ⟨_, rfl, ?_⟩; have hcz11_0 : w4.cell? ⟨gb133, 0, none⟩ = some (.int .i64 a1_0) := (blk_cell BK133.out 0).trans rfl; have hcz11_1 : w4.cell? ⟨gb133, 1, none⟩ = some (.int .i64 a1_1) := (blk_cell BK133.out 1).trans rfl; have hfz11_0 := blk_frozen BK133.out 0; have hfz11_1 := blk_frozen BK133.out 1))
     go_meet
     case rel => exact ⟨_, (decide (a1_1 > 1000000000000)), zS, H', ⟨by first | omega | exact Nat.le_refl _⟩, ⟨(zP BK133.out)⟩, ⟨(zB1 GE133.out HB.out)⟩⟩
  ·replace c6 := Bool.eq_false_iff.mpr c6
   subst c6
   rw [if_neg (show ¬ (false = true) by decide)] at H
   have H' := zM H
   clear H
   go_wp2_with (first | ((with_reducible refine gate_callee (f := 11) rfl ?_); refine zG (some 10) Try.func11 #[.slice A0 l0.length c0] ?_; (with_reducible refine (spec_IsSpanSet.calls k _ _ l0 false _ ?side1 ?side2 A5.out).mono ?_); (case side1 => exact (zC (Kd.C_below HR0.out HB.out))); (case side2 => exact HC0.out); rintro e w' ⟨rfl, ⟨nd, rfl⟩⟩; refine ⟨_, rfl, ?_⟩))
   go_meet
   case rel => exact ⟨_, (true), zS, H', ⟨by first | omega | exact Nat.le_refl _⟩, ⟨(zP BK133.out)⟩, ⟨(zB1 GE133.out HB.out)⟩⟩
 case rest =>
  clear HC3
  try clear c1
  try clear p2
  try clear c4
  try clear c6
  try clear c7
  try clear c7b0
  try clear c9
  try clear c9b0
  try clear c11
  try clear hcz10_0
  try clear hcz10_1
  try clear hcz11_0
  try clear hcz11_1
  try clear hcz8_0
  try clear hcz8_1
  try clear hfz10_0
  try clear hfz10_1
  try clear hfz11_0
  try clear hfz11_1
  try clear hfz8_0
  try clear hfz8_1
  obtain ⟨kq, x28_2, rfl, HA, HJ2, BK133, HB⟩ := hcut
  cases kq with
  | zero => exact absurd HA.out (by simp [spec_AddSpan.j0])
  | succ kj2 =>
   have H := HA.out
   clear HA
   simp only [spec_AddSpan.j0] at H
   by_cases c12 : x28_2 = true
   ·subst c12
    rw [if_pos rfl] at H
    obtain ⟨y135, hy135⟩ : ∃ y_ : List (S26), y_ = (([] : List (S26))) := ⟨_, rfl⟩
    replace H : (if y135.length + l0.length < 8796093022208 then (some (y135 ++ l0)) else (none)) = some r := zH hy135 H
    have Ny135 := zM hy135
    clear hy135
    by_cases c13 : y135.length + l0.length < 8796093022208
    ·rw [if_pos c13] at H
     have LMc13 := zM c13
     clear c13
     obtain ⟨y138, hy138⟩ : ∃ y_ : List (S26), y_ = (y135 ++ l0) := ⟨_, rfl⟩
     replace H : (some y138) = some r := zH hy138 H
     have Ny138 := zM hy138
     clear hy138
     obtain rfl := Option.some.inj H
     go_wp2_with (first | ((with_reducible refine gate_dst (N := 29) rfl ?_); refine Kd.R_lit k26 _ 26 ?hg (N := 29) ?hd (xs := ([] : List (S26))) (inner := []) (ok := fun _ => True) (okp := fun _ => True) ?hr ?hp (fun _ hk => hk) trivial (Below.refl _ _) (Nat.le_refl _) (by simp) ?_; (case hd => rfl); (case hg => rfl); (case hr => first | (go_simp; done) | (go_simp; rfl)); (case hp => exact (Reps.none _ _)); intro v136 w14 ho15 hb hg_ hnew_; clear hg_ hnew_; (first | rw [← Ny135.out] at ho15 | (simp only [Int.reduceToNat] at ho15; rw [← Ny135.out] at ho15)); have n0_ := zM (Kd.R_lower (Kd.R_newB ho15 (g := gb133) (o := .cells #[.int .i64 a1_0, .int .i64 a1_1] 26 (0, 0)) (zP BK133.out)) (below_size (zB1 GE133.out HB.out))); have n1_ := zM (blk_below (g := gb133) (o := .cells #[.int .i64 a1_0, .int .i64 a1_1] 26 (0, 0)) (zP BK133.out) hb); have n2_ := zM (below_step (zB1 GE133.out HB.out) hb); clear BK133; clear HB; have HO137 := n0_; have BK133 := n1_; have HB := n2_; clear n0_ n1_ n2_; clear hb ho15) | ((with_reducible refine gate_builtin (b := .append) (xs := #[.tmp 29, .tmp 30]) rfl ?_); at_builtin; refine Kd.R_append_rows k26 (w0 := w) w.heap.size rfl (.tmp 29) (.tmp 30) 24 26 (.agg #[(.int .i64 0), (.int .i64 0)]) 16 rfl Try.underlying24 info26 rfl (by decide) (by omega) v136 y135 l0 _ _ _ (fun k_ => k_ ≠ gb133) (fun _ => False) rfl rfl ?aO ?aR (fun _ _ h => h) (fun _ h => h.elim) ?aF ?aB ?aS ?aL ?_; (case aR => exact (zC (Kd.C_below HR0.out HB.out))); (case aB => exact (zB1 GE133.out HB.out)); (case aF => exact (fun k_ hk => Kd.freshB (g := gb133) (o := .cells #[.int .i64 a1_0, .int .i64 a1_1] 26 (0, 0)) (zP BK133.out) k_ hk)); (case aO => exact (zRm HO137.out (fun _ hk => hk.2))); (case aS => exact (below_size (zB1 GE133.out HB.out))); (case aL => have := LMc13.out; omega); intro v139 w16 ho hb hg hat; rw [← Ny138.out] at ho; have n0_ := zM (blk_grown (g := gb133) (o := .cells #[.int .i64 a1_0, .int .i64 a1_1] 26 (0, 0)) (zP BK133.out) hg (Kd.R_away HO137.out (fun _ hk => hk.2))); have n1_ := zM (hb); have n2_ := zM (ho); clear BK133; clear HB; clear HO137; have BK133 := n0_; have HB := n1_; have HO140 := n2_; clear n0_ n1_ n2_; clear ho hb hg hat))
     go_ret
     exact ⟨_, zE, (zRm HO140.out (fun _ hk => trivial)), (zB1 GE133.out HB.out)⟩
    ·rw [if_neg c13] at H
     exact absurd H (by simp)
   ·replace c12 := Bool.eq_false_iff.mpr c12
    subst c12
    rw [if_neg (show ¬ (false = true) by decide)] at H
    obtain ⟨y141, hy141⟩ : ∃ y_ : List (S26), y_ = (([] : List (S26))) := ⟨_, rfl⟩
    replace H : (spec_AddSpan.l0 kj2 l0 y141 0 a1_0 a1_1) = some r := zH hy141 H
    have Ny141 := zM hy141
    clear hy141
    have H' := zM H
    clear H
    go_wp2_with (first | ((with_reducible refine gate_dst (N := 32) rfl ?_); refine Kd.R_lit k26 _ 26 ?hg (N := 32) ?hd (xs := ([] : List (S26))) (inner := []) (ok := fun _ => True) (okp := fun _ => True) ?hr ?hp (fun _ hk => hk) trivial (Below.refl _ _) (Nat.le_refl _) (by simp) ?_; (case hd => rfl); (case hg => rfl); (case hr => first | (go_simp; done) | (go_simp; rfl)); (case hp => exact (Reps.none _ _)); intro v142 w17 ho18 hb hg_ hnew_; clear hg_ hnew_; (first | rw [← Ny141.out] at ho18 | (simp only [Int.reduceToNat] at ho18; rw [← Ny141.out] at ho18)); have n0_ := zM (Kd.R_lower (Kd.R_newB ho18 (g := gb133) (o := .cells #[.int .i64 a1_0, .int .i64 a1_1] 26 (0, 0)) (zP BK133.out)) (below_size (zB1 GE133.out HB.out))); have n1_ := zM (blk_below (g := gb133) (o := .cells #[.int .i64 a1_0, .int .i64 a1_1] 26 (0, 0)) (zP BK133.out) hb); have n2_ := zM (below_step (zB1 GE133.out HB.out) hb); clear BK133; clear HB; have HO143 := n0_; have BK133 := n1_; have HB := n2_; clear n0_ n1_ n2_; clear hb ho18))
    go_loopg [5, 6] kj2 (fun kq v5 v6 w' => ∃ (x5_2 : List (S26)) (x6_2 : Int), v6 = .int .i64 x6_2 ∧ Aside0 (spec_AddSpan.l0 kq l0 x5_2 x6_2 a1_0 a1_1 = some r) ∧ Aside0 (kq ≤ kj2) ∧ Aside0 (Kd.R k26 26 w' w.heap.size (fun k_ => k_ ≠ gb133) v5 x5_2) ∧ Aside0 (w'.heap[gb133]? = some (.cells #[.int .i64 a1_0, .int .i64 a1_1] 26 (0, 0))) ∧ Aside0 (Below w.heap.size w w'))
    case atStart => exact ⟨(y141), (0), zS, H', ⟨Nat.le_refl _⟩, ⟨(zRm HO143.out (fun _ hk => hk.2))⟩, ⟨(zP BK133.out)⟩, ⟨(zB1 GE133.out HB.out)⟩⟩
    case round =>
     clear H'
     try clear c1
     try clear p2
     try clear c4
     try clear c6
     try clear c7
     try clear c7b0
     try clear c9
     try clear c9b0
     try clear c11
     try clear c12
     try clear c13
     try clear hcz10_0
     try clear hcz10_1
     try clear hcz11_0
     try clear hcz11_1
     try clear hcz8_0
     try clear hcz8_1
     try clear hfz10_0
     try clear hfz10_1
     try clear hfz11_0
     try clear hfz11_1
     try clear hfz8_0
     try clear hfz8_1
     try clear p2
     obtain ⟨x5_2, x6_2, rfl, HA, HK2, HO_5, BK133, HB⟩ := hrel
     cases gk with
     | zero => exact absurd HA.out (by simp [spec_AddSpan.l0])
     | succ k2 =>
      have H := HA.out
      clear HA
      simp only [spec_AddSpan.l0] at H
      by_cases c19 : x6_2 < (l0.length : Int)
      ·rw [if_pos c19] at H
       have c19b0 : decide (x6_2 < (l0.length : Int)) = true := decide_eq_true c19
       clear c19
       by_cases c20 : 0 ≤ x6_2
       ·rw [if_pos c20] at H
        have c20b0 : decide (0 ≤ x6_2) = true := decide_eq_true c20
        clear c20
        by_cases c21 : ((rd_T26 l0 x6_2).f1) < a1_0
        ·rw [if_pos c21] at H
         have c21b0 : decide (((rd_T26 l0 x6_2).f1) < a1_0) = true := decide_eq_true c21
         clear c21
         by_cases c22 : x5_2.length < 8796093022208
         ·rw [if_pos c22] at H
          have LMc22 := zM c22
          clear c22
          obtain ⟨y146, hy146⟩ : ∃ y_ : List (S26), y_ = (x5_2 ++ [(⟨(rd_T26 l0 x6_2).f0, (rd_T26 l0 x6_2).f1⟩ : S26)]) := ⟨_, rfl⟩
          replace H : (spec_AddSpan.l0 k2 l0 y146 (wrap64 (x6_2 + 1)) a1_0 a1_1) = some r := zH hy146 H
          have Ny146 := zM hy146
          clear hy146
          have H' := zM H
          clear H
          try go_wp2
          have n0_ := zM (Kd.R_drew HO_5.out)
          have n1_ := zM (blk_drew BK133.out)
          have n2_ := zM (below_drew1 HB.out)
          clear HO_5
          clear BK133
          clear HB
          have HO_5 := n0_
          have BK133 := n1_
          have HB := n2_
          clear n0_ n1_ n2_
          have p144 : 0 ≤ (x6_2 : Int) := zD
          have q144 : x6_2 < (l0.length : Int) := zD
          obtain ⟨ad144, e144, hx144_0, hx144_1⟩ := at_T26 HR0.out x6_2 p144 q144
          have hw144_1 := hx144_1
          have hw144_0 := hx144_0
          cases e144
          replace hx144_0 := (HB.out.cell (World.block_lt_of_cell? w _ hx144_0)).trans hx144_0
          replace hx144_1 := (HB.out.cell (World.block_lt_of_cell? w _ hx144_1)).trans hx144_1
          replace p144 := eq_true p144
          replace q144 := eq_true q144
          refine start_ (n := 8) (S := fun w' => w'.cell? ⟨gb133, 0, none⟩ = some (.int .i64 a1_0) ∧ w'.cell? ⟨gb133, 1, none⟩ = some (.int .i64 a1_1) ∧ w'.cell? (ad144.add ((x6_2).toNat * 2)) = some (.int .i64 ((rd_T26 l0 x6_2).f0)) ∧ w'.cell? ⟨(ad144.add ((x6_2).toNat * 2)).block, (ad144.add ((x6_2).toNat * 2)).off + 1, none⟩ = some (.int .i64 ((rd_T26 l0 x6_2).f1))) (ds := []) (ba 8 0).toArray (by kernel_rfl) rfl rfl ⟨(blk_cell BK133.out 0).trans rfl, (blk_cell BK133.out 1).trans rfl, ((HB.out.cell (World.block_lt_of_cell? w _ hw144_0)).trans hw144_0), ((HB.out.cell (World.block_lt_of_cell? w _ hw144_1)).trans hw144_1)⟩ (fun hHeld => ?_); refine with_tabW spec_AddSpan.tab7 spec_AddSpan.bits7 (fun HT_ HW_ => ?_)
          generalize wr.drew = w23 at HO_5 BK133 HB hx144_0 hx144_1 hHeld ⊢
          refine zq 0 (some 39) (ba 8 1).toArray HT_ ?_
          refine zq 1 (some 40) (ba 8 3).toArray HT_ ?_
          refine zq 2 (some 41) (ba 8 7).toArray HT_ ?_
          refine zq 3 (some 42) (ba 8 15).toArray HT_ ?_
          refine zq 5 (some 44) (ba 8 47).toArray HT_ ?_
          refine zt4 4 (some 43) (ba 8 63).toArray HT_ HW_ hHeld ?_
          refine zt4 6 (some 45) (ba 8 127).toArray HT_ HW_ hHeld ?_
          refine zq 7 (some 46) (ba 8 255).toArray HT_ ?_
          refine done_ (done_of HT_.out (by kernel_rfl)) ?_
          have p145 : 0 ≤ (x6_2 : Int) := zD
          have q145 : x6_2 < (l0.length : Int) := zD
          obtain ⟨ad145, e145, hx145_0, hx145_1⟩ := at_T26 HR0.out x6_2 p145 q145
          obtain rfl : ad144 = ad145 := (by injection e145)
          replace hx145_0 := (HB.out.cell (World.block_lt_of_cell? w _ hx145_0)).trans hx145_0
          replace hx145_1 := (HB.out.cell (World.block_lt_of_cell? w _ hx145_1)).trans hx145_1
          replace p145 := eq_true p145
          replace q145 := eq_true q145
          try go_wp2_with (first | ((with_reducible refine gate_builtin (b := .append) (xs := #[.tmp 47, .tmp 52]) rfl ?_); at_builtin; refine Kd.R_append k26 (w0 := w) w.heap.size rfl (.tmp 47) (.tmp 52) 24 26 (.agg #[(.int .i64 0), (.int .i64 0)]) 16 rfl Try.underlying24 info26 rfl (by decide) (by omega) u5 x5_2 (⟨(rd_T26 l0 x6_2).f0, (rd_T26 l0 x6_2).f1⟩ : S26) [.int .i64 ((rd_T26 l0 x6_2).f0), .int .i64 ((rd_T26 l0 x6_2).f1)] (fun k_ => k_ ≠ gb133) (fun _ => False) rfl rfl ?aP (fun _ hk => hk.elim) ?aF ?aO ?aB ?aS ?aL ?_; (case aP => exact k26_mkM _ _ _ (⟨(rd_T26 l0 x6_2).f0, (rd_T26 l0 x6_2).f1⟩ : S26)); (case aB => exact (zB1 GE133.out HB.out)); (case aF => exact (fun k_ hk => Kd.freshB (g := gb133) (o := .cells #[.int .i64 a1_0, .int .i64 a1_1] 26 (0, 0)) (zP BK133.out) k_ hk)); (case aO => exact (zR HO_5.out)); (case aS => exact (below_size (zB1 GE133.out HB.out))); (case aL => have := LMc22.out; omega); intro v147 w24 ho hb hg hat; rw [← Ny146.out] at ho; have n0_ := zM (blk_grown (g := gb133) (o := .cells #[.int .i64 a1_0, .int .i64 a1_1] 26 (0, 0)) (zP BK133.out) hg (Kd.R_away HO_5.out (fun _ hk => hk))); have n1_ := zM (hb); have n2_ := zM (ho); clear BK133; clear HB; clear HO_5; have BK133 := n0_; have HB := n1_; have HO148 := n2_; clear n0_ n1_ n2_; clear ho hb hg hat))
          go_roundg k2
          case measure => have := HJ2.out; have := HK2.out; omega
          case rel => exact ⟨(y146), (wrap64 (x6_2 + 1)), zS, H', ⟨by have := HJ2.out; have := HK2.out; omega⟩, ⟨(zR HO148.out)⟩, ⟨(zP BK133.out)⟩, ⟨(zB1 GE133.out HB.out)⟩⟩
         ·rw [if_neg c22] at H
          exact absurd H (by simp)
        ·rw [if_neg c21] at H
         have c21b0 : decide (((rd_T26 l0 x6_2).f1) < a1_0) = false := decide_eq_false c21
         clear c21
         have H' := zM H
         clear H
         try go_wp2
         have n0_ := zM (Kd.R_drew HO_5.out)
         have n1_ := zM (blk_drew BK133.out)
         have n2_ := zM (below_drew1 HB.out)
         clear HO_5
         clear BK133
         clear HB
         have HO_5 := n0_
         have BK133 := n1_
         have HB := n2_
         clear n0_ n1_ n2_
         have p144 : 0 ≤ (x6_2 : Int) := zD
         have q144 : x6_2 < (l0.length : Int) := zD
         obtain ⟨ad144, e144, hx144_0, hx144_1⟩ := at_T26 HR0.out x6_2 p144 q144
         have hw144_1 := hx144_1
         have hw144_0 := hx144_0
         cases e144
         replace hx144_0 := (HB.out.cell (World.block_lt_of_cell? w _ hx144_0)).trans hx144_0
         replace hx144_1 := (HB.out.cell (World.block_lt_of_cell? w _ hx144_1)).trans hx144_1
         replace p144 := eq_true p144
         replace q144 := eq_true q144
         refine start_ (n := 8) (S := fun w' => w'.cell? ⟨gb133, 0, none⟩ = some (.int .i64 a1_0) ∧ w'.cell? ⟨gb133, 1, none⟩ = some (.int .i64 a1_1) ∧ w'.cell? (ad144.add ((x6_2).toNat * 2)) = some (.int .i64 ((rd_T26 l0 x6_2).f0)) ∧ w'.cell? ⟨(ad144.add ((x6_2).toNat * 2)).block, (ad144.add ((x6_2).toNat * 2)).off + 1, none⟩ = some (.int .i64 ((rd_T26 l0 x6_2).f1))) (ds := []) (ba 8 0).toArray (by kernel_rfl) rfl rfl ⟨(blk_cell BK133.out 0).trans rfl, (blk_cell BK133.out 1).trans rfl, ((HB.out.cell (World.block_lt_of_cell? w _ hw144_0)).trans hw144_0), ((HB.out.cell (World.block_lt_of_cell? w _ hw144_1)).trans hw144_1)⟩ (fun hHeld => ?_); refine with_tabW spec_AddSpan.tab7 spec_AddSpan.bits7 (fun HT_ HW_ => ?_)
         generalize wr.drew = w25 at HO_5 BK133 HB hx144_0 hx144_1 hHeld ⊢
         refine zq 0 (some 39) (ba 8 1).toArray HT_ ?_
         refine zq 1 (some 40) (ba 8 3).toArray HT_ ?_
         refine zq 2 (some 41) (ba 8 7).toArray HT_ ?_
         refine zq 3 (some 42) (ba 8 15).toArray HT_ ?_
         refine zq 5 (some 44) (ba 8 47).toArray HT_ ?_
         refine zt4 4 (some 43) (ba 8 63).toArray HT_ HW_ hHeld ?_
         refine zt4 6 (some 45) (ba 8 127).toArray HT_ HW_ hHeld ?_
         refine zq 7 (some 46) (ba 8 255).toArray HT_ ?_
         refine done_ (done_of HT_.out (by kernel_rfl)) ?_
         try go_wp2
         go_roundg k2
         case measure => have := HJ2.out; have := HK2.out; omega
         case rel => exact ⟨(x5_2), (wrap64 (x6_2 + 1)), zS, H', ⟨by have := HJ2.out; have := HK2.out; omega⟩, ⟨(zR HO_5.out)⟩, ⟨(zP BK133.out)⟩, ⟨(zB1 GE133.out HB.out)⟩⟩
       ·rw [if_neg c20] at H
        exact absurd H (by simp)
      ·rw [if_neg c19] at H
       have c19b0 : decide (x6_2 < (l0.length : Int)) = false := decide_eq_false c19
       clear c19
       have H' := zM H
       clear H
       go_wp2
       go_loopg [7] k2 (fun kq v7 w' => ∃ (x7_3 : Int) (x134000_3 : Int) (x134001_3 : Int), v7 = .int .i64 x7_3 ∧ Aside0 (spec_AddSpan.l1 kq l0 x5_2 x7_3 x134000_3 x134001_3 = some r) ∧ Aside0 (kq ≤ k2) ∧ Aside0 (Kd.R k26 26 w' w.heap.size (fun k_ => k_ ≠ gb133) u5 x5_2) ∧ Aside0 (w'.heap[gb133]? = some (.cells #[.int .i64 x134000_3, .int .i64 x134001_3] 26 (0, 0))) ∧ Aside0 (Below w.heap.size w w'))
       case atStart => exact ⟨(0), (a1_0), (a1_1), zS, H', ⟨Nat.le_refl _⟩, ⟨(zR HO_5.out)⟩, ⟨(zP BK133.out)⟩, ⟨(zB1 GE133.out HB.out)⟩⟩
       case round =>
        clear H'
        try clear c1
        try clear p1
        try clear q1
        try clear hx1
        try clear c2
        try clear p2
        try clear c4
        try clear c6
        try clear p6
        try clear c7
        try clear c7b0
        try clear c9
        try clear c9b0
        try clear c11
        try clear c12
        try clear c13
        try clear p14
        try clear q14
        try clear hx14
        try clear c19
        try clear c19b0
        try clear c20
        try clear c20b0
        try clear c21
        try clear c21b0
        try clear c22
        try clear hcz10_0
        try clear hcz10_1
        try clear hcz11_0
        try clear hcz11_1
        try clear hcz8_0
        try clear hcz8_1
        try clear hfz10_0
        try clear hfz10_1
        try clear hfz11_0
        try clear hfz11_1
        try clear hfz8_0
        try clear hfz8_1
        try clear hx144_0
        try clear hx144_1
        try clear hx145_0
        try clear hx145_1
        try clear p144
        try clear p145
        try clear p2
        try clear q144
        try clear q145
        obtain ⟨x7_3, x134000_3, x134001_3, rfl, HA, HK3, HO_5, BK133, HB⟩ := hrel
        cases gk with
        | zero => exact absurd HA.out (by simp [spec_AddSpan.l1])
        | succ k3 =>
         have H := HA.out
         clear HA
         simp only [spec_AddSpan.l1] at H
         by_cases c26 : x7_3 < (l0.length : Int)
         ·rw [if_pos c26] at H
          have c26b0 : decide (x7_3 < (l0.length : Int)) = true := decide_eq_true c26
          clear c26
          have HC27 := zM H
          clear H
          go_upto_region 12 with (fail)
          go_cut [77] (fun v77 wc => ∃ (kq : Nat) (x77_26 : Bool), v77 = .bool x77_26 ∧ Aside0 (spec_AddSpan.j3 kq l0 x5_2 x7_3 x77_26 x134000_3 x134001_3 = some r) ∧ Aside0 (kq ≤ k3) ∧ Aside0 (Kd.R k26 26 wc w.heap.size (fun k_ => k_ ≠ gb133) u5 x5_2) ∧ Aside0 (wc.heap[gb133]? = some (.cells #[.int .i64 x134000_3, .int .i64 x134001_3] 26 (0, 0))) ∧ Aside0 (Below w.heap.size w wc))
          case first =>
           have H := HC27.out
           clear HC27
           by_cases c28 : 0 ≤ x7_3
           ·rw [if_pos c28] at H
            have c28b0 : decide (0 ≤ x7_3) = true := decide_eq_true c28
            clear c28
            (first | rw [c28b0] | (simp only [i64_w, i32_w]; rw [c28b0]) | skip)
            by_cases c29 : ((rd_T26 l0 x7_3).f1) ≥ x134000_3
            ·rw [if_pos c29] at H
             have c29b0 : decide (x134000_3 ≤ ((rd_T26 l0 x7_3).f1)) = true := decide_eq_true c29
             clear c29
             have H' := zM H
             clear H
             try go_wp2
             have n0_ := zM (Kd.R_drew HO_5.out)
             have n1_ := zM (blk_drew BK133.out)
             have n2_ := zM (below_drew1 HB.out)
             clear HO_5
             clear BK133
             clear HB
             have HO_5 := n0_
             have BK133 := n1_
             have HB := n2_
             clear n0_ n1_ n2_
             have p149 : 0 ≤ (x7_3 : Int) := zD
             have q149 : x7_3 < (l0.length : Int) := zD
             obtain ⟨ad149, e149, hx149_0, hx149_1⟩ := at_T26 HR0.out x7_3 p149 q149
             have hw149_1 := hx149_1
             have hw149_0 := hx149_0
             cases e149
             replace hx149_0 := (HB.out.cell (World.block_lt_of_cell? w _ hx149_0)).trans hx149_0
             replace hx149_1 := (HB.out.cell (World.block_lt_of_cell? w _ hx149_1)).trans hx149_1
             replace p149 := eq_true p149
             replace q149 := eq_true q149
             have p150 : 0 ≤ (x7_3 : Int) := zD
             have q150 : x7_3 < (l0.length : Int) := zD
             obtain ⟨ad150, e150, hx150_0, hx150_1⟩ := at_T26 HR0.out x7_3 p150 q150
             have hw150_1 := hx150_1
             have hw150_0 := hx150_0
             obtain rfl : ad149 = ad150 := (by injection e150)
             replace hx150_0 := (HB.out.cell (World.block_lt_of_cell? w _ hx150_0)).trans hx150_0
             replace hx150_1 := (HB.out.cell (World.block_lt_of_cell? w _ hx150_1)).trans hx150_1
             replace p150 := eq_true p150
             replace q150 := eq_true q150
             refine start_ (n := 18) (S := fun w' => w'.cell? ⟨gb133, 0, none⟩ = some (.int .i64 x134000_3) ∧ w'.cell? ⟨gb133, 1, none⟩ = some (.int .i64 x134001_3) ∧ w'.cell? (ad149.add ((x7_3).toNat * 2)) = some (.int .i64 ((rd_T26 l0 x7_3).f0)) ∧ w'.cell? ⟨(ad149.add ((x7_3).toNat * 2)).block, (ad149.add ((x7_3).toNat * 2)).off + 1, none⟩ = some (.int .i64 ((rd_T26 l0 x7_3).f1)) ∧ w'.cell? (ad149.add ((x7_3).toNat * 2)) = some (.int .i64 ((rd_T26 l0 x7_3).f0)) ∧ w'.cell? ⟨(ad149.add ((x7_3).toNat * 2)).block, (ad149.add ((x7_3).toNat * 2)).off + 1, none⟩ = some (.int .i64 ((rd_T26 l0 x7_3).f1))) (ds := []) (ba 18 0).toArray (by kernel_rfl) rfl rfl ⟨(blk_cell BK133.out 0).trans rfl, (blk_cell BK133.out 1).trans rfl, ((HB.out.cell (World.block_lt_of_cell? w _ hw149_0)).trans hw149_0), ((HB.out.cell (World.block_lt_of_cell? w _ hw149_1)).trans hw149_1), ((HB.out.cell (World.block_lt_of_cell? w _ hw150_0)).trans hw150_0), ((HB.out.cell (World.block_lt_of_cell? w _ hw150_1)).trans hw150_1)⟩ (fun hHeld => ?_); refine with_tabW spec_AddSpan.tab12 spec_AddSpan.bits12 (fun HT_ HW_ => ?_)
             generalize wr.drew = w30 at HO_5 BK133 HB hx149_0 hx149_1 hx150_0 hx150_1 hHeld ⊢
             refine zq 0 (some 60) (ba 18 1).toArray HT_ ?_
             refine zq 1 (some 61) (ba 18 3).toArray HT_ ?_
             refine zq 2 (some 62) (ba 18 7).toArray HT_ ?_
             refine zq 3 (some 63) (ba 18 15).toArray HT_ ?_
             refine zq 5 (some 65) (ba 18 47).toArray HT_ ?_
             refine zt6 4 (some 64) (ba 18 63).toArray HT_ HW_ hHeld ?_
             refine zt6 6 (some 66) (ba 18 127).toArray HT_ HW_ hHeld ?_
             refine zq 7 (some 67) (ba 18 255).toArray HT_ ?_
             refine zq 8 (some 68) (ba 18 511).toArray HT_ ?_
             refine zq 9 (some 69) (ba 18 1023).toArray HT_ ?_
             refine zq 10 (some 70) (ba 18 2047).toArray HT_ ?_
             refine zq 11 (some 71) (ba 18 4095).toArray HT_ ?_
             refine zq 12 (some 72) (ba 18 8191).toArray HT_ ?_
             refine zq 14 (some 74) (ba 18 24575).toArray HT_ ?_
             refine zt6 13 (some 73) (ba 18 32767).toArray HT_ HW_ hHeld ?_
             refine zt6 15 (some 75) (ba 18 65535).toArray HT_ HW_ hHeld ?_
             refine zq 16 (some 76) (ba 18 131071).toArray HT_ ?_
             refine zq 17 (some 77) (ba 18 262143).toArray HT_ ?_
             refine done_ (done_of HT_.out (by kernel_rfl)) ?_
             try go_wp2
             go_meet
             case rel => exact ⟨_, (decide (((rd_T26 l0 x7_3).f0) ≤ x134001_3)), zS, H', ⟨by have := HJ2.out; have := HK2.out; have := HK3.out; first | omega | exact Nat.le_refl _⟩, ⟨(zR HO_5.out)⟩, ⟨(zP BK133.out)⟩, ⟨(zB1 GE133.out HB.out)⟩⟩
            ·rw [if_neg c29] at H
             have c29b0 : decide (x134000_3 ≤ ((rd_T26 l0 x7_3).f1)) = false := decide_eq_false c29
             clear c29
             have H' := zM H
             clear H
             try go_wp2
             have n0_ := zM (Kd.R_drew HO_5.out)
             have n1_ := zM (blk_drew BK133.out)
             have n2_ := zM (below_drew1 HB.out)
             clear HO_5
             clear BK133
             clear HB
             have HO_5 := n0_
             have BK133 := n1_
             have HB := n2_
             clear n0_ n1_ n2_
             have p149 : 0 ≤ (x7_3 : Int) := zD
             have q149 : x7_3 < (l0.length : Int) := zD
             obtain ⟨ad149, e149, hx149_0, hx149_1⟩ := at_T26 HR0.out x7_3 p149 q149
             have hw149_1 := hx149_1
             have hw149_0 := hx149_0
             cases e149
             replace hx149_0 := (HB.out.cell (World.block_lt_of_cell? w _ hx149_0)).trans hx149_0
             replace hx149_1 := (HB.out.cell (World.block_lt_of_cell? w _ hx149_1)).trans hx149_1
             replace p149 := eq_true p149
             replace q149 := eq_true q149
             refine start_ (n := 18) (S := fun w' => w'.cell? ⟨gb133, 0, none⟩ = some (.int .i64 x134000_3) ∧ w'.cell? ⟨gb133, 1, none⟩ = some (.int .i64 x134001_3) ∧ w'.cell? (ad149.add ((x7_3).toNat * 2)) = some (.int .i64 ((rd_T26 l0 x7_3).f0)) ∧ w'.cell? ⟨(ad149.add ((x7_3).toNat * 2)).block, (ad149.add ((x7_3).toNat * 2)).off + 1, none⟩ = some (.int .i64 ((rd_T26 l0 x7_3).f1))) (ds := []) (ba 18 0).toArray (by kernel_rfl) rfl rfl ⟨(blk_cell BK133.out 0).trans rfl, (blk_cell BK133.out 1).trans rfl, ((HB.out.cell (World.block_lt_of_cell? w _ hw149_0)).trans hw149_0), ((HB.out.cell (World.block_lt_of_cell? w _ hw149_1)).trans hw149_1)⟩ (fun hHeld => ?_); refine with_tabW spec_AddSpan.tab12 spec_AddSpan.bits12 (fun HT_ HW_ => ?_)
             generalize wr.drew = w31 at HO_5 BK133 HB hx149_0 hx149_1 hHeld ⊢
             refine zq 0 (some 60) (ba 18 1).toArray HT_ ?_
             refine zq 1 (some 61) (ba 18 3).toArray HT_ ?_
             refine zq 2 (some 62) (ba 18 7).toArray HT_ ?_
             refine zq 3 (some 63) (ba 18 15).toArray HT_ ?_
             refine zq 5 (some 65) (ba 18 47).toArray HT_ ?_
             refine zt4 4 (some 64) (ba 18 63).toArray HT_ HW_ hHeld ?_
             refine zt4 6 (some 66) (ba 18 127).toArray HT_ HW_ hHeld ?_
             refine zq 7 (some 67) (ba 18 255).toArray HT_ ?_
             refine zq 8 (some 68) (ba 18 511).toArray HT_ ?_
             refine zu 9 (some 69) (ba 18 1023).toArray HT_ ?_
             refine zu 10 (some 70) (ba 18 2047).toArray HT_ ?_
             refine zu 11 (some 71) (ba 18 4095).toArray HT_ ?_
             refine zu 12 (some 72) (ba 18 8191).toArray HT_ ?_
             refine zu 13 (some 73) (ba 18 16383).toArray HT_ ?_
             refine zu 14 (some 74) (ba 18 32767).toArray HT_ ?_
             refine zu 15 (some 75) (ba 18 65535).toArray HT_ ?_
             refine zu 16 (some 76) (ba 18 131071).toArray HT_ ?_
             refine zq 17 (some 77) (ba 18 262143).toArray HT_ ?_
             refine done_ (done_of HT_.out (by kernel_rfl)) ?_
             try go_wp2
             go_meet
             case rel => exact ⟨_, (false), zS, H', ⟨by have := HJ2.out; have := HK2.out; have := HK3.out; first | omega | exact Nat.le_refl _⟩, ⟨(zR HO_5.out)⟩, ⟨(zP BK133.out)⟩, ⟨(zB1 GE133.out HB.out)⟩⟩
           ·rw [if_neg c28] at H
            exact absurd H (by simp)
          case rest =>
           clear HC27
           try clear c1
           try clear p1
           try clear q1
           try clear hx1
           try clear c2
           try clear p2
           try clear c4
           try clear c6
           try clear p6
           try clear c7
           try clear c7b0
           try clear c9
           try clear c9b0
           try clear c11
           try clear c12
           try clear c13
           try clear p14
           try clear q14
           try clear hx14
           try clear p15
           try clear q15
           try clear hx15
           try clear c19
           try clear c19b0
           try clear c20
           try clear c20b0
           try clear c21
           try clear c21b0
           try clear c22
           try clear c26
           try clear c26b0
           try clear c28
           try clear c28b0
           try clear c29
           try clear c29b0
           try clear hcz10_0
           try clear hcz10_1
           try clear hcz11_0
           try clear hcz11_1
           try clear hcz8_0
           try clear hcz8_1
           try clear hfz10_0
           try clear hfz10_1
           try clear hfz11_0
           try clear hfz11_1
           try clear hfz8_0
           try clear hfz8_1
           try clear hx144_0
           try clear hx144_1
           try clear hx145_0
           try clear hx145_1
           try clear hx149_0
           try clear hx149_1
           try clear hx150_0
           try clear hx150_1
           try clear p1
           try clear p14
           try clear p144
           try clear p145
           try clear p149
           try clear p150
           try clear p2
           try clear p6
           try clear q1
           try clear q14
           try clear q144
           try clear q145
           try clear q149
           try clear q150
           obtain ⟨kq, x77_26, rfl, HA, HJ26, HO_5, BK133, HB⟩ := hcut
           cases kq with
           | zero => exact absurd HA.out (by simp [spec_AddSpan.j3])
           | succ kj26 =>
            have H := HA.out
            clear HA
            simp only [spec_AddSpan.j3] at H
            by_cases c32 : x77_26 = true
            ·subst c32
             rw [if_pos rfl] at H
             by_cases c33 : 0 ≤ x7_3
             ·rw [if_pos c33] at H
              have c33b0 : decide (0 ≤ x7_3) = true := decide_eq_true c33
              clear c33
              by_cases c34 : x7_3 < (l0.length : Int)
              ·rw [if_pos c34] at H
               have c34b0 : decide (x7_3 < (l0.length : Int)) = true := decide_eq_true c34
               clear c34
               replace H := Option.bind_eq_some_iff.mp H
               obtain ⟨t152, A350, H⟩ := H
               try dsimp only at H
               have A35 := zM A350
               clear A350
               replace H := Option.bind_eq_some_iff.mp H
               obtain ⟨t154, A360, H⟩ := H
               try dsimp only at H
               have A36 := zM A360
               clear A360
               have H' := zM H
               clear H
               try go_wp2
               have n0_ := zM (Kd.R_drew HO_5.out)
               have n1_ := zM (blk_drew BK133.out)
               have n2_ := zM (below_drew1 HB.out)
               clear HO_5
               clear BK133
               clear HB
               have HO_5 := n0_
               have BK133 := n1_
               have HB := n2_
               clear n0_ n1_ n2_
               have p151 : 0 ≤ (x7_3 : Int) := zD
               have q151 : x7_3 < (l0.length : Int) := zD
               obtain ⟨ad151, e151, hx151_0, hx151_1⟩ := at_T26 HR0.out x7_3 p151 q151
               have hw151_1 := hx151_1
               have hw151_0 := hx151_0
               cases e151
               replace hx151_0 := (HB.out.cell (World.block_lt_of_cell? w _ hx151_0)).trans hx151_0
               replace hx151_1 := (HB.out.cell (World.block_lt_of_cell? w _ hx151_1)).trans hx151_1
               replace p151 := eq_true p151
               replace q151 := eq_true q151
               have p153 : 0 ≤ (x7_3 : Int) := zD
               have q153 : x7_3 < (l0.length : Int) := zD
               obtain ⟨ad153, e153, hx153_0, hx153_1⟩ := at_T26 HR0.out x7_3 p153 q153
               have hw153_1 := hx153_1
               have hw153_0 := hx153_0
               obtain rfl : ad151 = ad153 := (by injection e153)
               replace hx153_0 := (HB.out.cell (World.block_lt_of_cell? w _ hx153_0)).trans hx153_0
               replace hx153_1 := (HB.out.cell (World.block_lt_of_cell? w _ hx153_1)).trans hx153_1
               replace p153 := eq_true p153
               replace q153 := eq_true q153
               refine start_ (n := 18) (S := fun w' => w'.cell? ⟨gb133, 0, none⟩ = some (.int .i64 x134000_3) ∧ w'.cell? ⟨gb133, 1, none⟩ = some (.int .i64 x134001_3) ∧ w'.cell? (ad151.add ((x7_3).toNat * 2)) = some (.int .i64 ((rd_T26 l0 x7_3).f0)) ∧ w'.cell? ⟨(ad151.add ((x7_3).toNat * 2)).block, (ad151.add ((x7_3).toNat * 2)).off + 1, none⟩ = some (.int .i64 ((rd_T26 l0 x7_3).f1)) ∧ w'.cell? (ad151.add ((x7_3).toNat * 2)) = some (.int .i64 ((rd_T26 l0 x7_3).f0)) ∧ w'.cell? ⟨(ad151.add ((x7_3).toNat * 2)).block, (ad151.add ((x7_3).toNat * 2)).off + 1, none⟩ = some (.int .i64 ((rd_T26 l0 x7_3).f1))) (ds := [17]) (ba 18 0).toArray (by kernel_rfl) rfl rfl ⟨(blk_cell BK133.out 0).trans rfl, (blk_cell BK133.out 1).trans rfl, ((HB.out.cell (World.block_lt_of_cell? w _ hw151_0)).trans hw151_0), ((HB.out.cell (World.block_lt_of_cell? w _ hw151_1)).trans hw151_1), ((HB.out.cell (World.block_lt_of_cell? w _ hw153_0)).trans hw153_0), ((HB.out.cell (World.block_lt_of_cell? w _ hw153_1)).trans hw153_1)⟩ (fun hHeld => ?_); refine with_tabW spec_AddSpan.tab13 spec_AddSpan.bits13 (fun HT_ HW_ => ?_)
               generalize wc.drew = w37 at HO_5 BK133 HB hx151_0 hx151_1 hx153_0 hx153_1 hHeld ⊢
               refine zq 0 (some 78) (ba 18 1).toArray HT_ ?_
               refine zq 2 (some 80) (ba 18 5).toArray HT_ ?_
               refine zq 3 (some 81) (ba 18 13).toArray HT_ ?_
               refine zq 4 (some 82) (ba 18 29).toArray HT_ ?_
               refine zq 5 (some 83) (ba 18 61).toArray HT_ ?_
               refine zq 8 (some 86) (ba 18 317).toArray HT_ ?_
               refine zq 10 (some 88) (ba 18 1341).toArray HT_ ?_
               refine zq 11 (some 89) (ba 18 3389).toArray HT_ ?_
               refine zq 12 (some 90) (ba 18 7485).toArray HT_ ?_
               refine zq 13 (some 91) (ba 18 15677).toArray HT_ ?_
               refine zt6 1 (some 79) (ba 18 15679).toArray HT_ HW_ hHeld ?_
               refine zt6 6 (some 84) (ba 18 15743).toArray HT_ HW_ hHeld ?_
               refine zt6 9 (some 87) (ba 18 16255).toArray HT_ HW_ hHeld ?_
               refine zt6 14 (some 92) (ba 18 32639).toArray HT_ HW_ hHeld ?_
               refine one_ (i := 7) (N := some 85) (ba 18 32767).toArray rfl rfl (one_of HT_.out (by kernel_rfl)) (by decide) (fun K hK => ?_)
               refine goes_ Try.func55 (by kernel_rfl) rfl #[.int .i64 x134000_3, .int .i64 ((rd_T26 l0 x7_3).f0)] (by rfl) rfl rfl (by (try simp only [List.map_toArray, List.map_cons, List.map_nil]); first | done | rfl | (simp only [List.length_drop, List.length_take]; rfl)) ?_
               with_reducible refine (spec_Min.calls x134000_3 ((rd_T26 l0 x7_3).f0) t152 _ A35.out).mono ?_
               rintro e w' ⟨rfl, ⟨nd, rfl⟩⟩
               refine ⟨_, rfl, ?_⟩
               refine hK.out _ _ ⟨(blk_cell BK133.out 0).trans rfl, (blk_cell BK133.out 1).trans rfl, ((HB.out.cell (World.block_lt_of_cell? w _ hw151_0)).trans hw151_0), ((HB.out.cell (World.block_lt_of_cell? w _ hw151_1)).trans hw151_1), ((HB.out.cell (World.block_lt_of_cell? w _ hw153_0)).trans hw153_0), ((HB.out.cell (World.block_lt_of_cell? w _ hw153_1)).trans hw153_1)⟩ (fun hHeld => ?_)
               clear hK K
               refine norm_ (a' := ?_) ?_ ?_
               rotate_left
               ·show Act.put _ (some 85) _ = _
                simp only [Act.put, List.setIfInBounds_toArray, List.set_cons_zero, List.set_cons_succ, i64_w, i32_w]
                rfl
               refine one_ (i := 15) (N := some 93) (ba 18 65535).toArray rfl rfl (one_of HT_.out (by kernel_rfl)) (by decide) (fun K hK => ?_)
               refine goes_ Try.func56 (by kernel_rfl) rfl #[.int .i64 x134001_3, .int .i64 ((rd_T26 l0 x7_3).f1)] (by rfl) rfl rfl (by (try simp only [List.map_toArray, List.map_cons, List.map_nil]); first | done | rfl | (simp only [List.length_drop, List.length_take]; rfl)) ?_
               with_reducible refine (spec_Max.calls x134001_3 ((rd_T26 l0 x7_3).f1) t154 _ A36.out).mono ?_
               rintro e w' ⟨rfl, ⟨nd, rfl⟩⟩
               refine ⟨_, rfl, ?_⟩
               refine hK.out _ _ ⟨(blk_cell BK133.out 0).trans rfl, (blk_cell BK133.out 1).trans rfl, ((HB.out.cell (World.block_lt_of_cell? w _ hw151_0)).trans hw151_0), ((HB.out.cell (World.block_lt_of_cell? w _ hw151_1)).trans hw151_1), ((HB.out.cell (World.block_lt_of_cell? w _ hw153_0)).trans hw153_0), ((HB.out.cell (World.block_lt_of_cell? w _ hw153_1)).trans hw153_1)⟩ (fun hHeld => ?_)
               clear hK K
               refine norm_ (a' := ?_) ?_ ?_
               rotate_left
               ·show Act.put _ (some 93) _ = _
                simp only [Act.put, List.setIfInBounds_toArray, List.set_cons_zero, List.set_cons_succ, i64_w, i32_w]
                rfl
               refine zq 16 (some 94) (ba 18 131071).toArray HT_ ?_
               refine last_ (i := 17) (N := none) (ba 18 262143).toArray rfl rfl (one_of HT_.out (by kernel_rfl)) (by decide) (fun K hK => ?_)
               have hs38 : w37.cell? ⟨gb133, 0, none⟩ = some (.int .i64 x134000_3) := (blk_cell BK133.out 0).trans rfl
               have hfs38 := blk_frozen BK133.out 0
               have hs39 : w37.cell? ⟨gb133, 1, none⟩ = some (.int .i64 x134001_3) := (blk_cell BK133.out 1).trans rfl
               have hfs39 := blk_frozen BK133.out 1
               refine skip_ (w1 := ?_) (by rfl) rfl ?_ ?_
               rotate_left
               ·go_simp
                rfl
               refine hK.out _ _ ?_
               clear hK K
               refine done_ (done_of HT_.out (by kernel_rfl)) ?_
               try go_wp2
               go_roundg kj26
               case measure => have := HJ2.out; have := HK2.out; have := HK3.out; have := HJ26.out; omega
               case rel => exact ⟨(wrap64 (x7_3 + 1)), (t152), (t154), zS, H', ⟨by have := HJ2.out; have := HK2.out; have := HK3.out; have := HJ26.out; omega⟩, ⟨by (with_reducible repeat (first | apply Kd.R_alloc | apply Kd.R_drewN | apply Kd.R_drew)); exact Kd.R_mono (Kd.R_far (p := ⟨gb133, 1, none⟩) (Kd.R_far (p := ⟨gb133, 0, none⟩) (Kd.R_mono HO_5.out (fun k_ hk => (⟨hk, hk⟩ : _ ∧ k_ ≠ gb133))) (fun _ hk => hk.2) (.int .i64 t152)) (fun _ hk => hk.2) (.int .i64 t154)) (fun _ hk => hk.1)⟩, ⟨by (with_reducible repeat (first | refine blk_drewN ?_ _ | refine blk_drew ?_ | refine blk_alloc ?_ _)); refine blk_put (cs := #[.int .i64 t152, .int .i64 x134001_3]) ?_ 1 _ rfl; (with_reducible repeat (first | refine blk_drewN ?_ _ | refine blk_drew ?_ | refine blk_alloc ?_ _)); refine blk_put (cs := #[.int .i64 x134000_3, .int .i64 x134001_3]) ?_ 0 _ rfl; (with_reducible repeat (first | refine blk_drewN ?_ _ | refine blk_drew ?_ | refine blk_alloc ?_ _)); exact BK133.out⟩, ⟨(zB1 GE133.out HB.out)⟩⟩
              ·rw [if_neg c34] at H
               exact absurd H (by simp)
             ·rw [if_neg c33] at H
              exact absurd H (by simp)
            ·replace c32 := Bool.eq_false_iff.mpr c32
             subst c32
             rw [if_neg (show ¬ (false = true) by decide)] at H
             have H' := zM H
             clear H
             go_wp2
             go_roundg kj26
             case measure => have := HJ2.out; have := HK2.out; have := HK3.out; have := HJ26.out; omega
             case rel => exact ⟨(wrap64 (x7_3 + 1)), (x134000_3), (x134001_3), zS, H', ⟨by have := HJ2.out; have := HK2.out; have := HK3.out; have := HJ26.out; omega⟩, ⟨(zR HO_5.out)⟩, ⟨(zP BK133.out)⟩, ⟨(zB1 GE133.out HB.out)⟩⟩
         ·rw [if_neg c26] at H
          have c26b0 : decide (x7_3 < (l0.length : Int)) = false := decide_eq_false c26
          clear c26
          by_cases c40 : x5_2.length < 8796093022208
          ·rw [if_pos c40] at H
           have LMc40 := zM c40
           clear c40
           obtain ⟨y155, hy155⟩ : ∃ y_ : List (S26), y_ = (x5_2 ++ [(⟨x134000_3, x134001_3⟩ : S26)]) := ⟨_, rfl⟩
           replace H : (spec_AddSpan.l2 k3 l0 y155 0 x134000_3 x134001_3) = some r := zH hy155 H
           have Ny155 := zM hy155
           clear hy155
           have H' := zM H
           clear H
           have hcz41_0 : wr.cell? ⟨gb133, 0, none⟩ = some (.int .i64 x134000_3) := (blk_cell BK133.out 0).trans rfl
           have hcz41_1 : wr.cell? ⟨gb133, 1, none⟩ = some (.int .i64 x134001_3) := (blk_cell BK133.out 1).trans rfl
           have hfz41_0 := blk_frozen BK133.out 0
           have hfz41_1 := blk_frozen BK133.out 1
           go_wp2_with (first | ((with_reducible refine gate_builtin (b := .append) (xs := #[.tmp 95, .tmp 97]) rfl ?_); at_builtin; refine Kd.R_append k26 (w0 := w) w.heap.size rfl (.tmp 95) (.tmp 97) 24 26 (.agg #[(.int .i64 0), (.int .i64 0)]) 16 rfl Try.underlying24 info26 rfl (by decide) (by omega) u5 x5_2 (⟨x134000_3, x134001_3⟩ : S26) [.int .i64 x134000_3, .int .i64 x134001_3] (fun k_ => k_ ≠ gb133) (fun _ => False) rfl rfl ?aP (fun _ hk => hk.elim) ?aF ?aO ?aB ?aS ?aL ?_; (case aP => exact k26_mkM _ _ _ (⟨x134000_3, x134001_3⟩ : S26)); (case aB => exact (zB1 GE133.out HB.out)); (case aF => exact (fun k_ hk => Kd.freshB (g := gb133) (o := .cells #[.int .i64 x134000_3, .int .i64 x134001_3] 26 (0, 0)) (zP BK133.out) k_ hk)); (case aO => exact (zR HO_5.out)); (case aS => exact (below_size (zB1 GE133.out HB.out))); (case aL => have := LMc40.out; omega); intro v156 w42 ho hb hg hat; rw [← Ny155.out] at ho; have n0_ := zM (blk_grown (g := gb133) (o := .cells #[.int .i64 x134000_3, .int .i64 x134001_3] 26 (0, 0)) (zP BK133.out) hg (Kd.R_away HO_5.out (fun _ hk => hk))); have n1_ := zM (hb); have n2_ := zM (ho); clear BK133; clear HB; clear HO_5; have BK133 := n0_; have HB := n1_; have HO157 := n2_; clear n0_ n1_ n2_; clear ho hb hg hat))
           go_loopg [5, 8] k3 (fun kq v5 v8 w' => ∃ (x5_4 : List (S26)) (x8_4 : Int), v8 = .int .i64 x8_4 ∧ Aside0 (spec_AddSpan.l2 kq l0 x5_4 x8_4 x134000_3 x134001_3 = some r) ∧ Aside0 (kq ≤ k3) ∧ Aside0 (Kd.R k26 26 w' w.heap.size (fun k_ => k_ ≠ gb133) v5 x5_4) ∧ Aside0 (w'.heap[gb133]? = some (.cells #[.int .i64 x134000_3, .int .i64 x134001_3] 26 (0, 0))) ∧ Aside0 (Below w.heap.size w w'))
           case atStart => exact ⟨(y155), (0), zS, H', ⟨Nat.le_refl _⟩, ⟨(zR HO157.out)⟩, ⟨(zP BK133.out)⟩, ⟨(zB1 GE133.out HB.out)⟩⟩
           case round =>
            clear H'
            try clear c1
            try clear p1
            try clear q1
            try clear hx1
            try clear c2
            try clear p2
            try clear c3
            try clear c4
            try clear c5
            try clear c6
            try clear p6
            try clear c7
            try clear c7b0
            try clear c9
            try clear c9b0
            try clear c11
            try clear c12
            try clear c13
            try clear p14
            try clear q14
            try clear hx14
            try clear p15
            try clear q15
            try clear hx15
            try clear c19
            try clear c19b0
            try clear c20
            try clear c20b0
            try clear c21
            try clear c21b0
            try clear c22
            try clear c26
            try clear c26b0
            try clear c28
            try clear c28b0
            try clear c29
            try clear c29b0
            try clear c32
            try clear c33
            try clear c33b0
            try clear c34
            try clear c34b0
            try clear c40
            try clear hcz10_0
            try clear hcz10_1
            try clear hcz11_0
            try clear hcz11_1
            try clear hcz41_0
            try clear hcz41_1
            try clear hcz8_0
            try clear hcz8_1
            try clear hfz10_0
            try clear hfz10_1
            try clear hfz11_0
            try clear hfz11_1
            try clear hfz41_0
            try clear hfz41_1
            try clear hfz8_0
            try clear hfz8_1
            try clear hx144_0
            try clear hx144_1
            try clear hx145_0
            try clear hx145_1
            try clear hx149_0
            try clear hx149_1
            try clear hx150_0
            try clear hx150_1
            try clear hx151_0
            try clear hx151_1
            try clear hx153_0
            try clear hx153_1
            try clear p1
            try clear p14
            try clear p144
            try clear p145
            try clear p149
            try clear p15
            try clear p150
            try clear p151
            try clear p153
            try clear p2
            try clear p6
            try clear q1
            try clear q14
            try clear q144
            try clear q145
            try clear q149
            try clear q15
            try clear q150
            try clear q151
            try clear q153
            obtain ⟨x5_4, x8_4, rfl, HA, HK4, HO_5, BK133, HB⟩ := hrel
            cases gk with
            | zero => exact absurd HA.out (by simp [spec_AddSpan.l2])
            | succ k4 =>
             have H := HA.out
             clear HA
             simp only [spec_AddSpan.l2] at H
             by_cases c43 : x8_4 < (l0.length : Int)
             ·rw [if_pos c43] at H
              have c43b0 : decide (x8_4 < (l0.length : Int)) = true := decide_eq_true c43
              clear c43
              by_cases c44 : 0 ≤ x8_4
              ·rw [if_pos c44] at H
               have c44b0 : decide (0 ≤ x8_4) = true := decide_eq_true c44
               clear c44
               by_cases c45 : ((rd_T26 l0 x8_4).f0) > x134001_3
               ·rw [if_pos c45] at H
                have c45b0 : decide (x134001_3 < ((rd_T26 l0 x8_4).f0)) = true := decide_eq_true c45
                clear c45
                by_cases c46 : x5_4.length < 8796093022208
                ·rw [if_pos c46] at H
                 have LMc46 := zM c46
                 clear c46
                 obtain ⟨y160, hy160⟩ : ∃ y_ : List (S26), y_ = (x5_4 ++ [(⟨(rd_T26 l0 x8_4).f0, (rd_T26 l0 x8_4).f1⟩ : S26)]) := ⟨_, rfl⟩
                 replace H : (spec_AddSpan.l2 k4 l0 y160 (wrap64 (x8_4 + 1)) x134000_3 x134001_3) = some r := zH hy160 H
                 have Ny160 := zM hy160
                 clear hy160
                 have H' := zM H
                 clear H
                 try go_wp2
                 have n0_ := zM (Kd.R_drew HO_5.out)
                 have n1_ := zM (blk_drew BK133.out)
                 have n2_ := zM (below_drew1 HB.out)
                 clear HO_5
                 clear BK133
                 clear HB
                 have HO_5 := n0_
                 have BK133 := n1_
                 have HB := n2_
                 clear n0_ n1_ n2_
                 have p158 : 0 ≤ (x8_4 : Int) := zD
                 have q158 : x8_4 < (l0.length : Int) := zD
                 obtain ⟨ad158, e158, hx158_0, hx158_1⟩ := at_T26 HR0.out x8_4 p158 q158
                 have hw158_1 := hx158_1
                 have hw158_0 := hx158_0
                 cases e158
                 replace hx158_0 := (HB.out.cell (World.block_lt_of_cell? w _ hx158_0)).trans hx158_0
                 replace hx158_1 := (HB.out.cell (World.block_lt_of_cell? w _ hx158_1)).trans hx158_1
                 replace p158 := eq_true p158
                 replace q158 := eq_true q158
                 refine start_ (n := 8) (S := fun w' => w'.cell? ⟨gb133, 0, none⟩ = some (.int .i64 x134000_3) ∧ w'.cell? ⟨gb133, 1, none⟩ = some (.int .i64 x134001_3) ∧ w'.cell? (ad158.add ((x8_4).toNat * 2)) = some (.int .i64 ((rd_T26 l0 x8_4).f0)) ∧ w'.cell? ⟨(ad158.add ((x8_4).toNat * 2)).block, (ad158.add ((x8_4).toNat * 2)).off + 1, none⟩ = some (.int .i64 ((rd_T26 l0 x8_4).f1))) (ds := []) (ba 8 0).toArray (by kernel_rfl) rfl rfl ⟨(blk_cell BK133.out 0).trans rfl, (blk_cell BK133.out 1).trans rfl, ((HB.out.cell (World.block_lt_of_cell? w _ hw158_0)).trans hw158_0), ((HB.out.cell (World.block_lt_of_cell? w _ hw158_1)).trans hw158_1)⟩ (fun hHeld => ?_); refine with_tabW spec_AddSpan.tab18 spec_AddSpan.bits18 (fun HT_ HW_ => ?_)
                 generalize wr.drew = w47 at HO_5 BK133 HB hx158_0 hx158_1 hHeld ⊢
                 refine zq 0 (some 105) (ba 8 1).toArray HT_ ?_
                 refine zq 1 (some 106) (ba 8 3).toArray HT_ ?_
                 refine zq 2 (some 107) (ba 8 7).toArray HT_ ?_
                 refine zq 3 (some 108) (ba 8 15).toArray HT_ ?_
                 refine zq 5 (some 110) (ba 8 47).toArray HT_ ?_
                 refine zt4 4 (some 109) (ba 8 63).toArray HT_ HW_ hHeld ?_
                 refine zt4 6 (some 111) (ba 8 127).toArray HT_ HW_ hHeld ?_
                 refine zq 7 (some 112) (ba 8 255).toArray HT_ ?_
                 refine done_ (done_of HT_.out (by kernel_rfl)) ?_
                 have p159 : 0 ≤ (x8_4 : Int) := zD
                 have q159 : x8_4 < (l0.length : Int) := zD
                 obtain ⟨ad159, e159, hx159_0, hx159_1⟩ := at_T26 HR0.out x8_4 p159 q159
                 obtain rfl : ad158 = ad159 := (by injection e159)
                 replace hx159_0 := (HB.out.cell (World.block_lt_of_cell? w _ hx159_0)).trans hx159_0
                 replace hx159_1 := (HB.out.cell (World.block_lt_of_cell? w _ hx159_1)).trans hx159_1
                 replace p159 := eq_true p159
                 replace q159 := eq_true q159
                 try go_wp2_with (first | ((with_reducible refine gate_builtin (b := .append) (xs := #[.tmp 113, .tmp 118]) rfl ?_); at_builtin; refine Kd.R_append k26 (w0 := w) w.heap.size rfl (.tmp 113) (.tmp 118) 24 26 (.agg #[(.int .i64 0), (.int .i64 0)]) 16 rfl Try.underlying24 info26 rfl (by decide) (by omega) u5 x5_4 (⟨(rd_T26 l0 x8_4).f0, (rd_T26 l0 x8_4).f1⟩ : S26) [.int .i64 ((rd_T26 l0 x8_4).f0), .int .i64 ((rd_T26 l0 x8_4).f1)] (fun k_ => k_ ≠ gb133) (fun _ => False) rfl rfl ?aP (fun _ hk => hk.elim) ?aF ?aO ?aB ?aS ?aL ?_; (case aP => exact k26_mkM _ _ _ (⟨(rd_T26 l0 x8_4).f0, (rd_T26 l0 x8_4).f1⟩ : S26)); (case aB => exact (zB1 GE133.out HB.out)); (case aF => exact (fun k_ hk => Kd.freshB (g := gb133) (o := .cells #[.int .i64 x134000_3, .int .i64 x134001_3] 26 (0, 0)) (zP BK133.out) k_ hk)); (case aO => exact (zR HO_5.out)); (case aS => exact (below_size (zB1 GE133.out HB.out))); (case aL => have := LMc46.out; omega); intro v161 w48 ho hb hg hat; rw [← Ny160.out] at ho; have n0_ := zM (blk_grown (g := gb133) (o := .cells #[.int .i64 x134000_3, .int .i64 x134001_3] 26 (0, 0)) (zP BK133.out) hg (Kd.R_away HO_5.out (fun _ hk => hk))); have n1_ := zM (hb); have n2_ := zM (ho); clear BK133; clear HB; clear HO_5; have BK133 := n0_; have HB := n1_; have HO162 := n2_; clear n0_ n1_ n2_; clear ho hb hg hat))
                 go_roundg k4
                 case measure => have := HJ2.out; have := HK2.out; have := HK3.out; have := HK4.out; omega
                 case rel => exact ⟨(y160), (wrap64 (x8_4 + 1)), zS, H', ⟨by have := HJ2.out; have := HK2.out; have := HK3.out; have := HK4.out; omega⟩, ⟨(zR HO162.out)⟩, ⟨(zP BK133.out)⟩, ⟨(zB1 GE133.out HB.out)⟩⟩
                ·rw [if_neg c46] at H
                 exact absurd H (by simp)
               ·rw [if_neg c45] at H
                have c45b0 : decide (x134001_3 < ((rd_T26 l0 x8_4).f0)) = false := decide_eq_false c45
                clear c45
                have H' := zM H
                clear H
                try go_wp2
                have n0_ := zM (Kd.R_drew HO_5.out)
                have n1_ := zM (blk_drew BK133.out)
                have n2_ := zM (below_drew1 HB.out)
                clear HO_5
                clear BK133
                clear HB
                have HO_5 := n0_
                have BK133 := n1_
                have HB := n2_
                clear n0_ n1_ n2_
                have p158 : 0 ≤ (x8_4 : Int) := zD
                have q158 : x8_4 < (l0.length : Int) := zD
                obtain ⟨ad158, e158, hx158_0, hx158_1⟩ := at_T26 HR0.out x8_4 p158 q158
                have hw158_1 := hx158_1
                have hw158_0 := hx158_0
                cases e158
                replace hx158_0 := (HB.out.cell (World.block_lt_of_cell? w _ hx158_0)).trans hx158_0
                replace hx158_1 := (HB.out.cell (World.block_lt_of_cell? w _ hx158_1)).trans hx158_1
                replace p158 := eq_true p158
                replace q158 := eq_true q158
                refine start_ (n := 8) (S := fun w' => w'.cell? ⟨gb133, 0, none⟩ = some (.int .i64 x134000_3) ∧ w'.cell? ⟨gb133, 1, none⟩ = some (.int .i64 x134001_3) ∧ w'.cell? (ad158.add ((x8_4).toNat * 2)) = some (.int .i64 ((rd_T26 l0 x8_4).f0)) ∧ w'.cell? ⟨(ad158.add ((x8_4).toNat * 2)).block, (ad158.add ((x8_4).toNat * 2)).off + 1, none⟩ = some (.int .i64 ((rd_T26 l0 x8_4).f1))) (ds := []) (ba 8 0).toArray (by kernel_rfl) rfl rfl ⟨(blk_cell BK133.out 0).trans rfl, (blk_cell BK133.out 1).trans rfl, ((HB.out.cell (World.block_lt_of_cell? w _ hw158_0)).trans hw158_0), ((HB.out.cell (World.block_lt_of_cell? w _ hw158_1)).trans hw158_1)⟩ (fun hHeld => ?_); refine with_tabW spec_AddSpan.tab18 spec_AddSpan.bits18 (fun HT_ HW_ => ?_)
                generalize wr.drew = w49 at HO_5 BK133 HB hx158_0 hx158_1 hHeld ⊢
                refine zq 0 (some 105) (ba 8 1).toArray HT_ ?_
                refine zq 1 (some 106) (ba 8 3).toArray HT_ ?_
                refine zq 2 (some 107) (ba 8 7).toArray HT_ ?_
                refine zq 3 (some 108) (ba 8 15).toArray HT_ ?_
                refine zq 5 (some 110) (ba 8 47).toArray HT_ ?_
                refine zt4 4 (some 109) (ba 8 63).toArray HT_ HW_ hHeld ?_
                refine zt4 6 (some 111) (ba 8 127).toArray HT_ HW_ hHeld ?_
                refine zq 7 (some 112) (ba 8 255).toArray HT_ ?_
                refine done_ (done_of HT_.out (by kernel_rfl)) ?_
                try go_wp2
                go_roundg k4
                case measure => have := HJ2.out; have := HK2.out; have := HK3.out; have := HK4.out; omega
                case rel => exact ⟨(x5_4), (wrap64 (x8_4 + 1)), zS, H', ⟨by have := HJ2.out; have := HK2.out; have := HK3.out; have := HK4.out; omega⟩, ⟨(zR HO_5.out)⟩, ⟨(zP BK133.out)⟩, ⟨(zB1 GE133.out HB.out)⟩⟩
              ·rw [if_neg c44] at H
               exact absurd H (by simp)
             ·rw [if_neg c43] at H
              have c43b0 : decide (x8_4 < (l0.length : Int)) = false := decide_eq_false c43
              clear c43
              obtain rfl := Option.some.inj H
              go_wp2
              go_ret
              exact ⟨_, zE, (zRm HO_5.out (fun _ hk => trivial)), (zB1 GE133.out HB.out)⟩
          ·rw [if_neg c40] at H
           exact absurd H (by simp)

end Go.Proofs.Yteahdfibipalkaa.G

namespace Go.Proofs.Yteahdfibipalkaa.G
open Go.RowKit Go.Proofs.YteahdfibipalkaaW.PrintWords Go.Proofs.YteahdfibipalkaaW.PrintLast Go.Proofs.YteahdfibipalkaaW.PrintMore
attribute [local go_sem] max2_int min2_int max_two min_two max_three min_three max_four min_four   -- for this text's walks alone
set_option linter.unusedVariables false
set_option linter.unusedSimpArgs false

/-! ### spec_l9Set: function 34 -/
set_option maxHeartbeats 8000000 in
set_option maxRecDepth 100000 in
theorem spec_l9Set.calls (k : Nat) (g : Nat) (s0_0 : List Int) (s0_1 : Int) (s0_2 : Int) (r1 : List (S26)) (r2 : Int) (r3 : Int) (w0 w : World) (hI : IsS73 w0 w g s0_0 s0_1 s0_2) (hB : Below w0.heap.size w0 w) (h : spec_l9Set.f k s0_0 s0_1 s0_2 = some (r1, r2, r3)) :
  Calls Try.prog 34 #[.pointer (some ⟨g, 0, none⟩)] w fun e w' => ∃ v0_ : Value, e = .returned (v0_) ∧ Kd.R k26 26 w' w.heap.size (fun _ => True) v0_ r1 ∧ IsS73 w0 w' g s0_0 r2 r3 ∧ Below w0.heap.size w0 w' ∧ KeepBut w w' g none := by
 have HI0 := zM hI
 have HK := zM (KeepBut.refl w g none)
 have HL := zM hB.size
 clear hI
 have HW0 := zM hB.size
 have HB := zM hB
 clear hB
 have H : ((spec_l1Below.f s0_0 s0_1 s0_2 5).bind fun bt166 => (spec_l9Set.l0 k (([] : List (S26))) bt166.1 s0_0 bt166.2.1 bt166.2.2)) = some (r1, r2, r3) := h
 clear h
 obtain ⟨y163, hy163⟩ : ∃ y_ : List (S26), y_ = (([] : List (S26))) := ⟨_, rfl⟩
 replace H : ((spec_l1Below.f s0_0 s0_1 s0_2 5).bind fun bt166 => (spec_l9Set.l0 k y163 bt166.1 s0_0 bt166.2.1 bt166.2.2)) = some (r1, r2, r3) := zH hy163 H
 have Ny163 := zM hy163
 clear hy163
 replace H := Option.bind_eq_some_iff.mp H
 obtain ⟨⟨t166, t167, t168⟩, A20, H⟩ := H
 try dsimp only at H
 have A2 := zM A20
 clear A20
 have H' := zM H
 clear H
 go_enter Try.func34, Try.ntmps34
 go_wp2_with (first | ((with_reducible refine gate_dst (N := 5) rfl ?_); refine Kd.R_lit k26 _ 26 ?hg (N := 5) ?hd (xs := ([] : List (S26))) (inner := []) (ok := fun _ => True) (okp := fun _ => True) ?hr ?hp (fun _ hk => hk) trivial (Below.refl _ _) (Nat.le_refl _) (by simp) ?_; (case hd => rfl); (case hg => rfl); (case hr => first | (go_simp; done) | (go_simp; rfl)); (case hp => exact (Reps.none _ _)); intro v164 w3 ho4 hb hg_ hnew_; clear hg_ hnew_; (first | rw [← Ny163.out] at ho4 | (simp only [Int.reduceToNat] at ho4; rw [← Ny163.out] at ho4)); have n0_ := zM (Kd.R_lower ho4 (keep_size (w := w) (g := g) (row := none) (zU HK.out))); have n1_ := zM (IsS73.below (zI73 HI0.out) hb); have n2_ := zM (KeepBut.trans (zU HK.out) (KeepBut.of_below hb g none) (.inl rfl)); have n3_ := zM (below_step (zB1 (IsS73.ge HI0.out) HB.out) hb); clear HI0; clear HK; clear HB; have HO165 := n0_; have HI0 := n1_; have HK := n2_; have HB := n3_; clear n0_ n1_ n2_ n3_; clear hb ho4) | ((with_reducible refine gate_callee (f := 41) rfl ?_); refine zG (some 7) Try.func41 #[.pointer (some ⟨g, 0, none⟩), .int .i64 5] ?_; (with_reducible refine (spec_l1Below.calls g s0_0 s0_1 s0_2 5 t166 t167 t168 w0 _ ?side1 ?side2 A2.out).mono ?_); (case side1 => exact (zI73 HI0.out)); (case side2 => exact (zB1 (IsS73.ge HI0.out) HB.out)); rintro e w5 ⟨rfl, hi, hb, hk⟩; refine ⟨_, rfl, ?_⟩; have n0_ := zM (Kd.R_mono (Kd.R_keep (IsS73.apart (show IsS73 w0 _ g s0_0 s0_1 s0_2 from (zI73 HI0.out)) (zR HO165.out) (by decide)) hk (fun _ h => h.2)) (fun _ h => h.1)); have n1_ := zM (KeepBut.trans (zU HK.out) hk (.inl rfl)); have n2_ := zM (hb); have n3_ := zM (hi); clear HO165; clear HK; clear HB; clear HI0; have HO165 := n0_; have HK := n1_; have HB := n2_; have HI0 := n3_; clear n0_ n1_ n2_ n3_; (try clear hb); (try clear hb2); (try clear hk); (try clear hi)))
 go_loopg [3, 4] k (fun kq v3 v4 w' => ∃ (x3_1 : List (S26)) (x4_1 : Int) (x1001_1 : Int) (x1002_1 : Int), v4 = .int .i64 x4_1 ∧ Aside0 (spec_l9Set.l0 kq x3_1 x4_1 s0_0 x1001_1 x1002_1 = some (r1, r2, r3)) ∧ Aside0 (kq ≤ k) ∧ Aside0 (Kd.R k26 26 w' w.heap.size (fun _ => True) v3 x3_1) ∧ Aside0 (IsS73 w0 w' g s0_0 x1001_1 x1002_1) ∧ Aside0 (KeepBut w w' g none) ∧ Aside0 (Below w0.heap.size w0 w'))
 case atStart => exact ⟨(y163), (t166), (t167), (t168), zS, H', ⟨Nat.le_refl _⟩, ⟨(zR HO165.out)⟩, ⟨(zI73 HI0.out)⟩, ⟨(zU HK.out)⟩, ⟨(zB1 (IsS73.ge HI0.out) HB.out)⟩⟩
 case round =>
  clear H'
  try clear p2
  try clear c3
  try clear c4
  obtain ⟨x3_1, x4_1, x1001_1, x1002_1, rfl, HA, HK1, HO_3, HI0, HK, HB⟩ := hrel
  cases gk with
  | zero => exact absurd HA.out (by simp [spec_l9Set.l0])
  | succ k1 =>
   have H := HA.out
   clear HA
   simp only [spec_l9Set.l0] at H
   by_cases c6 : x4_1 > 0
   ·rw [if_pos c6] at H
    have c6b0 : decide (0 < x4_1) = true := decide_eq_true c6
    clear c6
    replace H := Option.bind_eq_some_iff.mp H
    obtain ⟨⟨t169, t170, t171, t172⟩, A70, H⟩ := H
    try dsimp only at H
    have A7 := zM A70
    clear A70
    replace H := Option.bind_eq_some_iff.mp H
    obtain ⟨t173, A80, H⟩ := H
    try dsimp only at H
    have A8 := zM A80
    clear A80
    have H' := zM H
    clear H
    go_wp2_with (first | ((with_reducible refine gate_callee (f := 35) rfl ?_); refine zG (some 14) Try.func35 #[.pointer (some ⟨g, 0, none⟩)] ?_; (with_reducible refine (spec_l9Span.calls g s0_0 x1001_1 x1002_1 t169 t170 t171 t172 w0 _ ?side1 ?side2 A7.out).mono ?_); (case side1 => exact (zI73 HI0.out)); (case side2 => exact (zB1 (IsS73.ge HI0.out) HB.out)); rintro e w9 ⟨rfl, hi, hb, hk⟩; refine ⟨_, rfl, ?_⟩; have n0_ := zM (Kd.R_mono (Kd.R_keep (IsS73.apart (show IsS73 w0 _ g s0_0 x1001_1 x1002_1 from (zI73 HI0.out)) (zR HO_3.out) (by decide)) hk (fun _ h => h.2)) (fun _ h => h.1)); have n1_ := zM (KeepBut.trans (zU HK.out) hk (.inl rfl)); have n2_ := zM (hb); have n3_ := zM (hi); clear HO_3; clear HK; clear HB; clear HI0; have HO_3 := n0_; have HK := n1_; have HB := n2_; have HI0 := n3_; clear n0_ n1_ n2_ n3_; (try clear hb); (try clear hb2); (try clear hk); (try clear hi); obtain ⟨Ao10, co10, eo10⟩ := Kd.R_slice HO_3.out; subst eo10) | ((with_reducible refine gate_callee (f := 43) rfl ?_); refine zG (some 15) Try.func43 #[.slice Ao10 x3_1.length co10, .agg #[.int .i64 t169, .int .i64 t170]] ?_; (with_reducible refine (spec_AddSpan.calls k1 _ _ x3_1 t169 t170 t173 _ ?side1 ?side2 A8.out).mono ?_); (case side1 => exact (zC ((Kd.R_reads' HO_3.out).2.2))); (case side2 => exact (Kd.R_reads' HO_3.out).2.1); rintro e w11 ⟨v174, rfl, ho0, hb⟩; refine ⟨_, rfl, ?_⟩; have n0_ := zM (Kd.R_elder' (zR HO_3.out) (Kd.R_base ho0) hb); have n1_ := zM (Kd.R_lower (Kd.R_new' ho0 (Kd.R_lt (zR HO_3.out))) (keep_size (w := w) (g := g) (row := none) (zU HK.out))); have n2_ := zM (IsS73.below (zI73 HI0.out) hb); have n3_ := zM (KeepBut.trans (zU HK.out) (KeepBut.of_below hb g none) (.inl rfl)); have n4_ := zM (below_step (zB1 (IsS73.ge HI0.out) HB.out) hb); clear HO_3; clear HI0; clear HK; clear HB; have HO_3 := n0_; have HO175 := n1_; have HI0 := n2_; have HK := n3_; have HB := n4_; clear n0_ n1_ n2_ n3_ n4_; (try clear hb); (try clear hb2); (try clear hk); (try clear hi); (try clear ho0)))
    go_roundg k1
    case measure => have := HK1.out; omega
    case rel => exact ⟨(t173), (wrap64 (x4_1 - 1)), (t171), (t172), zS, H', ⟨by have := HK1.out; omega⟩, ⟨(zRm HO175.out (fun _ hk => trivial))⟩, ⟨(zI73 HI0.out)⟩, ⟨(zU HK.out)⟩, ⟨(zB1 (IsS73.ge HI0.out) HB.out)⟩⟩
   ·rw [if_neg c6] at H
    have c6b0 : decide (0 < x4_1) = false := decide_eq_false c6
    clear c6
    replace H := Option.bind_eq_some_iff.mp H
    obtain ⟨⟨t176, t177, t178⟩, A120, H⟩ := H
    try dsimp only at H
    have A12 := zM A120
    clear A120
    by_cases c13 : t176 = true
    ·subst c13
     rw [if_pos rfl] at H
     replace H := Option.bind_eq_some_iff.mp H
     obtain ⟨⟨t179, t180, t181, t182⟩, A140, H⟩ := H
     try dsimp only at H
     have A14 := zM A140
     clear A140
     by_cases c15 : x3_1.length < 8796093022208
     ·rw [if_pos c15] at H
      have LMc15 := zM c15
      clear c15
      obtain ⟨y183, hy183⟩ : ∃ y_ : List (S26), y_ = (x3_1 ++ [(⟨t179, t180⟩ : S26)]) := ⟨_, rfl⟩
      replace H : (some (y183, t181, t182)) = some (r1, r2, r3) := zH hy183 H
      have Ny183 := zM hy183
      clear hy183
      simp only [Option.some.injEq, Prod.mk.injEq] at H
      obtain ⟨rfl, rfl, rfl⟩ := H
      go_wp2_with (first | ((with_reducible refine gate_callee (f := 36) rfl ?_); refine zG (some 17) Try.func36 #[.pointer (some ⟨g, 0, none⟩), .int .i64 9] ?_; (with_reducible refine (spec_l1Once.calls g s0_0 x1001_1 x1002_1 9 true t177 t178 w0 _ ?side1 ?side2 A12.out).mono ?_); (case side1 => exact (zI73 HI0.out)); (case side2 => exact (zB1 (IsS73.ge HI0.out) HB.out)); rintro e w16 ⟨rfl, hi, hb, hk⟩; refine ⟨_, rfl, ?_⟩; have n0_ := zM (Kd.R_mono (Kd.R_keep (IsS73.apart (show IsS73 w0 _ g s0_0 x1001_1 x1002_1 from (zI73 HI0.out)) (zR HO_3.out) (by decide)) hk (fun _ h => h.2)) (fun _ h => h.1)); have n1_ := zM (KeepBut.trans (zU HK.out) hk (.inl rfl)); have n2_ := zM (hb); have n3_ := zM (hi); clear HO_3; clear HK; clear HB; clear HI0; have HO_3 := n0_; have HK := n1_; have HB := n2_; have HI0 := n3_; clear n0_ n1_ n2_ n3_; (try clear hb); (try clear hb2); (try clear hk); (try clear hi)) | ((with_reducible refine gate_callee (f := 35) rfl ?_); refine zG (some 20) Try.func35 #[.pointer (some ⟨g, 0, none⟩)] ?_; (with_reducible refine (spec_l9Span.calls g s0_0 t177 t178 t179 t180 t181 t182 w0 _ ?side1 ?side2 A14.out).mono ?_); (case side1 => exact (zI73 HI0.out)); (case side2 => exact (zB1 (IsS73.ge HI0.out) HB.out)); rintro e w17 ⟨rfl, hi, hb, hk⟩; refine ⟨_, rfl, ?_⟩; have n0_ := zM (Kd.R_mono (Kd.R_keep (IsS73.apart (show IsS73 w0 _ g s0_0 t177 t178 from (zI73 HI0.out)) (zR HO_3.out) (by decide)) hk (fun _ h => h.2)) (fun _ h => h.1)); have n1_ := zM (KeepBut.trans (zU HK.out) hk (.inl rfl)); have n2_ := zM (hb); have n3_ := zM (hi); clear HO_3; clear HK; clear HB; clear HI0; have HO_3 := n0_; have HK := n1_; have HB := n2_; have HI0 := n3_; clear n0_ n1_ n2_ n3_; (try clear hb); (try clear hb2); (try clear hk); (try clear hi)) | ((with_reducible refine gate_builtin (b := .append) (xs := #[.tmp 18, .tmp 21]) rfl ?_); at_builtin; refine Kd.R_append k26 w.heap.size rfl (.tmp 18) (.tmp 21) 24 26 (.agg #[(.int .i64 0), (.int .i64 0)]) 16 rfl Try.underlying24 info26 rfl (by decide) (by omega) u3 x3_1 (⟨t179, t180⟩ : S26) [.int .i64 t179, .int .i64 t180] (fun _ => True) (fun _ => False) rfl rfl ?aP (fun _ hk => hk.elim) ?aF ?aO (Below.refl _ _) ?aS ?aL ?_; (case aP => exact k26_mkM _ _ _ (⟨t179, t180⟩ : S26)); (case aF => exact (fun _ _ => trivial)); (case aO => exact (zR HO_3.out)); (case aS => exact (keep_size (w := w) (g := g) (row := none) (zU HK.out))); (case aL => have := LMc15.out; omega); intro v184 w18 ho hb hg hat; rw [← Ny183.out] at ho; have n0_ := zM (IsS73.grown (zI73 HI0.out) hg (IsS73.own_ne HI0.out HO_3.out (by decide))); have n1_ := zM (below_weaken (zB1 (IsS73.ge HI0.out) HB.out) HL.out hb); have n2_ := zM (KeepBut.trans (zU HK.out) (KeepBut.of_grown hg g) (Kd.R_base2 HO_3.out)); have n3_ := zM (ho); clear HI0; clear HB; clear HK; clear HO_3; have HI0 := n0_; have HB := n1_; have HK := n2_; have HO185 := n3_; clear n0_ n1_ n2_ n3_; clear ho hb hg hat))
      go_ret
      exact ⟨_, zE, (zR HO185.out), (zI73 HI0.out), (zB1 (IsS73.ge HI0.out) HB.out), (zU HK.out)⟩
     ·rw [if_neg c15] at H
      exact absurd H (by simp)
    ·replace c13 := Bool.eq_false_iff.mpr c13
     subst c13
     rw [if_neg (show ¬ (false = true) by decide)] at H
     simp only [Option.some.injEq, Prod.mk.injEq] at H
     obtain ⟨rfl, rfl, rfl⟩ := H
     go_wp2_with (first | ((with_reducible refine gate_callee (f := 36) rfl ?_); refine zG (some 17) Try.func36 #[.pointer (some ⟨g, 0, none⟩), .int .i64 9] ?_; (with_reducible refine (spec_l1Once.calls g s0_0 x1001_1 x1002_1 9 false t177 t178 w0 _ ?side1 ?side2 A12.out).mono ?_); (case side1 => exact (zI73 HI0.out)); (case side2 => exact (zB1 (IsS73.ge HI0.out) HB.out)); rintro e w19 ⟨rfl, hi, hb, hk⟩; refine ⟨_, rfl, ?_⟩; have n0_ := zM (Kd.R_mono (Kd.R_keep (IsS73.apart (show IsS73 w0 _ g s0_0 x1001_1 x1002_1 from (zI73 HI0.out)) (zR HO_3.out) (by decide)) hk (fun _ h => h.2)) (fun _ h => h.1)); have n1_ := zM (KeepBut.trans (zU HK.out) hk (.inl rfl)); have n2_ := zM (hb); have n3_ := zM (hi); clear HO_3; clear HK; clear HB; clear HI0; have HO_3 := n0_; have HK := n1_; have HB := n2_; have HI0 := n3_; clear n0_ n1_ n2_ n3_; (try clear hb); (try clear hb2); (try clear hk); (try clear hi)))
     go_ret
     exact ⟨_, zE, (zR HO_3.out), (zI73 HI0.out), (zB1 (IsS73.ge HI0.out) HB.out), (zU HK.out)⟩

end Go.Proofs.Yteahdfibipalkaa.G

namespace Go.Proofs.Yteahdfibipalkaa.G
open Go.RowKit Go.Proofs.YteahdfibipalkaaW.PrintWords Go.Proofs.YteahdfibipalkaaW.PrintLast Go.Proofs.YteahdfibipalkaaW.PrintMore
attribute [local go_sem] max2_int min2_int max_two min_two max_three min_three max_four min_four   -- for this text's walks alone
set_option linter.unusedVariables false
set_option linter.unusedSimpArgs false

/-! ### spec_l1Int: function 51 -/
set_option maxHeartbeats 8000000 in
set_option maxRecDepth 100000 in
theorem spec_l1Int.calls (g : Nat) (s0_0 : List Int) (s0_1 : Int) (s0_2 : Int) (A1 : Option Addr) (c1 : Nat) (l1 : List Int) (r1 : Int) (r2 : Int) (r3 : Int) (w0 w : World) (hI : IsS73 w0 w g s0_0 s0_1 s0_2) (hB : Below w0.heap.size w0 w) (hr1 : Kd.C (Kd.int .i64) w A1 l1.length l1) (hc1 : l1.length ≤ c1) (hf1 : ∀ ad, A1 = some ad → 0 < l1.length → ad.block ≠ g) (h : spec_l1Int.f s0_0 s0_1 s0_2 l1 = some (r1, r2, r3)) :
  Calls Try.prog 51 #[.pointer (some ⟨g, 0, none⟩), .slice A1 l1.length c1] w fun e w' => e = .returned (.int .i64 r1) ∧ IsS73 w0 w' g s0_0 r2 r3 ∧ Below w0.heap.size w0 w' ∧ KeepBut w w' g none := by
 have HR1 := zM hr1
 have HC1 := zM hc1
 clear hr1 hc1
 have HI0 := zM hI
 have HK := zM (KeepBut.refl w g none)
 have HL := zM hB.size
 clear hI
 have HW0 := zM hB.size
 have HB := zM hB
 clear hB
 have H : ((spec_l1Below.f s0_0 s0_1 s0_2 (l1.length : Int)).bind fun bt186 => (if 0 ≤ bt186.1 then (if bt186.1 < (l1.length : Int) then (some (rd l1 bt186.1, bt186.2.1, bt186.2.2)) else (none)) else (none))) = some (r1, r2, r3) := h
 clear h
 replace H := Option.bind_eq_some_iff.mp H
 obtain ⟨⟨t186, t187, t188⟩, A30, H⟩ := H
 try dsimp only at H
 have A3 := zM A30
 clear A30
 by_cases c4 : 0 ≤ t186
 ·rw [if_pos c4] at H
  have c4b0 : decide (0 ≤ t186) = true := decide_eq_true c4
  clear c4
  by_cases c5 : t186 < (l1.length : Int)
  ·rw [if_pos c5] at H
   have c5b0 : decide (t186 < (l1.length : Int)) = true := decide_eq_true c5
   clear c5
   simp only [Option.some.injEq, Prod.mk.injEq] at H
   obtain ⟨rfl, rfl, rfl⟩ := H
   go_enter Try.func51, Try.ntmps51
   go_wp2_with (first | ((with_reducible refine gate_callee (f := 41) rfl ?_); refine zG (some 9) Try.func41 #[.pointer (some ⟨g, 0, none⟩), .int .i64 (l1.length : Int)] ?_; (with_reducible refine (spec_l1Below.calls g s0_0 s0_1 s0_2 (l1.length : Int) t186 t187 t188 w0 _ ?side1 ?side2 A3.out).mono ?_); (case side1 => exact (zI73 HI0.out)); (case side2 => exact (zB1 (IsS73.ge HI0.out) HB.out)); rintro e w6 ⟨rfl, hi, hb, hk⟩; refine ⟨_, rfl, ?_⟩; have n0_ := zM (KeepBut.trans (zU HK.out) hk (.inl rfl)); have n1_ := zM (hb); have n2_ := zM (hi); clear HK; clear HB; clear HI0; have HK := n0_; have HB := n1_; have HI0 := n2_; clear n0_ n1_ n2_; (try clear hb); (try clear hb2); (try clear hk); (try clear hi); have p189 : 0 ≤ (t186 : Int) := zD; have q189 : t186 < (l1.length : Int) := zD; obtain ⟨ad189, e189, hx189_0⟩ := Kd.at_int HR1.out t186 p189 q189; cases e189; replace hx189_0 := keep_cell HK.out hx189_0 (by first | (rw [add_block]; exact hf1 _ rfl (by omega)) | exact hf1 _ rfl (by omega) | exact hf1 ad189 rfl (by omega)); replace p189 := eq_true p189; replace q189 := eq_true q189))
   go_ret
   exact ⟨zE, (zI73 HI0.out), (zB1 (IsS73.ge HI0.out) HB.out), (zU HK.out)⟩
  ·rw [if_neg c5] at H
   exact absurd H (by simp)
 ·rw [if_neg c4] at H
  exact absurd H (by simp)

end Go.Proofs.Yteahdfibipalkaa.G

namespace Go.Proofs.Yteahdfibipalkaa.G
open Go.RowKit Go.Proofs.YteahdfibipalkaaW.PrintWords Go.Proofs.YteahdfibipalkaaW.PrintLast Go.Proofs.YteahdfibipalkaaW.PrintMore
attribute [local go_sem] max2_int min2_int max_two min_two max_three min_three max_four min_four   -- for this text's walks alone
set_option linter.unusedVariables false
set_option linter.unusedSimpArgs false

/-! ### spec_l1Odd: function 37 -/
set_option maxHeartbeats 8000000 in
set_option maxRecDepth 100000 in
theorem spec_l1Odd.calls (g : Nat) (s0_0 : List Int) (s0_1 : Int) (s0_2 : Int) (r1 : Int) (r2 : Int) (r3 : Int) (w0 w : World) (hI : IsS73 w0 w g s0_0 s0_1 s0_2) (hB : Below w0.heap.size w0 w) (h : spec_l1Odd.f s0_0 s0_1 s0_2 = some (r1, r2, r3)) :
  Calls Try.prog 37 #[.pointer (some ⟨g, 0, none⟩)] w fun e w' => e = .returned (.int .i64 r1) ∧ IsS73 w0 w' g s0_0 r2 r3 ∧ Below w0.heap.size w0 w' ∧ KeepBut w w' g none := by
 have HI0 := zM hI
 have HK := zM (KeepBut.refl w g none)
 have HL := zM hB.size
 clear hI
 have HW0 := zM hB.size
 have HB := zM hB
 clear hB
 have H : ((spec_l1Int.f s0_0 s0_1 s0_2 (([(-1), 0, 1, 2, 255, 256, 65535, 2147483647, 2147483648, 4294967295, 4294967296, (-2147483648), 9223372036854775807, (-9223372036854775808)] : List Int))).bind fun bt193 => (some (bt193.1, bt193.2.1, bt193.2.2))) = some (r1, r2, r3) := h
 clear h
 obtain ⟨y190, hy190⟩ : ∃ y_ : List Int, y_ = (([(-1), 0, 1, 2, 255, 256, 65535, 2147483647, 2147483648, 4294967295, 4294967296, (-2147483648), 9223372036854775807, (-9223372036854775808)] : List Int)) := ⟨_, rfl⟩
 replace H : ((spec_l1Int.f s0_0 s0_1 s0_2 y190).bind fun bt193 => (some (bt193.1, bt193.2.1, bt193.2.2))) = some (r1, r2, r3) := zH hy190 H
 have Ny190 := zM hy190
 clear hy190
 replace H := Option.bind_eq_some_iff.mp H
 obtain ⟨⟨t193, t194, t195⟩, A20, H⟩ := H
 try dsimp only at H
 have A2 := zM A20
 clear A20
 simp only [Option.some.injEq, Prod.mk.injEq] at H
 obtain ⟨rfl, rfl, rfl⟩ := H
 go_enter Try.func37, Try.ntmps37
 go_wp2_with (first | ((with_reducible refine gate_dst (N := 4) rfl ?_); refine Kd.R_lit (Kd.int .i64) _ 3 ?hg (N := 4) ?hd (xs := ([(-1), 0, 1, 2, 255, 256, 65535, 2147483647, 2147483648, 4294967295, 4294967296, (-2147483648), 9223372036854775807, (-9223372036854775808)] : List Int)) (inner := [.int .i64 (-1), .int .i64 0, .int .i64 1, .int .i64 2, .int .i64 255, .int .i64 256, .int .i64 65535, .int .i64 2147483647, .int .i64 2147483648, .int .i64 4294967295, .int .i64 4294967296, .int .i64 (-2147483648), .int .i64 9223372036854775807, .int .i64 (-9223372036854775808)]) (ok := fun _ => True) (okp := fun _ => True) ?hr ?hp (fun _ hk => hk) trivial (Below.refl _ _) (Nat.le_refl _) (by simp) ?_; (case hd => rfl); (case hg => rfl); (case hr => first | (go_simp; done) | (go_simp; rfl)); (case hp => exact (Reps.one (show Kd.M (Kd.int .i64) _ _ _ (-1) [.int .i64 (-1)] from rfl) (Reps.one (show Kd.M (Kd.int .i64) _ _ _ 0 [.int .i64 0] from rfl) (Reps.one (show Kd.M (Kd.int .i64) _ _ _ 1 [.int .i64 1] from rfl) (Reps.one (show Kd.M (Kd.int .i64) _ _ _ 2 [.int .i64 2] from rfl) (Reps.one (show Kd.M (Kd.int .i64) _ _ _ 255 [.int .i64 255] from rfl) (Reps.one (show Kd.M (Kd.int .i64) _ _ _ 256 [.int .i64 256] from rfl) (Reps.one (show Kd.M (Kd.int .i64) _ _ _ 65535 [.int .i64 65535] from rfl) (Reps.one (show Kd.M (Kd.int .i64) _ _ _ 2147483647 [.int .i64 2147483647] from rfl) (Reps.one (show Kd.M (Kd.int .i64) _ _ _ 2147483648 [.int .i64 2147483648] from rfl) (Reps.one (show Kd.M (Kd.int .i64) _ _ _ 4294967295 [.int .i64 4294967295] from rfl) (Reps.one (show Kd.M (Kd.int .i64) _ _ _ 4294967296 [.int .i64 4294967296] from rfl) (Reps.one (show Kd.M (Kd.int .i64) _ _ _ (-2147483648) [.int .i64 (-2147483648)] from rfl) (Reps.one (show Kd.M (Kd.int .i64) _ _ _ 9223372036854775807 [.int .i64 9223372036854775807] from rfl) (Reps.one (show Kd.M (Kd.int .i64) _ _ _ (-9223372036854775808) [.int .i64 (-9223372036854775808)] from rfl) (Reps.none _ _)))))))))))))))); intro v191 w3 ho4 hb hg_ hnew_; clear hg_ hnew_; (first | rw [← Ny190.out] at ho4 | (simp only [Int.reduceToNat] at ho4; rw [← Ny190.out] at ho4)); have n0_ := zM (Kd.R_lower ho4 (keep_size (w := w) (g := g) (row := none) (zU HK.out))); have n1_ := zM (IsS73.below (zI73 HI0.out) hb); have n2_ := zM (KeepBut.trans (zU HK.out) (KeepBut.of_below hb g none) (.inl rfl)); have n3_ := zM (below_step (zB1 (IsS73.ge HI0.out) HB.out) hb); clear HI0; clear HK; clear HB; have HO192 := n0_; have HI0 := n1_; have HK := n2_; have HB := n3_; clear n0_ n1_ n2_ n3_; clear hb ho4; obtain ⟨Ao5, co5, eo5⟩ := Kd.R_slice HO192.out; subst eo5) | ((with_reducible refine gate_callee (f := 51) rfl ?_); refine zG (some 5) Try.func51 #[.pointer (some ⟨g, 0, none⟩), .slice Ao5 y190.length co5] ?_; (with_reducible refine (spec_l1Int.calls g s0_0 s0_1 s0_2 _ _ y190 t193 t194 t195 w0 _ ?side1 ?side2 ?side3 ?side4 ?side5 A2.out).mono ?_); (case side1 => exact (zI73 HI0.out)); (case side2 => exact (zB1 (IsS73.ge HI0.out) HB.out)); (case side3 => exact (zC ((Kd.R_reads' HO192.out).2.2))); (case side4 => exact (Kd.R_reads' HO192.out).2.1); (case side5 => exact far_slice (IsS73.own_ne HI0.out HO192.out (by decide))); rintro e w6 ⟨rfl, hi, hb, hk⟩; refine ⟨_, rfl, ?_⟩; have n0_ := zM (Kd.R_mono (Kd.R_keep (IsS73.apart (show IsS73 w0 _ g s0_0 s0_1 s0_2 from (zI73 HI0.out)) (zR HO192.out) (by decide)) hk (fun _ h => h.2)) (fun _ h => h.1)); have n1_ := zM (KeepBut.trans (zU HK.out) hk (.inl rfl)); have n2_ := zM (hb); have n3_ := zM (hi); clear HO192; clear HK; clear HB; clear HI0; have HO192 := n0_; have HK := n1_; have HB := n2_; have HI0 := n3_; clear n0_ n1_ n2_ n3_; (try clear hb); (try clear hb2); (try clear hk); (try clear hi)))
 go_ret
 exact ⟨zE, (zI73 HI0.out), (zB1 (IsS73.ge HI0.out) HB.out), (zU HK.out)⟩

end Go.Proofs.Yteahdfibipalkaa.G

namespace Go.Proofs.Yteahdfibipalkaa.G
open Go.RowKit Go.Proofs.YteahdfibipalkaaW.PrintWords Go.Proofs.YteahdfibipalkaaW.PrintLast Go.Proofs.YteahdfibipalkaaW.PrintMore
attribute [local go_sem] max2_int min2_int max_two min_two max_three min_three max_four min_four   -- for this text's walks alone
set_option linter.unusedVariables false
set_option linter.unusedSimpArgs false

/-! ### spec_DrawAddSpan: function 7 -/
set_option maxHeartbeats 8000000 in
set_option maxRecDepth 100000 in
theorem spec_DrawAddSpan.calls (k : Nat) (A0 : Option Addr) (c0 : Nat) (l0 : List Int) (r1 : List (S26)) (r2 : Int) (r3 : Int) (w : World) (hr0 : Kd.C (Kd.int .u8) w A0 l0.length l0) (hc0 : l0.length ≤ c0) (h : spec_DrawAddSpan.f k l0 = some (r1, r2, r3)) :
  Calls Try.prog 7 #[.slice A0 l0.length c0] w fun e w' => ∃ v0_ : Value, e = .returned (.tuple #[v0_, .agg #[.int .i64 r2, .int .i64 r3]]) ∧ Kd.R k26 26 w' w.heap.size (fun _ => True) v0_ r1 ∧ Below w.heap.size w w' := by
 have hu26 := Try.underlying26
 have HR0 := zM hr0
 have HC0 := zM hc0
 clear hr0 hc0
 have HB := zM (Below.refl w.heap.size w)
 have H : ((spec_l1New.f k l0).bind fun bt197 => ((spec_l9Set.f k bt197.1 bt197.2.1 bt197.2.2).bind fun bt201 => ((spec_l9Span.f bt197.1 bt201.2.1 bt201.2.2).bind fun bt206 => ((spec_l1Once.f bt197.1 bt206.2.2.1 bt206.2.2.2 9).bind fun bt211 => (if bt211.1 = true then ((spec_l1Odd.f bt197.1 bt211.2.1 bt211.2.2).bind fun bt214 => (some (bt201.1, bt214.1, bt206.2.1))) else (some (bt201.1, bt206.1, bt206.2.1))))))) = some (r1, r2, r3) := h
 clear h
 replace H := Option.bind_eq_some_iff.mp H
 obtain ⟨⟨t197, t198, t199⟩, A20, H⟩ := H
 try dsimp only at H
 have A2 := zM A20
 clear A20
 replace H := Option.bind_eq_some_iff.mp H
 obtain ⟨⟨t201, t204, t205⟩, A30, H⟩ := H
 try dsimp only at H
 have A3 := zM A30
 clear A30
 replace H := Option.bind_eq_some_iff.mp H
 obtain ⟨⟨t206, t207, t208, t209⟩, A40, H⟩ := H
 try dsimp only at H
 have A4 := zM A40
 clear A40
 replace H := Option.bind_eq_some_iff.mp H
 obtain ⟨⟨t211, t212, t213⟩, A50, H⟩ := H
 try dsimp only at H
 have A5 := zM A50
 clear A50
 by_cases c6 : t211 = true
 ·subst c6
  rw [if_pos rfl] at H
  replace H := Option.bind_eq_some_iff.mp H
  obtain ⟨⟨t214, t215, t216⟩, A70, H⟩ := H
  try dsimp only at H
  have A7 := zM A70
  clear A70
  simp only [Option.some.injEq, Prod.mk.injEq] at H
  obtain ⟨rfl, rfl, rfl⟩ := H
  go_enter Try.func7, Try.ntmps7
  try go_wp2_with (first | ((with_reducible refine gate_dst (N := 3) rfl ?_); refine box_event ?hg (N := 3) ?hd (cs := #[.int .i64 0, .int .i64 0]) (t := 26) ?hr ?_; (case hd => rfl); (case hg => rfl); (case hr => first | (go_simp; done) | (go_simp; rfl)); intro gb196 hg w8 hbox hb; have n0_ := zM (below_step (zB HB.out) hb); have n1_ := zM (hbox); have n2_ := zM ((by rw [hg]; exact (below_size (zB HB.out)) : w.heap.size ≤ gb196)); have n3_ := zM ((by rw [hg]; exact (below_size (zB HB.out)) : w.heap.size ≤ gb196)); clear HB; have HB := n0_; have BK196 := n1_; have GW196 := n2_; have GE196 := n3_; clear n0_ n1_ n2_ n3_; clear hb hbox hg) | ((with_reducible refine gate_callee (f := 33) rfl ?_); refine zG (some 8) Try.func33 #[.slice A0 l0.length c0] ?_; (with_reducible refine (spec_l1New.calls k _ _ l0 t197 t198 t199 w _ ?side1 ?side2 ?side3 A2.out).mono ?_); (case side1 => exact (zB1 GE196.out HB.out)); (case side2 => exact HR0.out); (case side3 => exact HC0.out); rintro e w9 ⟨g200, rfl, hi, hb, hb2⟩; refine ⟨_, rfl, ?_⟩; have n0_ := zM (blk_below (g := gb196) (o := .cells #[.int .i64 0, .int .i64 0] 26 (0, 0)) (zP BK196.out) hb2); have n1_ := zM (hb); have n2_ := zM (hi); have n3_ := zM (IsS73.ne_blk hi (blk_below (g := gb196) (o := .cells #[.int .i64 0, .int .i64 0] 26 (0, 0)) (zP BK196.out) hb2) (by decide)); have n4_ := zM (Ne.symm (IsS73.ne_blk hi (blk_below (g := gb196) (o := .cells #[.int .i64 0, .int .i64 0] 26 (0, 0)) (zP BK196.out) hb2) (by decide))); clear BK196; clear HB; have BK196 := n0_; have HB := n1_; have HI200 := n2_; have NB200_196 := n3_; have NB196_200 := n4_; clear n0_ n1_ n2_ n3_ n4_; (try clear hb); (try clear hb2); (try clear hk); (try clear hi)) | ((with_reducible refine gate_callee (f := 34) rfl ?_); refine zG (some 10) Try.func34 #[.pointer (some ⟨g200, 0, none⟩)] ?_; (with_reducible refine (spec_l9Set.calls k g200 t197 t198 t199 t201 t204 t205 w _ ?side1 ?side2 A3.out).mono ?_); (case side1 => exact (zI73_1 NB200_196.out HI200.out)); (case side2 => exact (zB2 (IsS73.ge HI200.out) GE196.out HB.out)); rintro e w10 ⟨v202, rfl, ho0, hi, hb, hk⟩; refine ⟨_, rfl, ?_⟩; have n0_ := zM (KeepBut.blk hk (g' := gb196) (o := .cells #[.int .i64 0, .int .i64 0] 26 (0, 0)) (zP BK196.out) NB196_200.out (by simp)); have n1_ := zM (Kd.R_lower (Kd.R_newB ho0 (g := gb196) (o := .cells #[.int .i64 0, .int .i64 0] 26 (0, 0)) (zP BK196.out)) (below_size (zB2 (IsS73.ge HI200.out) GE196.out HB.out))); have n2_ := zM (hb); have n3_ := zM (hi); clear BK196; clear HB; clear HI200; have BK196 := n0_; have HO203 := n1_; have HB := n2_; have HI200 := n3_; clear n0_ n1_ n2_ n3_; (try clear hb); (try clear hb2); (try clear hk); (try clear hi); (try clear ho0)) | ((with_reducible refine gate_callee (f := 35) rfl ?_); refine zG (some 12) Try.func35 #[.pointer (some ⟨g200, 0, none⟩)] ?_; (with_reducible refine (spec_l9Span.calls g200 t197 t204 t205 t206 t207 t208 t209 w _ ?side1 ?side2 A4.out).mono ?_); (case side1 => exact (zI73_1 NB200_196.out HI200.out)); (case side2 => exact (zB2 (IsS73.ge HI200.out) GE196.out HB.out)); rintro e w11 ⟨rfl, hi, hb, hk⟩; refine ⟨_, rfl, ?_⟩; have n0_ := zM (KeepBut.blk hk (g' := gb196) (o := .cells #[.int .i64 0, .int .i64 0] 26 (0, 0)) (zP BK196.out) NB196_200.out (by simp)); have n1_ := zM (Kd.R_mono (Kd.R_keep (IsS73.apart (show IsS73 w _ g200 t197 t204 t205 from (zI73_1 NB200_196.out HI200.out)) (zR HO203.out) (by decide)) hk (fun _ h => h.2)) (fun _ h => h.1)); have n2_ := zM (hb); have n3_ := zM (hi); clear BK196; clear HO203; clear HB; clear HI200; have BK196 := n0_; have HO203 := n1_; have HB := n2_; have HI200 := n3_; clear n0_ n1_ n2_ n3_; (try clear hb); (try clear hb2); (try clear hk); (try clear hi)) | ((with_reducible refine gate_dst (N := 6) rfl ?_); refine box_event ?hg (N := 6) ?hd (cs := #[.int .i64 0, .int .i64 0]) (t := 26) ?hr ?_; (case hd => rfl); (case hg => rfl); (case hr => first | (go_simp; done) | (go_simp; rfl)); intro gb210 hg w12 hbox hb; have n0_ := zM (Kd.R_below (Kd.R_elderB (zR HO203.out) gb210 (Nat.le_of_eq hg.symm)) hb); have n1_ := zM (blk_below (g := gb196) (o := .cells #[.int .i64 0, .int .i64 0] 26 (0, 0)) (zP BK196.out) hb); have n2_ := zM (IsS73.below (zI73_1 NB200_196.out HI200.out) hb); have n3_ := zM (below_step (zB2 (IsS73.ge HI200.out) GE196.out HB.out) hb); have n4_ := zM (hbox); have n5_ := zM ((by rw [hg]; exact (below_size (zB2 (IsS73.ge HI200.out) GE196.out HB.out)) : w.heap.size ≤ gb210)); have n6_ := zM ((by rw [hg]; exact (below_size (zB2 (IsS73.ge HI200.out) GE196.out HB.out)) : w.heap.size ≤ gb210)); have n7_ := zM ((by rw [hg]; exact Nat.ne_of_lt (blk_lt (g := gb196) (o := .cells #[.int .i64 0, .int .i64 0] 26 (0, 0)) (zP BK196.out)) : gb196 ≠ gb210)); have n8_ := zM ((by rw [hg]; exact Nat.ne_of_gt (blk_lt (g := gb196) (o := .cells #[.int .i64 0, .int .i64 0] 26 (0, 0)) (zP BK196.out)) : gb210 ≠ gb196)); have n9_ := zM ((by rw [hg]; exact Nat.ne_of_lt (IsS73.lt (show IsS73 w _ g200 t197 t208 t209 from (zI73_1 NB200_196.out HI200.out))) : g200 ≠ gb210)); have n10_ := zM ((by rw [hg]; exact Nat.ne_of_gt (IsS73.lt (show IsS73 w _ g200 t197 t208 t209 from (zI73_1 NB200_196.out HI200.out))) : gb210 ≠ g200)); clear HO203; clear BK196; clear HI200; clear HB; have HO203 := n0_; have BK196 := n1_; have HI200 := n2_; have HB := n3_; have BK210 := n4_; have GW210 := n5_; have GE210 := n6_; have NB196_210 := n7_; have NB210_196 := n8_; have NB200_210 := n9_; have NB210_200 := n10_; clear n0_ n1_ n2_ n3_ n4_ n5_ n6_ n7_ n8_ n9_ n10_; clear hb hbox hg; have hnb13 := NB210_196.out; have hnc13 := NB196_210.out; have hnb14 := NB210_200.out; have hnc14 := NB200_210.out; have hcz15_0 : w12.cell? ⟨gb210, 0, none⟩ = some (.int .i64 0) := (blk_cell BK210.out 0).trans rfl; have hcz15_1 : w12.cell? ⟨gb210, 1, none⟩ = some (.int .i64 0) := (blk_cell BK210.out 1).trans rfl; have hfz15_0 := blk_frozen BK210.out 0; have hfz15_1 := blk_frozen BK210.out 1) | ((with_reducible refine gate_callee (f := 36) rfl ?_); refine zG (some 14) Try.func36 #[.pointer (some ⟨g200, 0, none⟩), .int .i64 9] ?_; (with_reducible refine (spec_l1Once.calls g200 t197 t208 t209 9 true t212 t213 w _ ?side1 ?side2 A5.out).mono ?_); (case side1 => exact (zI73_2 NB200_196.out NB200_210.out HI200.out)); (case side2 => exact (zB3 (IsS73.ge HI200.out) GE196.out GE210.out HB.out)); rintro e w16 ⟨rfl, hi, hb, hk⟩; refine ⟨_, rfl, ?_⟩; have n0_ := zM (KeepBut.blk hk (g' := gb196) (o := .cells #[.int .i64 0, .int .i64 0] 26 (0, 0)) (by (with_reducible repeat (first | refine blk_drewN ?_ _ | refine blk_drew ?_ | refine blk_alloc ?_ _)); refine blk_far ?_ NB196_210.out _; (with_reducible repeat (first | refine blk_drewN ?_ _ | refine blk_drew ?_ | refine blk_alloc ?_ _)); refine blk_far ?_ NB196_210.out _; (with_reducible repeat (first | refine blk_drewN ?_ _ | refine blk_drew ?_ | refine blk_alloc ?_ _)); exact BK196.out) NB196_200.out (by simp)); have n1_ := zM (Kd.R_mono (Kd.R_keep (IsS73.apart (show IsS73 w _ g200 t197 t208 t209 from (zI73_2 NB200_196.out NB200_210.out HI200.out)) (by (with_reducible repeat (first | apply Kd.R_alloc | apply Kd.R_drewN | apply Kd.R_drew)); exact (Kd.R_mono (Kd.R_far (p := ⟨gb210, 1, none⟩) (Kd.R_far (p := ⟨gb210, 0, none⟩) (Kd.R_mono HO203.out (fun k_ hk => (⟨hk, hk.2⟩ : _ ∧ k_ ≠ gb210))) (fun _ hk => hk.2) (.int .i64 t206)) (fun _ hk => hk.2) (.int .i64 t207)) (fun _ h_ => h_.1))) (by decide)) hk (fun _ h => h.2)) (fun _ h => h.1)); have n2_ := zM (KeepBut.blk hk (g' := gb210) (o := .cells #[.int .i64 t206, .int .i64 t207] 26 (0, 0)) (by (with_reducible repeat (first | refine blk_drewN ?_ _ | refine blk_drew ?_ | refine blk_alloc ?_ _)); refine blk_put (cs := #[.int .i64 t206, .int .i64 0]) ?_ 1 _ rfl; (with_reducible repeat (first | refine blk_drewN ?_ _ | refine blk_drew ?_ | refine blk_alloc ?_ _)); refine blk_put (cs := #[.int .i64 0, .int .i64 0]) ?_ 0 _ rfl; (with_reducible repeat (first | refine blk_drewN ?_ _ | refine blk_drew ?_ | refine blk_alloc ?_ _)); exact BK210.out) NB210_200.out (by simp)); have n3_ := zM (hb); have n4_ := zM (hi); clear BK196; clear HO203; clear BK210; clear HB; clear HI200; have BK196 := n0_; have HO203 := n1_; have BK210 := n2_; have HB := n3_; have HI200 := n4_; clear n0_ n1_ n2_ n3_ n4_; (try clear hb); (try clear hb2); (try clear hk); (try clear hi)) | ((with_reducible refine gate_callee (f := 37) rfl ?_); refine zG (some 16) Try.func37 #[.pointer (some ⟨g200, 0, none⟩)] ?_; (with_reducible refine (spec_l1Odd.calls g200 t197 t212 t213 t214 t215 t216 w _ ?side1 ?side2 A7.out).mono ?_); (case side1 => exact (zI73_2 NB200_196.out NB200_210.out HI200.out)); (case side2 => exact (zB3 (IsS73.ge HI200.out) GE196.out GE210.out HB.out)); rintro e w17 ⟨rfl, hi, hb, hk⟩; refine ⟨_, rfl, ?_⟩; have n0_ := zM (KeepBut.blk hk (g' := gb196) (o := .cells #[.int .i64 0, .int .i64 0] 26 (0, 0)) (zP BK196.out) NB196_200.out (by simp)); have n1_ := zM (Kd.R_mono (Kd.R_keep (IsS73.apart (show IsS73 w _ g200 t197 t212 t213 from (zI73_2 NB200_196.out NB200_210.out HI200.out)) (zR HO203.out) (by decide)) hk (fun _ h => h.2)) (fun _ h => h.1)); have n2_ := zM (KeepBut.blk hk (g' := gb210) (o := .cells #[.int .i64 t206, .int .i64 t207] 26 (0, 0)) (zP BK210.out) NB210_200.out (by simp)); have n3_ := zM (hb); have n4_ := zM (hi); clear BK196; clear HO203; clear BK210; clear HB; clear HI200; have BK196 := n0_; have HO203 := n1_; have BK210 := n2_; have HB := n3_; have HI200 := n4_; clear n0_ n1_ n2_ n3_ n4_; (try clear hb); (try clear hb2); (try clear hk); (try clear hi); have hcz18_0 : w17.cell? ⟨gb210, 0, none⟩ = some (.int .i64 t206) := (blk_cell BK210.out 0).trans rfl; have hcz18_1 : w17.cell? ⟨gb210, 1, none⟩ = some (.int .i64 t207) := (blk_cell BK210.out 1).trans rfl; have hfz18_0 := blk_frozen BK210.out 0; have hfz18_1 := blk_frozen BK210.out 1))
  have n0_ : Aside0 (Kd.R k26 26 (w17.setCell ⟨gb210, 0, none⟩ (.int .i64 t214)) w.heap.size (fun k_ => k_ ≠ gb196 ∧ k_ ≠ gb210) v202 t201) := ⟨by (with_reducible repeat (first | apply Kd.R_alloc | apply Kd.R_drewN | apply Kd.R_drew)); exact Kd.R_mono (Kd.R_far (p := ⟨gb210, 0, none⟩) (Kd.R_mono HO203.out (fun k_ hk => (⟨hk, hk.2⟩ : _ ∧ k_ ≠ gb210))) (fun _ hk => hk.2) (.int .i64 t214)) (fun _ hk => ⟨hk.1.1.2, hk.1.2⟩)⟩
  have n1_ : Aside0 ((w17.setCell ⟨gb210, 0, none⟩ (.int .i64 t214)).heap[gb196]? = some (.cells #[.int .i64 0, .int .i64 0] 26 (0, 0))) := ⟨by (with_reducible repeat (first | refine blk_drewN ?_ _ | refine blk_drew ?_ | refine blk_alloc ?_ _)); refine blk_far ?_ NB196_210.out _; (with_reducible repeat (first | refine blk_drewN ?_ _ | refine blk_drew ?_ | refine blk_alloc ?_ _)); exact BK196.out⟩
  have n2_ : Aside0 ((w17.setCell ⟨gb210, 0, none⟩ (.int .i64 t214)).heap[gb210]? = some (.cells #[.int .i64 t214, .int .i64 t207] 26 (0, 0))) := ⟨by (with_reducible repeat (first | refine blk_drewN ?_ _ | refine blk_drew ?_ | refine blk_alloc ?_ _)); refine blk_put (cs := #[.int .i64 t206, .int .i64 t207]) ?_ 0 _ rfl; (with_reducible repeat (first | refine blk_drewN ?_ _ | refine blk_drew ?_ | refine blk_alloc ?_ _)); exact BK210.out⟩
  have n3_ : Aside0 (IsS73 w (w17.setCell ⟨gb210, 0, none⟩ (.int .i64 t214)) g200 t197 t215 t216) := ⟨(zI73_2 NB200_196.out NB200_210.out HI200.out)⟩
  have n4_ : Aside0 (Below w.heap.size w (w17.setCell ⟨gb210, 0, none⟩ (.int .i64 t214))) := ⟨(zB3 (IsS73.ge HI200.out) GE196.out GE210.out HB.out)⟩
  (try clear HO203)
  (try clear BK196)
  (try clear BK210)
  (try clear HI200)
  (try clear HB)
  generalize (w17.setCell ⟨gb210, 0, none⟩ (.int .i64 t214)) = w19 at n0_ n1_ n2_ n3_ n4_ ⊢
  have HO203 := n0_
  have BK196 := n1_
  have BK210 := n2_
  have HI200 := n3_
  have HB := n4_
  clear n0_ n1_ n2_ n3_ n4_
  have n0_ := zM (Kd.R_drew HO203.out)
  have n1_ := zM (blk_drew BK196.out)
  have n2_ := zM (blk_drew BK210.out)
  have n3_ := zM (IsS73.drew HI200.out)
  have n4_ := zM (below_drew1 HB.out)
  clear HO203
  clear BK196
  clear BK210
  clear HI200
  clear HB
  have HO203 := n0_
  have BK196 := n1_
  have BK210 := n2_
  have HI200 := n3_
  have HB := n4_
  clear n0_ n1_ n2_ n3_ n4_
  refine start_ (n := 4) (S := fun w' => w'.cell? ⟨gb210, 0, none⟩ = some (.int .i64 t214) ∧ w'.cell? ⟨gb210, 1, none⟩ = some (.int .i64 t207)) (ds := []) #[false, false, false, false] (by kernel_rfl) rfl rfl ⟨(blk_cell BK210.out 0).trans rfl, (blk_cell BK210.out 1).trans rfl⟩ (fun hHeld => ?_)
  generalize w19.drew = w20 at HO203 BK196 BK210 HI200 HB hHeld ⊢
  refine pure_ (i := 0) (N := some 18) (v := ?_) (a' := ?_) #[true, false, false, false] rfl rfl (by kernel_rfl) (fun _ _ _ h => h) (Or.inl ⟨by rfl, ?_⟩) ?_ ?_
  rotate_left
  ·intro w'
   go_simp
   with_reducible rfl
  rotate_left
  ·simp only [Act.put, List.setIfInBounds_toArray, List.set_cons_zero, List.set_cons_succ, i64_w, i32_w]
   rfl
  refine pure_ (i := 2) (N := some 2) (v := ?_) (a' := ?_) #[true, false, true, false] rfl rfl (by kernel_rfl) (fun _ _ _ h => h) (Or.inl ⟨by rfl, ?_⟩) ?_ ?_
  rotate_left
  ·intro w'
   go_simp
   with_reducible rfl
  rotate_left
  ·simp only [Act.put, List.setIfInBounds_toArray, List.set_cons_zero, List.set_cons_succ, i64_w, i32_w]
   rfl
  refine take_ (i := 1) (N := some 19) (v := ?_) (a' := ?_) #[true, true, true, false] rfl rfl (by kernel_rfl) (fun _ _ _ h => h) (Or.inl ⟨by rfl, ?_⟩) hHeld ?_ ?_
  rotate_left
  ·rintro w' ⟨s0, s1⟩
   go_simp
   with_reducible rfl
  rotate_left
  ·simp only [Act.put, List.setIfInBounds_toArray, List.set_cons_zero, List.set_cons_succ, i64_w, i32_w]
   rfl
  refine one_ (i := 3) (N := none) #[true, true, true, true] rfl rfl (by kernel_rfl) (by decide) (fun K hK => ?_)
  have hs21 : w20.cell? ⟨gb196, 0, none⟩ = some (.int .i64 0) := (blk_cell BK196.out 0).trans rfl
  have hfs21 := blk_frozen BK196.out 0
  have hns21_1 := NB210_196.out
  have hms21_1 := NB196_210.out
  have hs22 : w20.cell? ⟨gb196, 1, none⟩ = some (.int .i64 0) := (blk_cell BK196.out 1).trans rfl
  have hfs22 := blk_frozen BK196.out 1
  have hns22_1 := NB210_196.out
  have hms22_1 := NB196_210.out
  refine skip_ (w1 := ?_) (by rfl) rfl ?_ ?_
  rotate_left
  ·go_simp
   rfl
  refine hK.out _ _ ⟨((cell_far (p := ⟨gb196, _, none⟩) NB210_196.out _).trans (((cell_far (p := ⟨gb196, _, none⟩) NB210_196.out _).trans (hHeld.1)))), ((cell_far (p := ⟨gb196, _, none⟩) NB210_196.out _).trans (((cell_far (p := ⟨gb196, _, none⟩) NB210_196.out _).trans (hHeld.2))))⟩ (fun hHeld => ?_)
  clear hK K
  refine done_ (by kernel_rfl) ?_
  try go_wp2
  refine bodyPost_ret (results_tc rfl _ _ gb196 26 #[.int .i64 t214, .int .i64 t207] (0, 0) _ rfl (by (with_reducible repeat (first | refine blk_drewN ?_ _ | refine blk_drew ?_ | refine blk_alloc ?_ _)); refine blk_put (cs := #[.int .i64 t214, .int .i64 0]) ?_ 1 _ rfl; (with_reducible repeat (first | refine blk_drewN ?_ _ | refine blk_drew ?_ | refine blk_alloc ?_ _)); refine blk_put (cs := #[.int .i64 0, .int .i64 0]) ?_ 0 _ rfl; (with_reducible repeat (first | refine blk_drewN ?_ _ | refine blk_drew ?_ | refine blk_alloc ?_ _)); exact BK196.out) Try.underlying26 rfl (by kernel_rfl)) rfl ?_
  exact ⟨_, zE, by (with_reducible repeat (first | apply Kd.R_alloc | apply Kd.R_drewN | apply Kd.R_drew)); exact Kd.R_mono (Kd.R_far (p := ⟨gb196, 1, none⟩) (Kd.R_far (p := ⟨gb196, 0, none⟩) (Kd.R_mono HO203.out (fun k_ hk => (⟨hk, hk.1⟩ : _ ∧ k_ ≠ gb196))) (fun _ hk => hk.2) (.int .i64 t214)) (fun _ hk => hk.2) (.int .i64 t207)) (fun _ hk => trivial), (zB3 (IsS73.ge HI200.out) GE196.out GE210.out HB.out)⟩
 ·replace c6 := Bool.eq_false_iff.mpr c6
  subst c6
  rw [if_neg (show ¬ (false = true) by decide)] at H
  simp only [Option.some.injEq, Prod.mk.injEq] at H
  obtain ⟨rfl, rfl, rfl⟩ := H
  go_enter Try.func7, Try.ntmps7
  try go_wp2_with (first | ((with_reducible refine gate_dst (N := 3) rfl ?_); refine box_event ?hg (N := 3) ?hd (cs := #[.int .i64 0, .int .i64 0]) (t := 26) ?hr ?_; (case hd => rfl); (case hg => rfl); (case hr => first | (go_simp; done) | (go_simp; rfl)); intro gb196 hg w23 hbox hb; have n0_ := zM (below_step (zB HB.out) hb); have n1_ := zM (hbox); have n2_ := zM ((by rw [hg]; exact (below_size (zB HB.out)) : w.heap.size ≤ gb196)); have n3_ := zM ((by rw [hg]; exact (below_size (zB HB.out)) : w.heap.size ≤ gb196)); clear HB; have HB := n0_; have BK196 := n1_; have GW196 := n2_; have GE196 := n3_; clear n0_ n1_ n2_ n3_; clear hb hbox hg) | ((with_reducible refine gate_callee (f := 33) rfl ?_); refine zG (some 8) Try.func33 #[.slice A0 l0.length c0] ?_; (with_reducible refine (spec_l1New.calls k _ _ l0 t197 t198 t199 w _ ?side1 ?side2 ?side3 A2.out).mono ?_); (case side1 => exact (zB1 GE196.out HB.out)); (case side2 => exact HR0.out); (case side3 => exact HC0.out); rintro e w24 ⟨g200, rfl, hi, hb, hb2⟩; refine ⟨_, rfl, ?_⟩; have n0_ := zM (blk_below (g := gb196) (o := .cells #[.int .i64 0, .int .i64 0] 26 (0, 0)) (zP BK196.out) hb2); have n1_ := zM (hb); have n2_ := zM (hi); have n3_ := zM (IsS73.ne_blk hi (blk_below (g := gb196) (o := .cells #[.int .i64 0, .int .i64 0] 26 (0, 0)) (zP BK196.out) hb2) (by decide)); have n4_ := zM (Ne.symm (IsS73.ne_blk hi (blk_below (g := gb196) (o := .cells #[.int .i64 0, .int .i64 0] 26 (0, 0)) (zP BK196.out) hb2) (by decide))); clear BK196; clear HB; have BK196 := n0_; have HB := n1_; have HI200 := n2_; have NB200_196 := n3_; have NB196_200 := n4_; clear n0_ n1_ n2_ n3_ n4_; (try clear hb); (try clear hb2); (try clear hk); (try clear hi)) | ((with_reducible refine gate_callee (f := 34) rfl ?_); refine zG (some 10) Try.func34 #[.pointer (some ⟨g200, 0, none⟩)] ?_; (with_reducible refine (spec_l9Set.calls k g200 t197 t198 t199 t201 t204 t205 w _ ?side1 ?side2 A3.out).mono ?_); (case side1 => exact (zI73_1 NB200_196.out HI200.out)); (case side2 => exact (zB2 (IsS73.ge HI200.out) GE196.out HB.out)); rintro e w25 ⟨v202, rfl, ho0, hi, hb, hk⟩; refine ⟨_, rfl, ?_⟩; have n0_ := zM (KeepBut.blk hk (g' := gb196) (o := .cells #[.int .i64 0, .int .i64 0] 26 (0, 0)) (zP BK196.out) NB196_200.out (by simp)); have n1_ := zM (Kd.R_lower (Kd.R_newB ho0 (g := gb196) (o := .cells #[.int .i64 0, .int .i64 0] 26 (0, 0)) (zP BK196.out)) (below_size (zB2 (IsS73.ge HI200.out) GE196.out HB.out))); have n2_ := zM (hb); have n3_ := zM (hi); clear BK196; clear HB; clear HI200; have BK196 := n0_; have HO203 := n1_; have HB := n2_; have HI200 := n3_; clear n0_ n1_ n2_ n3_; (try clear hb); (try clear hb2); (try clear hk); (try clear hi); (try clear ho0)) | ((with_reducible refine gate_callee (f := 35) rfl ?_); refine zG (some 12) Try.func35 #[.pointer (some ⟨g200, 0, none⟩)] ?_; (with_reducible refine (spec_l9Span.calls g200 t197 t204 t205 t206 t207 t208 t209 w _ ?side1 ?side2 A4.out).mono ?_); (case side1 => exact (zI73_1 NB200_196.out HI200.out)); (case side2 => exact (zB2 (IsS73.ge HI200.out) GE196.out HB.out)); rintro e w26 ⟨rfl, hi, hb, hk⟩; refine ⟨_, rfl, ?_⟩; have n0_ := zM (KeepBut.blk hk (g' := gb196) (o := .cells #[.int .i64 0, .int .i64 0] 26 (0, 0)) (zP BK196.out) NB196_200.out (by simp)); have n1_ := zM (Kd.R_mono (Kd.R_keep (IsS73.apart (show IsS73 w _ g200 t197 t204 t205 from (zI73_1 NB200_196.out HI200.out)) (zR HO203.out) (by decide)) hk (fun _ h => h.2)) (fun _ h => h.1)); have n2_ := zM (hb); have n3_ := zM (hi); clear BK196; clear HO203; clear HB; clear HI200; have BK196 := n0_; have HO203 := n1_; have HB := n2_; have HI200 := n3_; clear n0_ n1_ n2_ n3_; (try clear hb); (try clear hb2); (try clear hk); (try clear hi)) | ((with_reducible refine gate_dst (N := 6) rfl ?_); refine box_event ?hg (N := 6) ?hd (cs := #[.int .i64 0, .int .i64 0]) (t := 26) ?hr ?_; (case hd => rfl); (case hg => rfl); (case hr => first | (go_simp; done) | (go_simp; rfl)); intro gb210 hg w27 hbox hb; have n0_ := zM (Kd.R_below (Kd.R_elderB (zR HO203.out) gb210 (Nat.le_of_eq hg.symm)) hb); have n1_ := zM (blk_below (g := gb196) (o := .cells #[.int .i64 0, .int .i64 0] 26 (0, 0)) (zP BK196.out) hb); have n2_ := zM (IsS73.below (zI73_1 NB200_196.out HI200.out) hb); have n3_ := zM (below_step (zB2 (IsS73.ge HI200.out) GE196.out HB.out) hb); have n4_ := zM (hbox); have n5_ := zM ((by rw [hg]; exact (below_size (zB2 (IsS73.ge HI200.out) GE196.out HB.out)) : w.heap.size ≤ gb210)); have n6_ := zM ((by rw [hg]; exact (below_size (zB2 (IsS73.ge HI200.out) GE196.out HB.out)) : w.heap.size ≤ gb210)); have n7_ := zM ((by rw [hg]; exact Nat.ne_of_lt (blk_lt (g := gb196) (o := .cells #[.int .i64 0, .int .i64 0] 26 (0, 0)) (zP BK196.out)) : gb196 ≠ gb210)); have n8_ := zM ((by rw [hg]; exact Nat.ne_of_gt (blk_lt (g := gb196) (o := .cells #[.int .i64 0, .int .i64 0] 26 (0, 0)) (zP BK196.out)) : gb210 ≠ gb196)); have n9_ := zM ((by rw [hg]; exact Nat.ne_of_lt (IsS73.lt (show IsS73 w _ g200 t197 t208 t209 from (zI73_1 NB200_196.out HI200.out))) : g200 ≠ gb210)); have n10_ := zM ((by rw [hg]; exact Nat.ne_of_gt (IsS73.lt (show IsS73 w _ g200 t197 t208 t209 from (zI73_1 NB200_196.out HI200.out))) : gb210 ≠ g200)); clear HO203; clear BK196; clear HI200; clear HB; have HO203 := n0_; have BK196 := n1_; have HI200 := n2_; have HB := n3_; have BK210 := n4_; have GW210 := n5_; have GE210 := n6_; have NB196_210 := n7_; have NB210_196 := n8_; have NB200_210 := n9_; have NB210_200 := n10_; clear n0_ n1_ n2_ n3_ n4_ n5_ n6_ n7_ n8_ n9_ n10_; clear hb hbox hg; have hnb28 := NB210_196.out; have hnc28 := NB196_210.out; have hnb29 := NB210_200.out; have hnc29 := NB200_210.out; have hcz30_0 : w27.cell? ⟨gb210, 0, none⟩ = some (.int .i64 0) := (blk_cell BK210.out 0).trans rfl; have hcz30_1 : w27.cell? ⟨gb210, 1, none⟩ = some (.int .i64 0) := (blk_cell BK210.out 1).trans rfl; have hfz30_0 := blk_frozen BK210.out 0; have hfz30_1 := blk_frozen BK210.out 1) | ((with_reducible refine gate_callee (f := 36) rfl ?_); refine zG (some 14) Try.func36 #[.pointer (some ⟨g200, 0, none⟩), .int .i64 9] ?_; (with_reducible refine (spec_l1Once.calls g200 t197 t208 t209 9 false t212 t213 w _ ?side1 ?side2 A5.out).mono ?_); (case side1 => exact (zI73_2 NB200_196.out NB200_210.out HI200.out)); (case side2 => exact (zB3 (IsS73.ge HI200.out) GE196.out GE210.out HB.out)); rintro e w31 ⟨rfl, hi, hb, hk⟩; refine ⟨_, rfl, ?_⟩; have n0_ := zM (KeepBut.blk hk (g' := gb196) (o := .cells #[.int .i64 0, .int .i64 0] 26 (0, 0)) (by (with_reducible repeat (first | refine blk_drewN ?_ _ | refine blk_drew ?_ | refine blk_alloc ?_ _)); refine blk_far ?_ NB196_210.out _; (with_reducible repeat (first | refine blk_drewN ?_ _ | refine blk_drew ?_ | refine blk_alloc ?_ _)); refine blk_far ?_ NB196_210.out _; (with_reducible repeat (first | refine blk_drewN ?_ _ | refine blk_drew ?_ | refine blk_alloc ?_ _)); exact BK196.out) NB196_200.out (by simp)); have n1_ := zM (Kd.R_mono (Kd.R_keep (IsS73.apart (show IsS73 w _ g200 t197 t208 t209 from (zI73_2 NB200_196.out NB200_210.out HI200.out)) (by (with_reducible repeat (first | apply Kd.R_alloc | apply Kd.R_drewN | apply Kd.R_drew)); exact (Kd.R_mono (Kd.R_far (p := ⟨gb210, 1, none⟩) (Kd.R_far (p := ⟨gb210, 0, none⟩) (Kd.R_mono HO203.out (fun k_ hk => (⟨hk, hk.2⟩ : _ ∧ k_ ≠ gb210))) (fun _ hk => hk.2) (.int .i64 t206)) (fun _ hk => hk.2) (.int .i64 t207)) (fun _ h_ => h_.1))) (by decide)) hk (fun _ h => h.2)) (fun _ h => h.1)); have n2_ := zM (KeepBut.blk hk (g' := gb210) (o := .cells #[.int .i64 t206, .int .i64 t207] 26 (0, 0)) (by (with_reducible repeat (first | refine blk_drewN ?_ _ | refine blk_drew ?_ | refine blk_alloc ?_ _)); refine blk_put (cs := #[.int .i64 t206, .int .i64 0]) ?_ 1 _ rfl; (with_reducible repeat (first | refine blk_drewN ?_ _ | refine blk_drew ?_ | refine blk_alloc ?_ _)); refine blk_put (cs := #[.int .i64 0, .int .i64 0]) ?_ 0 _ rfl; (with_reducible repeat (first | refine blk_drewN ?_ _ | refine blk_drew ?_ | refine blk_alloc ?_ _)); exact BK210.out) NB210_200.out (by simp)); have n3_ := zM (hb); have n4_ := zM (hi); clear BK196; clear HO203; clear BK210; clear HB; clear HI200; have BK196 := n0_; have HO203 := n1_; have BK210 := n2_; have HB := n3_; have HI200 := n4_; clear n0_ n1_ n2_ n3_ n4_; (try clear hb); (try clear hb2); (try clear hk); (try clear hi)))
  have n0_ := zM (Kd.R_drew HO203.out)
  have n1_ := zM (blk_drew BK196.out)
  have n2_ := zM (blk_drew BK210.out)
  have n3_ := zM (IsS73.drew HI200.out)
  have n4_ := zM (below_drew1 HB.out)
  clear HO203
  clear BK196
  clear BK210
  clear HI200
  clear HB
  have HO203 := n0_
  have BK196 := n1_
  have BK210 := n2_
  have HI200 := n3_
  have HB := n4_
  clear n0_ n1_ n2_ n3_ n4_
  refine start_ (n := 4) (S := fun w' => w'.cell? ⟨gb210, 0, none⟩ = some (.int .i64 t206) ∧ w'.cell? ⟨gb210, 1, none⟩ = some (.int .i64 t207)) (ds := []) #[false, false, false, false] (by kernel_rfl) rfl rfl ⟨(blk_cell BK210.out 0).trans rfl, (blk_cell BK210.out 1).trans rfl⟩ (fun hHeld => ?_)
  generalize w31.drew = w32 at HO203 BK196 BK210 HI200 HB hHeld ⊢
  refine pure_ (i := 0) (N := some 18) (v := ?_) (a' := ?_) #[true, false, false, false] rfl rfl (by kernel_rfl) (fun _ _ _ h => h) (Or.inl ⟨by rfl, ?_⟩) ?_ ?_
  rotate_left
  ·intro w'
   go_simp
   with_reducible rfl
  rotate_left
  ·simp only [Act.put, List.setIfInBounds_toArray, List.set_cons_zero, List.set_cons_succ, i64_w, i32_w]
   rfl
  refine pure_ (i := 2) (N := some 2) (v := ?_) (a' := ?_) #[true, false, true, false] rfl rfl (by kernel_rfl) (fun _ _ _ h => h) (Or.inl ⟨by rfl, ?_⟩) ?_ ?_
  rotate_left
  ·intro w'
   go_simp
   with_reducible rfl
  rotate_left
  ·simp only [Act.put, List.setIfInBounds_toArray, List.set_cons_zero, List.set_cons_succ, i64_w, i32_w]
   rfl
  refine take_ (i := 1) (N := some 19) (v := ?_) (a' := ?_) #[true, true, true, false] rfl rfl (by kernel_rfl) (fun _ _ _ h => h) (Or.inl ⟨by rfl, ?_⟩) hHeld ?_ ?_
  rotate_left
  ·rintro w' ⟨s0, s1⟩
   go_simp
   with_reducible rfl
  rotate_left
  ·simp only [Act.put, List.setIfInBounds_toArray, List.set_cons_zero, List.set_cons_succ, i64_w, i32_w]
   rfl
  refine one_ (i := 3) (N := none) #[true, true, true, true] rfl rfl (by kernel_rfl) (by decide) (fun K hK => ?_)
  have hs33 : w32.cell? ⟨gb196, 0, none⟩ = some (.int .i64 0) := (blk_cell BK196.out 0).trans rfl
  have hfs33 := blk_frozen BK196.out 0
  have hns33_1 := NB210_196.out
  have hms33_1 := NB196_210.out
  have hs34 : w32.cell? ⟨gb196, 1, none⟩ = some (.int .i64 0) := (blk_cell BK196.out 1).trans rfl
  have hfs34 := blk_frozen BK196.out 1
  have hns34_1 := NB210_196.out
  have hms34_1 := NB196_210.out
  refine skip_ (w1 := ?_) (by rfl) rfl ?_ ?_
  rotate_left
  ·go_simp
   rfl
  refine hK.out _ _ ⟨((cell_far (p := ⟨gb196, _, none⟩) NB210_196.out _).trans (((cell_far (p := ⟨gb196, _, none⟩) NB210_196.out _).trans (hHeld.1)))), ((cell_far (p := ⟨gb196, _, none⟩) NB210_196.out _).trans (((cell_far (p := ⟨gb196, _, none⟩) NB210_196.out _).trans (hHeld.2))))⟩ (fun hHeld => ?_)
  clear hK K
  refine done_ (by kernel_rfl) ?_
  try go_wp2
  refine bodyPost_ret (results_tc rfl _ _ gb196 26 #[.int .i64 t206, .int .i64 t207] (0, 0) _ rfl (by (with_reducible repeat (first | refine blk_drewN ?_ _ | refine blk_drew ?_ | refine blk_alloc ?_ _)); refine blk_put (cs := #[.int .i64 t206, .int .i64 0]) ?_ 1 _ rfl; (with_reducible repeat (first | refine blk_drewN ?_ _ | refine blk_drew ?_ | refine blk_alloc ?_ _)); refine blk_put (cs := #[.int .i64 0, .int .i64 0]) ?_ 0 _ rfl; (with_reducible repeat (first | refine blk_drewN ?_ _ | refine blk_drew ?_ | refine blk_alloc ?_ _)); exact BK196.out) Try.underlying26 rfl (by kernel_rfl)) rfl ?_
  exact ⟨_, zE, by (with_reducible repeat (first | apply Kd.R_alloc | apply Kd.R_drewN | apply Kd.R_drew)); exact Kd.R_mono (Kd.R_far (p := ⟨gb196, 1, none⟩) (Kd.R_far (p := ⟨gb196, 0, none⟩) (Kd.R_mono HO203.out (fun k_ hk => (⟨hk, hk.1.2⟩ : _ ∧ k_ ≠ gb196))) (fun _ hk => hk.2) (.int .i64 t206)) (fun _ hk => hk.2) (.int .i64 t207)) (fun _ hk => trivial), (zB3 (IsS73.ge HI200.out) GE196.out GE210.out HB.out)⟩

end Go.Proofs.Yteahdfibipalkaa.G
