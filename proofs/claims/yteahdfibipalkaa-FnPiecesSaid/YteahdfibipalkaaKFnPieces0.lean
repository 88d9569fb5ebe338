/- Texts for: FnPieces holds for every input, without a condition: adding pieces keeps and reads back every byte, in any order. -/
import Derived.Test.YteahdfibipalkaaWWords
import Derived.Test.YteahdfibipalkaaWMore
import Derived.Test.YteahdfibipalkaaProg
import Derived.Below
import Derived.Deep.Draws
import Derived.Deep.AppendLies
import Derived.Maps.AppendAt
import Derived.OwnWalk
import Derived.Laws.BytesArg
import Derived.Laws.MakeOwn
import Derived.Laws.OwnMore
import Derived.Deep.OwnRows
import Derived.Tactics
import Derived.Lib.ConvBytes
import Derived.Laws.Slices
import Derived.WalkKit
import Derived.KernelRfl
import Derived.RowKit3
import Derived.Deep.LoopGhost
import Derived.Deep.QuietTactic
import Derived.BigQuiet
import Derived.WideLaws
import Derived.Deep.DeepCutAuto
import Derived.Deep.CutBlock
import Derived.Deep.RegionHeld3
import Derived.Laws.Rows
import Derived.Lib.AppendStr
import Derived.ArgAppend
import Derived.Laws.IdiomCopy
import Derived.OrdersHeld
import Derived.Laws.BitsLemmas
import Derived.RowKit
import Derived.Shelf.SlicesQ.IndexFunc
import Derived.Lib.SliceRun
import Derived.Lib.LazyBuf
import Derived.Test.YteahdfibipalkaaWLast
import Derived.Test.YteahdfibipalkaaWTab
import Derived.Test.YteahdfibipalkaaWFour
import Derived.Test.YteahdfibipalkaaWQPut
import Derived.Test.YteahdfibipalkaaWApart
import Derived.Test.YteahdfibipalkaaWArr
import Derived.Test.YteahdfibipalkaaWZeros
import Derived.Test.YteahdfibipalkaaWFoot
import Derived.Test.YteahdfibipalkaaWKept
import Derived.Test.YteahdfibipalkaaWShare
import Derived.Test.YteahdfibipalkaaWN
import Derived.Test.YteahdfibipalkaaWFootNe
import Derived.Test.YteahdfibipalkaaWAt
import Derived.Test.YteahdfibipalkaaWEqStruct
import Derived.Test.YteahdfibipalkaaWRepsOne
import Derived.Test.YteahdfibipalkaaWInv
import Derived.Test.YteahdfibipalkaaWInvWords
import Derived.Test.YteahdfibipalkaaWGuard
import Derived.Test.YteahdfibipalkaaWNEv

namespace Go.Proofs.Yteahdfibipalkaa.G
open Go.RowKit Go.Proofs.YteahdfibipalkaaW.PrintWords Go.Proofs.YteahdfibipalkaaW.PrintLast Go.Proofs.YteahdfibipalkaaW.PrintMore
set_option linter.unusedVariables false

structure S26 where
  f0 : Int
  f1 : Int

def z26 : S26 := ⟨(0 : Int), (0 : Int)⟩

def rd_T26 (xs : List S26) (i : Int) : S26 := xs.getD i.toNat z26

structure S37 where
  f0 : Int
  f1 : ByteArray

def z37 : S37 := ⟨(0 : Int), (⟨#[]⟩ : ByteArray)⟩

def rd_T37 (xs : List S37) (i : Int) : S37 := xs.getD i.toNat z37

structure S44 where
  f0 : Int
  f1 : ByteArray

def z44 : S44 := ⟨(0 : Int), (⟨#[]⟩ : ByteArray)⟩

def rd_T44 (xs : List S44) (i : Int) : S44 := xs.getD i.toNat z44

def laws_big.f (l0 : List Int) : Option (Bool) := some (decide ((l0.length : Int) > 1048576))

def spec_l1New.l0 : Nat → List Int → Int → Int → Option (List Int × Int × Int)
  | 0, _, _, _ => none
  | k + 1, x0, x3, x4 => if x4 < (x0.length : Int) then (if x4 < 4000 then (if 0 ≤ x4 then (spec_l1New.l0 k x0 (Go.bits .and .i64 (wrap64 ((wrap64 ((wrap64 (x3 * 139)) + (wrap64 (rd x0 x4)))) + 11)) 1073741823) (wrap64 (x4 + 1))) else (none)) else (some (x0, 0, x3))) else (some (x0, 0, x3))

def spec_l1New.f (k : Nat) (l0 : List Int) : Option (List Int × Int × Int) := spec_l1New.l0 k l0 (wrap64 (271091 + (l0.length : Int))) 0

def spec_l1Byte.f (s0_0 : List Int) (s0_1 : Int) (s0_2 : Int) : Option (Int × Int × Int) := if s0_1 < (s0_0.length : Int) then (if 0 ≤ s0_1 then (some (Go.bits .and .i64 (wrap64 ((Go.bits .and .i64 (Go.bits .xor .i64 ((wrap64 ((wrap64 (s0_2 * 6364136223846793005)) + 1442695040888963407)) / 8589934592) ((wrap64 ((wrap64 (s0_2 * 6364136223846793005)) + 1442695040888963407)) / 140737488355328)) 255) + (wrap64 (rd s0_0 s0_1)))) 255, wrap64 (s0_1 + 1), wrap64 ((wrap64 (s0_2 * 6364136223846793005)) + 1442695040888963407))) else (none)) else (some (Go.bits .and .i64 (Go.bits .xor .i64 ((wrap64 ((wrap64 (s0_2 * 6364136223846793005)) + 1442695040888963407)) / 8589934592) ((wrap64 ((wrap64 (s0_2 * 6364136223846793005)) + 1442695040888963407)) / 140737488355328)) 255, s0_1, wrap64 ((wrap64 (s0_2 * 6364136223846793005)) + 1442695040888963407)))

def spec_l1Below.f (s0_0 : List Int) (s0_1 : Int) (s0_2 : Int) (a1 : Int) : Option (Int × Int × Int) := if a1 ≤ 0 then (some (0, s0_1, s0_2)) else (if a1 ≤ 256 then ((spec_l1Byte.f s0_0 s0_1 s0_2).bind fun bt105 => (if a1 = 0 then (none) else (some (Int.tmod bt105.1 a1, bt105.2.1, bt105.2.2)))) else ((spec_l1Byte.f s0_0 s0_1 s0_2).bind fun bt108 => ((spec_l1Byte.f s0_0 bt108.2.1 bt108.2.2).bind fun bt111 => ((spec_l1Byte.f s0_0 bt111.2.1 bt111.2.2).bind fun bt114 => (if a1 = 0 then (none) else (some (Int.tmod (wrap64 ((wrap64 ((wrap64 (bt108.1 * 65536)) + (wrap64 (bt111.1 * 256)))) + bt114.1)) a1, bt114.2.1, bt114.2.2)))))))

def spec_l9Span.f (s0_0 : List Int) (s0_1 : Int) (s0_2 : Int) : Option (Int × Int × Int × Int) := (spec_l1Below.f s0_0 s0_1 s0_2 16).bind fun bt118 => ((spec_l1Below.f s0_0 bt118.2.1 bt118.2.2 6).bind fun bt121 => (some (bt118.1, wrap64 (bt118.1 + bt121.1), bt121.2.1, bt121.2.2)))

def spec_l1Once.f (s0_0 : List Int) (s0_1 : Int) (s0_2 : Int) (a1 : Int) : Option (Bool × Int × Int) := (spec_l1Below.f s0_0 s0_1 s0_2 a1).bind fun bt124 => (some ((bt124.1 == 0), bt124.2.1, bt124.2.2))

def spec_IsSpanSet.l0 : Nat → List (S26) → Int → Option (Bool)
  | 0, _, _ => none
  | k + 1, x0, x3 => if x3 < (x0.length : Int) then (if 0 ≤ x3 then (if ((rd_T26 x0 x3).f0) < 0 then (some false) else (if ((rd_T26 x0 x3).f0) ≥ ((rd_T26 x0 x3).f1) then (some false) else (if ((rd_T26 x0 x3).f1) > 1000000000000 then (some false) else (if x3 > 0 then (if 0 ≤ (wrap64 (x3 - 1)) then (if (wrap64 (x3 - 1)) < (x0.length : Int) then (if ((rd_T26 x0 (wrap64 (x3 - 1))).f1) ≥ ((rd_T26 x0 x3).f0) then (some false) else (spec_IsSpanSet.l0 k x0 (wrap64 (x3 + 1)))) else (none)) else (none)) else (spec_IsSpanSet.l0 k x0 (wrap64 (x3 + 1))))))) else (none)) else (some true)

def spec_IsSpanSet.f (k : Nat) (l0 : List (S26)) : Option (Bool) := spec_IsSpanSet.l0 k l0 0

def spec_Min.f (a0 : Int) (a1 : Int) : Option (Int) := if a1 < a0 then (some a1) else (some a0)

def spec_Max.f (a0 : Int) (a1 : Int) : Option (Int) := if a1 > a0 then (some a1) else (some a0)

mutual
def spec_AddSpan.j0 : Nat → List (S26) → Bool → Int → Int → Option ((List (S26)))
  | 0, _, _, _, _ => none
  | k + 1, x0, x28, x134000, x134001 => if x28 = true then ((some (([] : List (S26)) : List (S26))).bind fun y135 => (if y135.length + x0.length < 8796093022208 then (some (y135 ++ x0)) else (none))) else (spec_AddSpan.l0 k x0 (([] : List (S26))) 0 x134000 x134001)
def spec_AddSpan.l0 : Nat → List (S26) → List (S26) → Int → Int → Int → Option ((List (S26)))
  | 0, _, _, _, _, _ => none
  | k + 1, x0, x5, x6, x134000, x134001 => if x6 < (x0.length : Int) then (if 0 ≤ x6 then (if ((rd_T26 x0 x6).f1) < x134000 then (if x5.length < 8796093022208 then (spec_AddSpan.l0 k x0 (x5 ++ [(⟨(rd_T26 x0 x6).f0, (rd_T26 x0 x6).f1⟩ : S26)]) (wrap64 (x6 + 1)) x134000 x134001) else (none)) else (spec_AddSpan.l0 k x0 x5 (wrap64 (x6 + 1)) x134000 x134001)) else (none)) else (spec_AddSpan.l1 k x0 x5 0 x134000 x134001)
def spec_AddSpan.l1 : Nat → List (S26) → List (S26) → Int → Int → Int → Option ((List (S26)))
  | 0, _, _, _, _, _ => none
  | k + 1, x0, x5, x7, x134000, x134001 => if x7 < (x0.length : Int) then (if 0 ≤ x7 then (if ((rd_T26 x0 x7).f1) ≥ x134000 then (spec_AddSpan.j3 k x0 x5 x7 (decide (((rd_T26 x0 x7).f0) ≤ x134001)) x134000 x134001) else (spec_AddSpan.j3 k x0 x5 x7 false x134000 x134001)) else (none)) else (if x5.length < 8796093022208 then (spec_AddSpan.l2 k x0 (x5 ++ [(⟨x134000, x134001⟩ : S26)]) 0 x134000 x134001) else (none))
def spec_AddSpan.j3 : Nat → List (S26) → List (S26) → Int → Bool → Int → Int → Option ((List (S26)))
  | 0, _, _, _, _, _, _ => none
  | k + 1, x0, x5, x7, x77, x134000, x134001 => if x77 = true then (if 0 ≤ x7 then (if x7 < (x0.length : Int) then ((spec_Min.f x134000 ((rd_T26 x0 x7).f0)).bind fun t152 => ((spec_Max.f x134001 ((rd_T26 x0 x7).f1)).bind fun t154 => (spec_AddSpan.l1 k x0 x5 (wrap64 (x7 + 1)) t152 t154))) else (none)) else (none)) else (spec_AddSpan.l1 k x0 x5 (wrap64 (x7 + 1)) x134000 x134001)
def spec_AddSpan.l2 : Nat → List (S26) → List (S26) → Int → Int → Int → Option ((List (S26)))
  | 0, _, _, _, _, _ => none
  | k + 1, x0, x5, x8, x134000, x134001 => if x8 < (x0.length : Int) then (if 0 ≤ x8 then (if ((rd_T26 x0 x8).f0) > x134001 then (if x5.length < 8796093022208 then (spec_AddSpan.l2 k x0 (x5 ++ [(⟨(rd_T26 x0 x8).f0, (rd_T26 x0 x8).f1⟩ : S26)]) (wrap64 (x8 + 1)) x134000 x134001) else (none)) else (spec_AddSpan.l2 k x0 x5 (wrap64 (x8 + 1)) x134000 x134001)) else (none)) else (some x5)
end

def spec_AddSpan.f (k : Nat) (l0 : List (S26)) (a1_0 : Int) (a1_1 : Int) : Option ((List (S26))) := (spec_IsSpanSet.f k l0).bind fun t134 => (if t134 = true then (if a1_0 < 0 then (spec_AddSpan.j0 k l0 true a1_0 a1_1) else (if a1_0 ≥ a1_1 then (spec_AddSpan.j0 k l0 true a1_0 a1_1) else (spec_AddSpan.j0 k l0 (decide (a1_1 > 1000000000000)) a1_0 a1_1))) else (spec_AddSpan.j0 k l0 true a1_0 a1_1))

def spec_l9Set.l0 : Nat → List (S26) → Int → List Int → Int → Int → Option ((List (S26)) × Int × Int)
  | 0, _, _, _, _, _ => none
  | k + 1, x3, x4, x1000, x1001, x1002 => if x4 > 0 then ((spec_l9Span.f x1000 x1001 x1002).bind fun bt169 => ((spec_AddSpan.f k x3 bt169.1 bt169.2.1).bind fun t173 => (spec_l9Set.l0 k t173 (wrap64 (x4 - 1)) x1000 bt169.2.2.1 bt169.2.2.2))) else ((spec_l1Once.f x1000 x1001 x1002 9).bind fun bt176 => (if bt176.1 = true then ((spec_l9Span.f x1000 bt176.2.1 bt176.2.2).bind fun bt179 => (if x3.length < 8796093022208 then (some ((x3 ++ [(⟨bt179.1, bt179.2.1⟩ : S26)]), bt179.2.2.1, bt179.2.2.2)) else (none))) else (some (x3, bt176.2.1, bt176.2.2))))

def spec_l9Set.f (k : Nat) (s0_0 : List Int) (s0_1 : Int) (s0_2 : Int) : Option ((List (S26)) × Int × Int) := (spec_l1Below.f s0_0 s0_1 s0_2 5).bind fun bt166 => (spec_l9Set.l0 k (([] : List (S26))) bt166.1 s0_0 bt166.2.1 bt166.2.2)

def spec_l1Int.f (s0_0 : List Int) (s0_1 : Int) (s0_2 : Int) (l1 : List Int) : Option (Int × Int × Int) := (spec_l1Below.f s0_0 s0_1 s0_2 (l1.length : Int)).bind fun bt186 => (if 0 ≤ bt186.1 then (if bt186.1 < (l1.length : Int) then (some (rd l1 bt186.1, bt186.2.1, bt186.2.2)) else (none)) else (none))

def spec_l1Odd.f (s0_0 : List Int) (s0_1 : Int) (s0_2 : Int) : Option (Int × Int × Int) := (spec_l1Int.f s0_0 s0_1 s0_2 (([(-1), 0, 1, 2, 255, 256, 65535, 2147483647, 2147483648, 4294967295, 4294967296, (-2147483648), 9223372036854775807, (-9223372036854775808)] : List Int))).bind fun bt193 => (some (bt193.1, bt193.2.1, bt193.2.2))

def spec_DrawAddSpan.f (k : Nat) (l0 : List Int) : Option ((List (S26)) × Int × Int) := (spec_l1New.f k l0).bind fun bt197 => ((spec_l9Set.f k bt197.1 bt197.2.1 bt197.2.2).bind fun bt201 => ((spec_l9Span.f bt197.1 bt201.2.1 bt201.2.2).bind fun bt206 => ((spec_l1Once.f bt197.1 bt206.2.2.1 bt206.2.2.2 9).bind fun bt211 => (if bt211.1 = true then ((spec_l1Odd.f bt197.1 bt211.2.1 bt211.2.2).bind fun bt214 => (some (bt201.1, bt214.1, bt206.2.1))) else (some (bt201.1, bt206.1, bt206.2.1))))))

def impl_IsSpanSet.l0 : Nat → List (S26) → List (S26) → Int → Int → Option (Bool)
  | 0, _, _, _, _ => none
  | k + 1, x0, x5, x6, x7 => if x7 < x6 then (if 0 ≤ x7 then (if x7 < (x5.length : Int) then (if ((rd_T26 x5 x7).f0) < 0 then (some false) else (if ((rd_T26 x5 x7).f0) ≥ ((rd_T26 x5 x7).f1) then (some false) else (if ((rd_T26 x5 x7).f1) > 1000000000000 then (some false) else (if x7 > 0 then (if 0 ≤ (wrap64 (x7 - 1)) then (if (wrap64 (x7 - 1)) < (x0.length : Int) then (if ((rd_T26 x0 (wrap64 (x7 - 1))).f1) ≥ ((rd_T26 x5 x7).f0) then (some false) else (impl_IsSpanSet.l0 k x0 x5 x6 (wrap64 (x7 + 1)))) else (none)) else (none)) else (impl_IsSpanSet.l0 k x0 x5 x6 (wrap64 (x7 + 1))))))) else (none)) else (none)) else (some true)

def impl_IsSpanSet.f (k : Nat) (l0 : List (S26)) : Option (Bool) := impl_IsSpanSet.l0 k l0 l0 (l0.length : Int) 0

def impl_Span_38.f (l0 : List (S26)) : Option ((List (S26))) := (some (([] : List (S26)) : List (S26))).bind fun y220 => (if y220.length + l0.length < 8796093022208 then (some (y220 ++ l0)) else (none))

mutual
def impl_AddSpan.j0 : Nat → List (S26) → Bool → Int → Int → Option ((List (S26)))
  | 0, _, _, _, _ => none
  | k + 1, x0, x26, x227000, x227001 => if x26 = true then ((impl_Span_38.f x0).bind fun t228 => (some t228)) else (impl_AddSpan.l0 k x0 (([] : List (S26))) 0 x227000 x227001)
def impl_AddSpan.j2 : Nat → List (S26) → List (S26) → Int → Int → Int → Option ((List (S26)))
  | 0, _, _, _, _, _ => none
  | k + 1, x0, x5, x6, x227000, x227001 => impl_AddSpan.l1 k x0 x5 x6 x227000 x227001
def impl_AddSpan.l1 : Nat → List (S26) → List (S26) → Int → Int → Int → Option ((List (S26)))
  | 0, _, _, _, _, _ => none
  | k + 1, x0, x5, x6, x227000, x227001 => if x6 < (x0.length : Int) then (if 0 ≤ x6 then (if ((rd_T26 x0 x6).f0) ≤ x227001 then (impl_AddSpan.l1 k x0 x5 (wrap64 (x6 + 1)) (mn x227000 ((rd_T26 x0 x6).f0)) (mx x227001 ((rd_T26 x0 x6).f1))) else (if x5.length < 8796093022208 then ((some (x5 ++ [(⟨x227000, x227001⟩ : S26)] : List (S26))).bind fun y242 => (if x6 ≤ (x0.length : Int) then ((some (x0.drop (x6 : Int).toNat : List (S26))).bind fun y245 => (if y242.length + y245.length < 8796093022208 then (some (y242 ++ y245)) else (none))) else (none))) else (none))) else (none)) else (if x5.length < 8796093022208 then ((some (x5 ++ [(⟨x227000, x227001⟩ : S26)] : List (S26))).bind fun y252 => (if 0 ≤ x6 then (if x6 ≤ (x0.length : Int) then ((some (x0.drop (x6 : Int).toNat : List (S26))).bind fun y255 => (if y252.length + y255.length < 8796093022208 then (some (y252 ++ y255)) else (none))) else (none)) else (none))) else (none))
def impl_AddSpan.l0 : Nat → List (S26) → List (S26) → Int → Int → Int → Option ((List (S26)))
  | 0, _, _, _, _, _ => none
  | k + 1, x0, x5, x6, x227000, x227001 => if x6 < (x0.length : Int) then (if 0 ≤ x6 then (if ((rd_T26 x0 x6).f1) < x227000 then (if x5.length < 8796093022208 then (impl_AddSpan.l0 k x0 (x5 ++ [(⟨(rd_T26 x0 x6).f0, (rd_T26 x0 x6).f1⟩ : S26)]) (wrap64 (x6 + 1)) x227000 x227001) else (none)) else (impl_AddSpan.j2 k x0 x5 x6 x227000 x227001)) else (none)) else (impl_AddSpan.j2 k x0 x5 x6 x227000 x227001)
end

def impl_AddSpan.f (k : Nat) (l0 : List (S26)) (a1_0 : Int) (a1_1 : Int) : Option ((List (S26))) := (impl_IsSpanSet.f k l0).bind fun t227 => (if t227 = true then (if a1_0 ≥ a1_1 then (impl_AddSpan.j0 k l0 true a1_0 a1_1) else (if a1_0 < 0 then (impl_AddSpan.j0 k l0 true a1_0 a1_1) else (impl_AddSpan.j0 k l0 (decide (a1_1 > 1000000000000)) a1_0 a1_1))) else (impl_AddSpan.j0 k l0 true a1_0 a1_1))

def spec_DrawMissingSpans.f (k : Nat) (l0 : List Int) : Option ((List (S26)) × Int × Int) := (spec_l1New.f k l0).bind fun bt263 => ((spec_l9Set.f k bt263.1 bt263.2.1 bt263.2.2).bind fun bt267 => ((spec_l9Span.f bt263.1 bt267.2.1 bt267.2.2).bind fun bt272 => (some (bt267.1, bt272.1, bt272.2.1))))

mutual
def impl_MissingSpans.l1 : Nat → List (S26) → Int → List (S26) → Int → Int → Int → Int → Option ((List (S26)))
  | 0, _, _, _, _, _, _, _ => none
  | k + 1, x5, x6, x15, x16, x17, x277000, x277001 => if x17 < x16 then (if 0 ≤ x17 then (if x17 < (x15.length : Int) then (if ((rd_T26 x15 x17).f1) ≤ x6 then (impl_MissingSpans.j1 k x5 x6 x15 x16 x17 true x277000 x277001 ((rd_T26 x15 x17).f0) ((rd_T26 x15 x17).f1)) else (impl_MissingSpans.j1 k x5 x6 x15 x16 x17 (decide (((rd_T26 x15 x17).f0) ≥ x277001)) x277000 x277001 ((rd_T26 x15 x17).f0) ((rd_T26 x15 x17).f1))) else (none)) else (none)) else (if x6 < x277001 then (if x5.length < 8796093022208 then (some (x5 ++ [(⟨x6, x277001⟩ : S26)])) else (none)) else (some x5))
def impl_MissingSpans.j1 : Nat → List (S26) → Int → List (S26) → Int → Int → Bool → Int → Int → Int → Int → Option ((List (S26)))
  | 0, _, _, _, _, _, _, _, _, _, _ => none
  | k + 1, x5, x6, x15, x16, x17, x31, x277000, x277001, x286000, x286001 => if x31 = true then (impl_MissingSpans.l1 k x5 x6 x15 x16 (wrap64 (x17 + 1)) x277000 x277001) else (if x286000 > x6 then (if x5.length < 8796093022208 then (impl_MissingSpans.l1 k (x5 ++ [(⟨x6, x286000⟩ : S26)]) x286001 x15 x16 (wrap64 (x17 + 1)) x277000 x277001) else (none)) else (impl_MissingSpans.l1 k x5 x286001 x15 x16 (wrap64 (x17 + 1)) x277000 x277001))
def impl_MissingSpans.l0 : Nat → List (S26) → Int → Int → Int → Int → Int → Option ((List (S26)))
  | 0, _, _, _, _, _, _ => none
  | k + 1, x5, x6, x16, x17, x277000, x277001 => if x17 < x16 then (none) else (if x6 < x277001 then (if x5.length < 8796093022208 then (some (x5 ++ [(⟨x6, x277001⟩ : S26)])) else (none)) else (some x5))
end

def impl_MissingSpans.f (k : Nat) (l0 : List (S26)) (a1_0 : Int) (a1_1 : Int) : Option ((List (S26))) := (some (([] : List (S26)) : List (S26))).bind fun y277 => ((impl_IsSpanSet.f k l0).bind fun t280 => (if t280 = true then (impl_MissingSpans.l1 k y277 a1_0 l0 (l0.length : Int) 0 a1_0 a1_1) else (impl_MissingSpans.l0 k y277 a1_0 0 0 a1_0 a1_1)))

def idxI {α : Type} (p : α → Bool) (l : List α) : Int := if l.findIdx p < l.length then (l.findIdx p : Int) else -1

def impl_CoversSpan.f (l0 : List (S26)) (a1_0 : Int) (a1_1 : Int) : Option (Bool) := some (if a1_0 ≥ a1_1 then true else l0.any fun y => decide (y.f0 ≤ a1_0) && decide (a1_1 ≤ y.f1))

def spec_CoversSpan.l0 : Nat → List (S26) → Int → Int → Int → Option (Bool)
  | 0, _, _, _, _ => none
  | k + 1, x0, x5, x293000, x293001 => if x5 < (x0.length : Int) then (if 0 ≤ x5 then (if ((rd_T26 x0 x5).f0) ≤ x293000 then (if x293001 ≤ ((rd_T26 x0 x5).f1) then (some true) else (spec_CoversSpan.l0 k x0 (wrap64 (x5 + 1)) x293000 x293001)) else (spec_CoversSpan.l0 k x0 (wrap64 (x5 + 1)) x293000 x293001)) else (none)) else (some (decide (x293000 ≥ x293001)))

def spec_CoversSpan.f (k : Nat) (l0 : List (S26)) (a1_0 : Int) (a1_1 : Int) : Option (Bool) := spec_CoversSpan.l0 k l0 0 a1_0 a1_1

def spec_DrawUniteSpans.l0 : Nat → List (S26) → Int → List Int → Int → Int → Option ((List (S26)))
  | 0, _, _, _, _, _ => none
  | k + 1, x4, x5, x299000, x299001, x299002 => if x5 > 0 then ((spec_l9Span.f x299000 x299001 x299002).bind fun bt305 => (if x4.length < 8796093022208 then (spec_DrawUniteSpans.l0 k (x4 ++ [(⟨bt305.1, bt305.2.1⟩ : S26)]) (wrap64 (x5 - 1)) x299000 bt305.2.2.1 bt305.2.2.2) else (none))) else (some x4)

def spec_DrawUniteSpans.f (k : Nat) (l0 : List Int) : Option ((List (S26))) := (spec_l1New.f k l0).bind fun bt295 => ((spec_l1Below.f bt295.1 bt295.2.1 bt295.2.2 6).bind fun bt302 => (spec_DrawUniteSpans.l0 k (([] : List (S26))) bt302.1 bt295.1 bt302.2.1 bt302.2.2))

def impl_UniteSpans.l0 : Nat → List (S26) → List (S26) → Int → Int → Option ((List (S26)))
  | 0, _, _, _, _ => none
  | k + 1, x3, x7, x8, x9 => if x9 < x8 then (if 0 ≤ x9 then (if x9 < (x7.length : Int) then ((impl_AddSpan.f k x3 ((rd_T26 x7 x9).f0) ((rd_T26 x7 x9).f1)).bind fun t317 => (impl_UniteSpans.l0 k t317 x7 x8 (wrap64 (x9 + 1)))) else (none)) else (none)) else (some x3)

def impl_UniteSpans.f (k : Nat) (l0 : List (S26)) : Option ((List (S26))) := impl_UniteSpans.l0 k (([] : List (S26))) l0 (l0.length : Int) 0

def impl_SpanSize.l0 : Nat → Int → List (S26) → Int → Int → Option (Int)
  | 0, _, _, _, _ => none
  | k + 1, x3, x6, x7, x8 => if x8 < x7 then (if 0 ≤ x8 then (if x8 < (x6.length : Int) then (impl_SpanSize.l0 k (wrap64 (x3 + (wrap64 (((rd_T26 x6 x8).f1) - ((rd_T26 x6 x8).f0))))) x6 x7 (wrap64 (x8 + 1))) else (none)) else (none)) else (some x3)

def impl_SpanSize.f (k : Nat) (l0 : List (S26)) : Option (Int) := impl_SpanSize.l0 k 0 l0 (l0.length : Int) 0

mutual
def laws_FnIntervals.l0 : Nat → List Int → List (S26) → List (S26) → List (S26) → List (S26) → Bool → Int → Int → Int → Int → Int → Option (Bool)
  | 0, _, _, _, _, _, _, _, _, _, _, _ => none
  | k + 1, x0, x3, x5, x6, x8, x9, x10, x329000, x329001, x338000, x338001 => if x10 < 40 then (if x9 = true then (laws_FnIntervals.j1 k x0 x3 x5 x6 x8 x9 x10 (decide (x329000 ≥ 0)) x329000 x329001 x338000 x338001) else (laws_FnIntervals.j1 k x0 x3 x5 x6 x8 x9 x10 false x329000 x329001 x338000 x338001)) else (laws_FnIntervals.j1 k x0 x3 x5 x6 x8 x9 x10 false x329000 x329001 x338000 x338001)
def laws_FnIntervals.j1 : Nat → List Int → List (S26) → List (S26) → List (S26) → List (S26) → Bool → Int → Bool → Int → Int → Int → Int → Option (Bool)
  | 0, _, _, _, _, _, _, _, _, _, _, _, _ => none
  | k + 1, x0, x3, x5, x6, x8, x9, x10, x44, x329000, x329001, x338000, x338001 => if x44 = true then ((impl_CoversSpan.f x5 x10 (wrap64 (x10 + 1))).bind fun t343 => ((spec_CoversSpan.f k x3 x10 (wrap64 (x10 + 1))).bind fun t344 => (if t344 = true then (laws_FnIntervals.j2 k x0 x3 x5 x6 x8 x9 x10 (t343 != true) x329000 x329001 x338000 x338001 x10 (wrap64 (x10 + 1))) else (if x329000 ≤ x10 then (if x10 < x329001 then (laws_FnIntervals.j2 k x0 x3 x5 x6 x8 x9 x10 (t343 != (decide (x329001 ≤ 1000000000000))) x329000 x329001 x338000 x338001 x10 (wrap64 (x10 + 1))) else (laws_FnIntervals.j2 k x0 x3 x5 x6 x8 x9 x10 (t343 != false) x329000 x329001 x338000 x338001 x10 (wrap64 (x10 + 1)))) else (laws_FnIntervals.j2 k x0 x3 x5 x6 x8 x9 x10 (t343 != false) x329000 x329001 x338000 x338001 x10 (wrap64 (x10 + 1))))))) else ((spec_DrawUniteSpans.f k x0).bind fun t348 => ((impl_UniteSpans.f k t348).bind fun t351 => (laws_FnIntervals.l1 k x5 x9 t348 t351 0)))
def laws_FnIntervals.j2 : Nat → List Int → List (S26) → List (S26) → List (S26) → List (S26) → Bool → Int → Bool → Int → Int → Int → Int → Int → Int → Option (Bool)
  | 0, _, _, _, _, _, _, _, _, _, _, _, _, _, _ => none
  | k + 1, x0, x3, x5, x6, x8, x9, x10, x74, x329000, x329001, x338000, x338001, x343000, x343001 => if x74 = true then (some false) else ((spec_IsSpanSet.f k x6).bind fun t345 => (if t345 = true then ((spec_CoversSpan.f k x8 x343000 x343001).bind fun t346 => (if x338000 ≤ x10 then (if x10 < x338001 then ((spec_CoversSpan.f k x6 x343000 x343001).bind fun t347 => (if (t346 != (!t347)) = true then (some false) else (laws_FnIntervals.l0 k x0 x3 x5 x6 x8 x9 (wrap64 (x10 + 1)) x329000 x329001 x338000 x338001))) else (if (t346 != false) = true then (some false) else (laws_FnIntervals.l0 k x0 x3 x5 x6 x8 x9 (wrap64 (x10 + 1)) x329000 x329001 x338000 x338001))) else (if (t346 != false) = true then (some false) else (laws_FnIntervals.l0 k x0 x3 x5 x6 x8 x9 (wrap64 (x10 + 1)) x329000 x329001 x338000 x338001)))) else (laws_FnIntervals.l0 k x0 x3 x5 x6 x8 x9 (wrap64 (x10 + 1)) x329000 x329001 x338000 x338001)))
def laws_FnIntervals.l1 : Nat → List (S26) → Bool → List (S26) → List (S26) → Int → Option (Bool)
  | 0, _, _, _, _, _ => none
  | k + 1, x5, x9, x12, x13, x14 => if x14 < (x12.length : Int) then (if 0 ≤ x14 then (if ((rd_T26 x12 x14).f0) ≥ 0 then ((impl_CoversSpan.f x13 ((rd_T26 x12 x14).f0) ((rd_T26 x12 x14).f1)).bind fun t356 => (if t356 = true then (laws_FnIntervals.l1 k x5 x9 x12 x13 (wrap64 (x14 + 1))) else (some false))) else (laws_FnIntervals.l1 k x5 x9 x12 x13 (wrap64 (x14 + 1)))) else (none)) else (if x9 = true then ((impl_IsSpanSet.f k x5).bind fun t357 => (if t357 = true then ((impl_IsSpanSet.f k x13).bind fun t358 => (if t358 = true then ((spec_IsSpanSet.f k x13).bind fun t359 => (if t359 = true then ((impl_SpanSize.f k x13).bind fun t360 => ((impl_SpanSize.f k x12).bind fun t361 => (some (decide (t360 ≤ t361))))) else (some false))) else (some false))) else (some false))) else ((impl_IsSpanSet.f k x13).bind fun t362 => (if t362 = true then ((spec_IsSpanSet.f k x13).bind fun t363 => (if t363 = true then ((impl_SpanSize.f k x13).bind fun t364 => ((impl_SpanSize.f k x12).bind fun t365 => (some (decide (t364 ≤ t365))))) else (some false))) else (some false))))
end

def laws_FnIntervals.f (k : Nat) (l0 : List Int) : Option (Bool) := (laws_big.f l0).bind fun t322 => (if t322 = true then (some true) else ((spec_DrawAddSpan.f k l0).bind fun bt323 => ((impl_AddSpan.f k bt323.1 bt323.2.1 bt323.2.2).bind fun t329 => ((spec_DrawMissingSpans.f k l0).bind fun bt332 => ((impl_MissingSpans.f k bt332.1 bt332.2.1 bt332.2.2).bind fun t338 => ((spec_IsSpanSet.f k bt323.1).bind fun t341 => (laws_FnIntervals.l0 k l0 bt323.1 t329 bt332.1 t338 t341 0 bt323.2.1 bt323.2.2 bt332.2.1 bt332.2.2)))))))

def laws_szPiece.f (a0_0 : Int) (a0_1 : ByteArray) (a1 : Int) : Option (Int) := if (wrap64 (a1 - (a0_1.size : Int))) < 0 then (some (-1)) else (some (wrap64 (a1 - (a0_1.size : Int))))

def laws_szPieceS.l0 : Nat → List (S37) → Int → Int → Option (Int)
  | 0, _, _, _ => none
  | k + 1, x0, x1, x5 => if x5 < (x0.length : Int) then (if 0 ≤ x5 then ((laws_szPiece.f ((rd_T37 x0 x5).f0) ((rd_T37 x0 x5).f1) x1).bind fun t368 => (if t368 < 0 then (some (-1)) else (laws_szPieceS.l0 k x0 t368 (wrap64 (x5 + 1))))) else (none)) else (some x1)

def laws_szPieceS.f (k : Nat) (l0 : List (S37)) (a1 : Int) : Option (Int) := if (wrap64 (a1 - (l0.length : Int))) < 0 then (some (-1)) else (laws_szPieceS.l0 k l0 (wrap64 (a1 - (l0.length : Int))) 0)

def spec_SpansOf.l0 : Nat → List (S44) → List (S26) → Int → Option ((List (S26)))
  | 0, _, _, _ => none
  | k + 1, x0, x3, x4 => if x4 < (x0.length : Int) then (if 0 ≤ x4 then (if x3.length < 8796093022208 then (spec_SpansOf.l0 k x0 (x3 ++ [(⟨(rd_T44 x0 x4).f0, wrap64 (((rd_T44 x0 x4).f0) + (((rd_T44 x0 x4).f1).size : Int))⟩ : S26)]) (wrap64 (x4 + 1))) else (none)) else (none)) else (some x3)

def spec_SpansOf.f (k : Nat) (l0 : List (S44)) : Option ((List (S26))) := spec_SpansOf.l0 k l0 (([] : List (S26))) 0

def spec_l1In.f (a0 : Int) (a1 : Int) (a2 : Int) : Option (Bool) := if a0 ≥ a1 then (some (decide (a0 ≤ a2))) else (some false)

def spec_ArePieces.f (k : Nat) (l0 : List (S44)) (a1 : Int) : Option (Bool) := (spec_SpansOf.f k l0).bind fun t378 => ((spec_l1In.f a1 0 600).bind fun t381 => (if t381 = true then (if (l0.length : Int) ≤ 8 then ((spec_IsSpanSet.f k t378).bind fun t382 => (if t382 = true then (if (t378.length : Int) = 0 then (some true) else (if 0 ≤ (wrap64 ((t378.length : Int) - 1)) then (if (wrap64 ((t378.length : Int) - 1)) < (t378.length : Int) then (some (decide (((rd_T26 t378 (wrap64 ((t378.length : Int) - 1))).f1) ≤ a1))) else (none)) else (none))) else (some false))) else (some false)) else (some false)))

def spec_l10Byte.l0 : Nat → List (S44) → Int → Int → Option (Int)
  | 0, _, _, _ => none
  | k + 1, x0, x1, x5 => if x5 < (x0.length : Int) then (if 0 ≤ x5 then (if ((rd_T44 x0 x5).f0) ≤ x1 then (if x1 < (wrap64 (((rd_T44 x0 x5).f0) + (((rd_T44 x0 x5).f1).size : Int))) then (if 0 ≤ (wrap64 (x1 - ((rd_T44 x0 x5).f0))) then (if (wrap64 (x1 - ((rd_T44 x0 x5).f0))) < (((rd_T44 x0 x5).f1).size : Int) then (some (wrap64 (bt ((rd_T44 x0 x5).f1) (wrap64 (x1 - ((rd_T44 x0 x5).f0)))))) else (none)) else (none)) else (spec_l10Byte.l0 k x0 x1 (wrap64 (x5 + 1)))) else (spec_l10Byte.l0 k x0 x1 (wrap64 (x5 + 1)))) else (none)) else (some (-1))

def spec_l10Byte.f (k : Nat) (l0 : List (S44)) (a1 : Int) : Option (Int) := spec_l10Byte.l0 k l0 a1 0

mutual
def spec_AddPiece.j0 : Nat → List (S44) → List (S44) → Int → Bool → Int → ByteArray → Option ((List (S44)) × Bool)
  | 0, _, _, _, _, _, _ => none
  | k + 1, x0, x8, x9, x58, x390000, x390001 => if x58 = true then (some (x8, false)) else (spec_AddPiece.l0 k x0 x8 x9 x390000 x390000 x390001)
def spec_AddPiece.l0 : Nat → List (S44) → List (S44) → Int → Int → Int → ByteArray → Option ((List (S44)) × Bool)
  | 0, _, _, _, _, _, _ => none
  | k + 1, x0, x8, x9, x10, x390000, x390001 => if x10 < x9 then ((spec_l10Byte.f k x0 x10).bind fun t397 => (if t397 ≥ 0 then (if 0 ≤ (wrap64 (x10 - x390000)) then (if (wrap64 (x10 - x390000)) < (x390001.size : Int) then (if t397 = (wrap64 (bt x390001 (wrap64 (x10 - x390000)))) then (spec_AddPiece.l0 k x0 x8 x9 (wrap64 (x10 + 1)) x390000 x390001) else (some (x8, false))) else (none)) else (none)) else (spec_AddPiece.l0 k x0 x8 x9 (wrap64 (x10 + 1)) x390000 x390001))) else ((spec_SpansOf.f k x0).bind fun t398 => ((spec_AddSpan.f k t398 x390000 x9).bind fun t401 => (if (t401.length : Int) > 8 then (some (x8, false)) else (spec_AddPiece.l1 k x0 t401 (([] : List (S44))) 0 x390000 x390001))))
def spec_AddPiece.l1 : Nat → List (S44) → List (S26) → List (S44) → Int → Int → ByteArray → Option ((List (S44)) × Bool)
  | 0, _, _, _, _, _, _ => none
  | k + 1, x0, x12, x13, x14, x390000, x390001 => if x14 < (x12.length : Int) then (if 0 ≤ x14 then (spec_AddPiece.l2 k x0 x12 x13 x14 (([] : List Int)) ((rd_T26 x12 x14).f0) x390000 x390001) else (none)) else (some (x13, true))
def spec_AddPiece.l2 : Nat → List (S44) → List (S26) → List (S44) → Int → List Int → Int → Int → ByteArray → Option ((List (S44)) × Bool)
  | 0, _, _, _, _, _, _, _, _ => none
  | k + 1, x0, x12, x13, x14, x15, x16, x390000, x390001 => if 0 ≤ x14 then (if x14 < (x12.length : Int) then (if x16 < ((rd_T26 x12 x14).f1) then ((spec_l10Byte.f k x0 x16).bind fun t412 => (if t412 < 0 then (if 0 ≤ (wrap64 (x16 - x390000)) then (if (wrap64 (x16 - x390000)) < (x390001.size : Int) then (if x15.length < 140737488355328 then (spec_AddPiece.l2 k x0 x12 x13 x14 (x15 ++ [(wrap64 (bt x390001 (wrap64 (x16 - x390000)))) % 256]) (wrap64 (x16 + 1)) x390000 x390001) else (none)) else (none)) else (none)) else (if x15.length < 140737488355328 then (spec_AddPiece.l2 k x0 x12 x13 x14 (x15 ++ [(t412) % 256]) (wrap64 (x16 + 1)) x390000 x390001) else (none)))) else (if x13.length < 5864062014805 then (spec_AddPiece.l1 k x0 x12 (x13 ++ [(⟨(rd_T26 x12 x14).f0, strOfNums x15⟩ : S44)]) (wrap64 (x14 + 1)) x390000 x390001) else (none))) else (none)) else (none)
end

def spec_AddPiece.f (k : Nat) (l0 : List (S44)) (a1 : Int) (a2_0 : Int) (a2_1 : ByteArray) : Option ((List (S44)) × Bool) := (some (([] : List (S44)) : List (S44))).bind fun y390 => (if y390.length + l0.length < 5864062014805 then ((some (y390 ++ l0 : List (S44))).bind fun y393 => ((spec_ArePieces.f k l0 a1).bind fun t396 => (if t396 = true then (if a2_0 < 0 then (spec_AddPiece.j0 k l0 y393 (wrap64 (a2_0 + (a2_1.size : Int))) true a2_0 a2_1) else (if (a2_1.size : Int) = 0 then (spec_AddPiece.j0 k l0 y393 (wrap64 (a2_0 + (a2_1.size : Int))) true a2_0 a2_1) else (if (a2_1.size : Int) > a1 then (spec_AddPiece.j0 k l0 y393 (wrap64 (a2_0 + (a2_1.size : Int))) true a2_0 a2_1) else (spec_AddPiece.j0 k l0 y393 (wrap64 (a2_0 + (a2_1.size : Int))) (decide (a2_0 > (wrap64 (a1 - (a2_1.size : Int))))) a2_0 a2_1)))) else (spec_AddPiece.j0 k l0 y393 (wrap64 (a2_0 + (a2_1.size : Int))) true a2_0 a2_1)))) else (none))

def laws_toPiece.f (a0_0 : Int) (a0_1 : ByteArray) : Option (Int × ByteArray) := some (a0_0, a0_1)

def laws_toPieceS.l0 : Nat → List (S37) → List (S44) → Int → Option ((List (S44)))
  | 0, _, _, _ => none
  | k + 1, x0, x3, x4 => if x4 < (x0.length : Int) then (if 0 ≤ x4 then ((laws_toPiece.f ((rd_T37 x0 x4).f0) ((rd_T37 x0 x4).f1)).bind fun bt430 => (if x4 < (x3.length : Int) then (laws_toPieceS.l0 k x0 (x3.set (x4 : Int).toNat (⟨bt430.1, bt430.2⟩ : S44)) (wrap64 (x4 + 1))) else (none))) else (none)) else (some x3)

def laws_toPieceS.f (k : Nat) (l0 : List (S37)) : Option ((List (S44))) := if 0 ≤ (l0.length : Int) then (if ((l0.length : Int) : Int).toNat ≤ 11728124029610 then (laws_toPieceS.l0 k l0 (List.replicate ((l0.length : Int) : Int).toNat z44) 0) else (none)) else (none)

def impl_SpansOf.l0 : Nat → List (S26) → List (S44) → Int → Int → Option ((List (S26)))
  | 0, _, _, _, _ => none
  | k + 1, x3, x7, x8, x9 => if x9 < x8 then (if 0 ≤ x9 then (if x9 < (x7.length : Int) then (if x3.length < 8796093022208 then (impl_SpansOf.l0 k (x3 ++ [(⟨(rd_T44 x7 x9).f0, wrap64 (((rd_T44 x7 x9).f0) + (((rd_T44 x7 x9).f1).size : Int))⟩ : S26)]) x7 x8 (wrap64 (x9 + 1))) else (none)) else (none)) else (none)) else (some x3)

def impl_SpansOf.f (k : Nat) (l0 : List (S44)) : Option ((List (S26))) := impl_SpansOf.l0 k (([] : List (S26))) l0 (l0.length : Int) 0

def impl_inRange.f (a0 : Int) (a1 : Int) (a2 : Int) : Option (Bool) := if a1 ≤ a0 then (some (decide (a0 ≤ a2))) else (some false)

def impl_ArePieces.f (k : Nat) (l0 : List (S44)) (a1 : Int) : Option (Bool) := (impl_SpansOf.f k l0).bind fun t441 => ((impl_inRange.f a1 0 600).bind fun t444 => (if t444 = true then (if (l0.length : Int) > 8 then (some false) else ((impl_IsSpanSet.f k t441).bind fun t445 => (if t445 = true then (if (t441.length : Int) = 0 then (some true) else (if 0 ≤ (wrap64 ((t441.length : Int) - 1)) then (if (wrap64 ((t441.length : Int) - 1)) < (t441.length : Int) then (some (decide (((rd_T26 t441 (wrap64 ((t441.length : Int) - 1))).f1) ≤ a1))) else (none)) else (none))) else (some false)))) else (some false)))

def impl_Piece.f (l0 : List (S44)) : Option ((List (S44))) := (some (([] : List (S44)) : List (S44))).bind fun y447 => (if y447.length + l0.length < 5864062014805 then (some (y447 ++ l0)) else (none))

def copyAt.f (l0 : List Int) (lo : Int) (s : ByteArray) : Option (List Int) := if 0 ≤ lo then (if 0 < s.size then (if lo + (s.size : Int) ≤ (l0.length : Int) then (some (l0.take lo.toNat ++ bytesOf s ++ l0.drop (lo.toNat + s.size))) else (none)) else (none)) else (none)

def encB (s : ByteArray) : List Value := s.data.toList.map fun x => Value.int .u8 (x.toNat : Int)

mutual
def impl_AddPiece.j0 : Nat → List (S44) → Int → Bool → Int → ByteArray → Option ((List (S44)) × Bool)
  | 0, _, _, _, _, _ => none
  | k + 1, x0, x1, x39, x454000, x454001 => if x39 = true then ((impl_Piece.f x0).bind fun t455 => (some (t455, false))) else (if 0 ≤ x1 then (if (x1 : Int).toNat ≤ 281474976710656 then (impl_AddPiece.l0 k x0 (List.replicate (x1 : Int).toNat 0) x0 (x0.length : Int) 0 x454000 x454001) else (none)) else (none))
def impl_AddPiece.l0 : Nat → List (S44) → List Int → List (S44) → Int → Int → Int → ByteArray → Option ((List (S44)) × Bool)
  | 0, _, _, _, _, _, _, _ => none
  | k + 1, x0, x8, x44, x45, x46, x454000, x454001 => if x46 < x45 then (if 0 ≤ x46 then (if x46 < (x44.length : Int) then ((copyAt.f x8 ((rd_T44 x44 x46).f0) ((rd_T44 x44 x46).f1)).bind fun t463 => (impl_AddPiece.l0 k x0 t463 x44 x45 (wrap64 (x46 + 1)) x454000 x454001)) else (none)) else (none)) else (impl_AddPiece.l1 k x0 x8 (x454001.size : Int) 0 x454000 x454001)
def impl_AddPiece.l1 : Nat → List (S44) → List Int → Int → Int → Int → ByteArray → Option ((List (S44)) × Bool)
  | 0, _, _, _, _, _, _ => none
  | k + 1, x0, x8, x60, x61, x454000, x454001 => if x61 < x60 then ((impl_SpansOf.f k x0).bind fun t464 => ((impl_CoversSpan.f t464 (wrap64 (x454000 + x61)) (wrap64 ((wrap64 (x454000 + x61)) + 1))).bind fun t467 => (if t467 = true then (if 0 ≤ (wrap64 (x454000 + x61)) then (if (wrap64 (x454000 + x61)) < (x8.length : Int) then (if 0 ≤ x61 then (if x61 < (x454001.size : Int) then (if (rd x8 (wrap64 (x454000 + x61))) = (bt x454001 x61) then (impl_AddPiece.l1 k x0 (x8.set ((wrap64 (x454000 + x61)) : Int).toNat (bt x454001 x61)) x60 (wrap64 (x61 + 1)) x454000 x454001) else ((impl_Piece.f x0).bind fun t470 => (some (t470, false)))) else (none)) else (none)) else (none)) else (none)) else (if 0 ≤ x61 then (if x61 < (x454001.size : Int) then (if 0 ≤ (wrap64 (x454000 + x61)) then (if (wrap64 (x454000 + x61)) < (x8.length : Int) then (impl_AddPiece.l1 k x0 (x8.set ((wrap64 (x454000 + x61)) : Int).toNat (bt x454001 x61)) x60 (wrap64 (x61 + 1)) x454000 x454001) else (none)) else (none)) else (none)) else (none))))) else ((impl_SpansOf.f k x0).bind fun t477 => ((impl_AddSpan.f k t477 x454000 (wrap64 (x454000 + (x454001.size : Int)))).bind fun t480 => (impl_AddPiece.l2 k x0 x8 (([] : List (S44))) t480 (t480.length : Int) 0)))
def impl_AddPiece.l2 : Nat → List (S44) → List Int → List (S44) → List (S26) → Int → Int → Option ((List (S44)) × Bool)
  | 0, _, _, _, _, _, _ => none
  | k + 1, x0, x8, x13, x108, x109, x110 => if x110 < x109 then (if 0 ≤ x110 then (if x110 < (x108.length : Int) then (if 0 ≤ ((rd_T26 x108 x110).f0) then (if ((rd_T26 x108 x110).f0) ≤ ((rd_T26 x108 x110).f1) then (if ((rd_T26 x108 x110).f1) ≤ (x8.length : Int) then (if x13.length < 5864062014805 then (impl_AddPiece.l2 k x0 x8 (x13 ++ [(⟨(rd_T26 x108 x110).f0, strOfNums ((x8.take (((rd_T26 x108 x110).f1) : Int).toNat).drop (((rd_T26 x108 x110).f0) : Int).toNat)⟩ : S44)]) x108 x109 (wrap64 (x110 + 1))) else (none)) else (none)) else (none)) else (none)) else (none)) else (none)) else (if (x13.length : Int) > 8 then ((impl_Piece.f x0).bind fun t492 => (some (t492, false))) else (some (x13, true)))
end

def impl_AddPiece.f (k : Nat) (l0 : List (S44)) (a1 : Int) (a2_0 : Int) (a2_1 : ByteArray) : Option ((List (S44)) × Bool) := (impl_ArePieces.f k l0 a1).bind fun t454 => (if t454 = true then (if a2_1.toList = ([] : List UInt8) then (impl_AddPiece.j0 k l0 a1 true a2_0 a2_1) else (if a2_0 < 0 then (impl_AddPiece.j0 k l0 a1 true a2_0 a2_1) else (impl_AddPiece.j0 k l0 a1 (decide (a2_0 > (wrap64 (a1 - (a2_1.size : Int))))) a2_0 a2_1))) else (impl_AddPiece.j0 k l0 a1 true a2_0 a2_1))

def laws_eqPiece.f (a0_0 : Int) (a0_1 : ByteArray) (a1_0 : Int) (a1_1 : ByteArray) : Option (Bool) := if a0_0 = a1_0 then (if a0_1.toList = a1_1.toList then (some true) else (some false)) else (some false)

def laws_eqPieceS.l0 : Nat → List (S44) → List (S44) → Int → Option (Bool)
  | 0, _, _, _ => none
  | k + 1, x0, x1, x5 => if x5 < (x0.length : Int) then (if 0 ≤ x5 then (if x5 < (x1.length : Int) then ((laws_eqPiece.f ((rd_T44 x0 x5).f0) ((rd_T44 x0 x5).f1) ((rd_T44 x1 x5).f0) ((rd_T44 x1 x5).f1)).bind fun t499 => (if t499 = true then (laws_eqPieceS.l0 k x0 x1 (wrap64 (x5 + 1))) else (some false))) else (none)) else (none)) else (some true)

def laws_eqPieceS.f (k : Nat) (l0 : List (S44)) (l1 : List (S44)) : Option (Bool) := if (l0.length : Int) = (l1.length : Int) then (laws_eqPieceS.l0 k l0 l1 0) else (some false)

def laws_markText.l0 : Nat → Int → ByteArray → Option (ByteArray)
  | 0, _, _ => none
  | k + 1, x0, x3 => if x0 > 0 then ((some (([(wrap64 (48 + (Int.tmod x0 10))) % 256] : List Int) : List Int)).bind fun y500 => (if (strOfNums y500).size + x3.size ≤ 9223372036854775807 then (laws_markText.l0 k (wrap64 (Int.tdiv x0 10)) ((strOfNums y500) ++ x3)) else (none))) else (if 1 + x3.size ≤ 9223372036854775807 then (some ((⟨#[109]⟩ : ByteArray) ++ x3)) else (none))

def laws_markText.f (k : Nat) (a0 : Int) : Option (ByteArray) := if a0 ≤ 0 then (some (⟨#[109, 48]⟩ : ByteArray)) else (laws_markText.l0 k a0 (⟨#[]⟩ : ByteArray))

def laws_markPieceS.l0 : Nat → List (S44) → Int → Int → Option (Int × (List (S44)))
  | 0, _, _, _ => none
  | k + 1, x0, x1, x5 => if x5 < (x0.length : Int) then (if 0 ≤ x5 then ((some (x0.set (x5 : Int).toNat (⟨x1, (rd_T44 x0 x5).f1⟩ : S44) : List (S44))).bind fun y503 => ((laws_markText.f k (wrap64 (x1 + 1))).bind fun t504 => (laws_markPieceS.l0 k (y503.set (x5 : Int).toNat (⟨(rd_T44 y503 x5).f0, t504⟩ : S44)) (wrap64 ((wrap64 (x1 + 1)) + 1)) (wrap64 (x5 + 1))))) else (none)) else (some (x1, x0))

def laws_markPieceS.f (k : Nat) (l0 : List (S44)) (a1 : Int) : Option (Int × (List (S44))) := laws_markPieceS.l0 k l0 a1 0

def laws_heldPieceS.l0 : Nat → List (S44) → Int → Int → Option (Int)
  | 0, _, _, _ => none
  | k + 1, x0, x1, x5 => if x5 < (x0.length : Int) then (if 0 ≤ x5 then (if ((rd_T44 x0 x5).f0) = x1 then ((laws_markText.f k (wrap64 (x1 + 1))).bind fun t508 => (if ((rd_T44 x0 x5).f1).toList = t508.toList then (laws_heldPieceS.l0 k x0 (wrap64 ((wrap64 (x1 + 1)) + 1)) (wrap64 (x5 + 1))) else (some (-1)))) else (some (-1))) else (none)) else (some x1)

def laws_heldPieceS.f (k : Nat) (l0 : List (S44)) (a1 : Int) : Option (Int) := laws_heldPieceS.l0 k l0 a1 0

mutual
def laws_FnExactAddPiece.j0 : Nat → List (S37) → Int → List (S44) → Bool → List (S44) → List (S44) → Bool → Bool → Int → ByteArray → Option (Bool)
  | 0, _, _, _, _, _, _, _, _, _, _ => none
  | k + 1, x0, x1, x8, x9, x10, x11, x12, x55, x510000, x510001 => if x55 = true then (some false) else ((laws_toPieceS.f k x0).bind fun t531 => ((laws_eqPieceS.f k x10 t531).bind fun t534 => (if t534 = true then ((laws_markPieceS.f k x10 1).bind fun bt535 => (if bt535.1 < 0 then (laws_FnExactAddPiece.j1 k x0 x1 x8 x9 x11 true x510000 x510001) else ((laws_eqPieceS.f k x11 x8).bind fun t537 => (if t537 = true then (laws_FnExactAddPiece.j1 k x0 x1 x8 x9 x11 (x12 != x9) x510000 x510001) else (laws_FnExactAddPiece.j1 k x0 x1 x8 x9 x11 true x510000 x510001))))) else (some false))))
def laws_FnExactAddPiece.j1 : Nat → List (S37) → Int → List (S44) → Bool → List (S44) → Bool → Int → ByteArray → Option (Bool)
  | 0, _, _, _, _, _, _, _, _ => none
  | k + 1, x0, x1, x8, x9, x11, x76, x510000, x510001 => if x76 = true then (some false) else ((laws_markPieceS.f k x11 1).bind fun bt538 => ((laws_heldPieceS.f k bt538.2 1).bind fun t540 => (if t540 < 0 then (some false) else (if t540 = bt538.1 then ((laws_toPieceS.f k x0).bind fun t541 => ((laws_toPiece.f x510000 x510001).bind fun bt544 => ((impl_AddPiece.f k t541 x1 bt544.1 bt544.2).bind fun bt546 => ((laws_eqPieceS.f k bt546.1 x8).bind fun t550 => (if t550 = true then (laws_FnExactAddPiece.j2 k bt538.2 bt538.1 (bt546.2 != x9)) else (laws_FnExactAddPiece.j2 k bt538.2 bt538.1 true)))))) else (some false)))))
def laws_FnExactAddPiece.j2 : Nat → List (S44) → Int → Bool → Option (Bool)
  | 0, _, _, _ => none
  | k + 1, x11, x14, x105 => if x105 = true then (some false) else ((laws_heldPieceS.f k x11 1).bind fun t551 => (if t551 < 0 then (some false) else (if t551 = x14 then (some true) else (some false))))
end

def laws_FnExactAddPiece.f (k : Nat) (l0 : List (S37)) (a1 : Int) (a2_0 : Int) (a2_1 : ByteArray) : Option (Bool) := (laws_szPieceS.f k l0 1048576).bind fun t510 => (if t510 < 0 then (some true) else ((laws_szPiece.f a2_0 a2_1 t510).bind fun t511 => (if t511 < 0 then (some true) else ((laws_toPieceS.f k l0).bind fun t512 => ((laws_toPiece.f a2_0 a2_1).bind fun bt515 => ((spec_AddPiece.f k t512 a1 bt515.1 bt515.2).bind fun bt517 => ((laws_toPieceS.f k l0).bind fun t521 => ((laws_toPiece.f a2_0 a2_1).bind fun bt524 => ((impl_AddPiece.f k t521 a1 bt524.1 bt524.2).bind fun bt526 => ((laws_eqPieceS.f k bt526.1 bt517.1).bind fun t530 => (if t530 = true then (laws_FnExactAddPiece.j0 k l0 a1 bt517.1 bt517.2 t521 bt526.1 bt526.2 (bt526.2 != bt517.2) a2_0 a2_1) else (laws_FnExactAddPiece.j0 k l0 a1 bt517.1 bt517.2 t521 bt526.1 bt526.2 true a2_0 a2_1))))))))))))

def spec_l10Piece.f (s0_0 : List Int) (s0_1 : Int) (s0_2 : Int) : Option (Int × ByteArray × Int × Int) := (spec_l1Below.f s0_0 s0_1 s0_2 20).bind fun bt553 => ((spec_l1Below.f s0_0 bt553.2.1 bt553.2.2 7).bind fun bt556 => ((spec_Min.f 20 (wrap64 ((wrap64 (bt553.1 + 1)) + bt556.1))).bind fun t559 => (if 0 ≤ bt553.1 then (if bt553.1 ≤ t559 then (if t559 ≤ 20 then (some (bt553.1, (⟨#[84, 104, 101, 32, 113, 117, 105, 99, 107, 32, 98, 114, 111, 119, 110, 32, 102, 111, 120, 46]⟩ : ByteArray).extract (bt553.1 : Int).toNat (t559 : Int).toNat, bt556.2.1, bt556.2.2)) else (none)) else (none)) else (none))))

def spec_l10Draw.l0 : Nat → List (S44) → Int → List Int → Int → Int → Option ((List (S44)) × Int × Int)
  | 0, _, _, _, _, _ => none
  | k + 1, x3, x4, x1000, x1001, x1002 => if x4 > 0 then ((spec_l10Piece.f x1000 x1001 x1002).bind fun bt566 => ((spec_AddPiece.f k x3 20 bt566.1 bt566.2.1).bind fun bt570 => (spec_l10Draw.l0 k bt570.1 (wrap64 (x4 - 1)) x1000 bt566.2.2.1 bt566.2.2.2))) else ((spec_l1Once.f x1000 x1001 x1002 9).bind fun bt574 => (if bt574.1 = true then ((spec_l10Piece.f x1000 bt574.2.1 bt574.2.2).bind fun bt577 => (if x3.length < 5864062014805 then (some ((x3 ++ [(⟨bt577.1, bt577.2.1⟩ : S44)]), bt577.2.2.1, bt577.2.2.2)) else (none))) else (some (x3, bt574.2.1, bt574.2.2))))

def spec_l10Draw.f (k : Nat) (s0_0 : List Int) (s0_1 : Int) (s0_2 : Int) : Option ((List (S44)) × Int × Int) := (spec_l1Below.f s0_0 s0_1 s0_2 5).bind fun bt563 => (spec_l10Draw.l0 k (([] : List (S44))) bt563.1 s0_0 bt563.2.1 bt563.2.2)

def spec_DrawAddPiece.f (k : Nat) (l0 : List Int) : Option ((List (S44)) × Int × Int × ByteArray) := (spec_l1New.f k l0).bind fun bt585 => ((spec_l10Draw.f k bt585.1 bt585.2.1 bt585.2.2).bind fun bt589 => ((spec_l10Piece.f bt585.1 bt589.2.1 bt589.2.2).bind fun bt594 => ((spec_l1Below.f bt585.1 bt594.2.2.1 bt594.2.2.2 6).bind fun bt599 => (if bt599.1 = 0 then ((spec_l1Int.f bt585.1 bt599.2.1 bt599.2.2 (([20, 20, 20, 15] : List Int))).bind fun bt605 => (some (bt589.1, bt605.1, bt594.1, (⟨#[122, 122]⟩ : ByteArray)))) else (if bt599.1 = 1 then ((spec_l1Odd.f bt585.1 bt599.2.1 bt599.2.2).bind fun bt608 => ((spec_l1Int.f bt585.1 bt608.2.1 bt608.2.2 (([20, 20, 20, 15] : List Int))).bind fun bt614 => (some (bt589.1, bt614.1, bt608.1, bt594.2.1)))) else ((spec_l1Int.f bt585.1 bt599.2.1 bt599.2.2 (([20, 20, 20, 15] : List Int))).bind fun bt620 => (some (bt589.1, bt620.1, bt594.1, bt594.2.1))))))))

def impl_ReadPieces.l0 : Nat → List (S44) → Int → Int → Int → Int → Option (ByteArray × Bool)
  | 0, _, _, _, _, _ => none
  | k + 1, x13, x14, x15, x624000, x624001 => if x15 < x14 then (if 0 ≤ x15 then (if x15 < (x13.length : Int) then (if ((rd_T44 x13 x15).f0) ≤ x624000 then (if x624001 ≤ (wrap64 (((rd_T44 x13 x15).f0) + (((rd_T44 x13 x15).f1).size : Int))) then (if 0 ≤ (wrap64 (x624000 - ((rd_T44 x13 x15).f0))) then (if (wrap64 (x624000 - ((rd_T44 x13 x15).f0))) ≤ (wrap64 (x624001 - ((rd_T44 x13 x15).f0))) then (if (wrap64 (x624001 - ((rd_T44 x13 x15).f0))) ≤ (((rd_T44 x13 x15).f1).size : Int) then (some (((rd_T44 x13 x15).f1).extract ((wrap64 (x624000 - ((rd_T44 x13 x15).f0))) : Int).toNat ((wrap64 (x624001 - ((rd_T44 x13 x15).f0))) : Int).toNat, true)) else (none)) else (none)) else (none)) else (impl_ReadPieces.l0 k x13 x14 (wrap64 (x15 + 1)) x624000 x624001)) else (impl_ReadPieces.l0 k x13 x14 (wrap64 (x15 + 1)) x624000 x624001)) else (none)) else (none)) else (some ((⟨#[]⟩ : ByteArray), false))

def impl_ReadPieces.f (k : Nat) (l0 : List (S44)) (a1_0 : Int) (a1_1 : Int) : Option (ByteArray × Bool) := if a1_0 ≥ a1_1 then (some ((⟨#[]⟩ : ByteArray), true)) else (impl_ReadPieces.l0 k l0 (l0.length : Int) 0 a1_0 a1_1)

def laws_samePieces.l0 : Nat → List (S44) → List (S44) → Int → Option (Bool)
  | 0, _, _, _ => none
  | k + 1, x0, x1, x5 => if x5 < (x0.length : Int) then (if 0 ≤ x5 then (if x5 < (x1.length : Int) then (if (!(((rd_T44 x0 x5).f0) == ((rd_T44 x1 x5).f0)) || (!((((rd_T44 x0 x5).f1).toList) == (((rd_T44 x1 x5).f1).toList)))) = true then (some false) else (laws_samePieces.l0 k x0 x1 (wrap64 (x5 + 1)))) else (none)) else (none)) else (some true)

def laws_samePieces.f (k : Nat) (l0 : List (S44)) (l1 : List (S44)) : Option (Bool) := if (l0.length : Int) = (l1.length : Int) then (laws_samePieces.l0 k l0 l1 0) else (some false)

def impl_IsWhole.f (k : Nat) (l0 : List (S44)) (a1 : Int) : Option (Bool) := (impl_SpansOf.f k l0).bind fun t628 => ((impl_CoversSpan.f t628 0 a1).bind fun t631 => (some t631))

mutual
def laws_FnPieces.j0 : Nat → List (S44) → Int → List (S44) → Bool → Int → ByteArray → Option (Bool)
  | 0, _, _, _, _, _, _ => none
  | k + 1, x3, x4, x6, x72, x640000, x640001 => if x72 = true then (some false) else (laws_FnPieces.l0 k x3 x4 x6 0 x640000 x640001)
def laws_FnPieces.l0 : Nat → List (S44) → Int → List (S44) → Int → Int → ByteArray → Option (Bool)
  | 0, _, _, _, _, _, _ => none
  | k + 1, x3, x4, x6, x10, x640000, x640001 => if x10 < (x3.length : Int) then (if 0 ≤ x10 then ((impl_ReadPieces.f k x6 ((rd_T44 x3 x10).f0) (wrap64 (((rd_T44 x3 x10).f0) + (((rd_T44 x3 x10).f1).size : Int)))).bind fun bt654 => (if bt654.2 = true then (if bt654.1.toList = ((rd_T44 x3 x10).f1).toList then (laws_FnPieces.l0 k x3 x4 x6 (wrap64 (x10 + 1)) x640000 x640001) else (some false)) else (some false))) else (none)) else ((impl_AddPiece.f k ([] : List (S44)) x4 x640000 x640001).bind fun bt657 => (laws_FnPieces.l1 k x3 x4 x6 bt657.1 bt657.2 0))
def laws_FnPieces.j3 : Nat → Int → List (S44) → List (S44) → Bool → Option (Bool)
  | 0, _, _, _, _ => none
  | k + 1, x4, x6, x13, x14 => if x14 = true then ((laws_samePieces.f k x13 x6).bind fun t666 => (laws_FnPieces.j4 k x4 x6 (!t666))) else (laws_FnPieces.j4 k x4 x6 false)
def laws_FnPieces.j4 : Nat → Int → List (S44) → Bool → Option (Bool)
  | 0, _, _, _ => none
  | k + 1, x4, x6, x144 => if x144 = true then (some false) else ((impl_IsWhole.f k x6 x4).bind fun t667 => ((impl_SpansOf.f k x6).bind fun t668 => ((impl_SpanSize.f k t668).bind fun t671 => (some (t667 == (t671 == x4))))))
def laws_FnPieces.l1 : Nat → List (S44) → Int → List (S44) → List (S44) → Bool → Int → Option (Bool)
  | 0, _, _, _, _, _, _ => none
  | k + 1, x3, x4, x6, x13, x14, x15 => if x15 < (x3.length : Int) then (if x14 = true then (if 0 ≤ x15 then ((impl_AddPiece.f k x13 x4 ((rd_T44 x3 x15).f0) ((rd_T44 x3 x15).f1)).bind fun bt662 => (laws_FnPieces.l1 k x3 x4 x6 bt662.1 bt662.2 (wrap64 (x15 + 1)))) else (none)) else (laws_FnPieces.j3 k x4 x6 x13 x14)) else (laws_FnPieces.j3 k x4 x6 x13 x14)
end

def laws_FnPieces.f (k : Nat) (l0 : List Int) : Option (Bool) := (laws_big.f l0).bind fun t632 => (if t632 = true then (some true) else ((spec_DrawAddPiece.f k l0).bind fun bt633 => ((impl_AddPiece.f k bt633.1 bt633.2.1 bt633.2.2.1 bt633.2.2.2).bind fun bt640 => (if bt640.2 = true then ((impl_ReadPieces.f k bt640.1 bt633.2.2.1 (wrap64 (bt633.2.2.1 + (bt633.2.2.2.size : Int)))).bind fun bt644 => (if bt644.2 = true then (if bt644.1.toList = bt633.2.2.2.toList then ((spec_ArePieces.f k bt640.1 bt633.2.1).bind fun t646 => (if t646 = true then ((impl_SpansOf.f k bt640.1).bind fun t647 => ((impl_SpanSize.f k t647).bind fun t650 => (laws_FnPieces.j0 k bt633.1 bt633.2.1 bt640.1 (decide (t650 > bt633.2.1)) bt633.2.2.1 bt633.2.2.2))) else (laws_FnPieces.j0 k bt633.1 bt633.2.1 bt640.1 true bt633.2.2.1 bt633.2.2.2))) else (laws_FnPieces.j0 k bt633.1 bt633.2.1 bt640.1 true bt633.2.2.1 bt633.2.2.2)) else (laws_FnPieces.j0 k bt633.1 bt633.2.1 bt640.1 true bt633.2.2.1 bt633.2.2.2))) else (some ((bt640.1.length : Int) == (bt633.1.length : Int)))))))

end Go.Proofs.Yteahdfibipalkaa.G

namespace Go.Proofs.Yteahdfibipalkaa.G
open Go.RowKit Go.Proofs.YteahdfibipalkaaW.PrintWords Go.Proofs.YteahdfibipalkaaW.PrintLast Go.Proofs.YteahdfibipalkaaW.PrintMore
attribute [local go_sem] max2_int min2_int max_two min_two max_three min_three max_four min_four   -- for this text's walks alone
set_option linter.unusedVariables false
set_option linter.unusedSimpArgs false



def errW : Option Int → Value
 | none => .nilIface
 | some c => .iface 0 (.int .i64 c)
theorem errW_none : errW none = .nilIface := rfl
theorem errW_some (c : Int) : errW (some c) = .iface 0 (.int .i64 c) := rfl

theorem zB { a b : Prop} (x : a) (h : a → b := by intro  z_; repeat (first | (with_reducible first | exact z_ | apply below_alloc | apply pw_below_drewN | apply below_drew1) | exact z_)) : b := h  x
theorem zB1 {s0 a b : Prop} (y0_ : s0) (x : a) (h : s0 → a → b := by intro y0_ z_; repeat (first | (with_reducible first | exact z_ | apply below_alloc | apply pw_below_drewN | apply below_drew1 | refine below_set ?_ y0_) | exact z_)) : b := h y0_ x
theorem zB2 {s0 s1 a b : Prop} (y0_ : s0) (y1_ : s1) (x : a) (h : s0 → s1 → a → b := by intro y0_ y1_ z_; repeat (first | (with_reducible first | exact z_ | apply below_alloc | apply pw_below_drewN | apply below_drew1 | refine below_set ?_ y0_ | refine below_set ?_ y1_) | exact z_)) : b := h y0_ y1_ x
theorem zB3 {s0 s1 s2 a b : Prop} (y0_ : s0) (y1_ : s1) (y2_ : s2) (x : a) (h : s0 → s1 → s2 → a → b := by intro y0_ y1_ y2_ z_; repeat (first | (with_reducible first | exact z_ | apply below_alloc | apply pw_below_drewN | apply below_drew1 | refine below_set ?_ y0_ | refine below_set ?_ y1_ | refine below_set ?_ y2_) | exact z_)) : b := h y0_ y1_ y2_ x
theorem zB4 {s0 s1 s2 s3 a b : Prop} (y0_ : s0) (y1_ : s1) (y2_ : s2) (y3_ : s3) (x : a) (h : s0 → s1 → s2 → s3 → a → b := by intro y0_ y1_ y2_ y3_ z_; repeat (first | (with_reducible first | exact z_ | apply below_alloc | apply pw_below_drewN | apply below_drew1 | refine below_set ?_ y0_ | refine below_set ?_ y1_ | refine below_set ?_ y2_ | refine below_set ?_ y3_) | exact z_)) : b := h y0_ y1_ y2_ y3_ x
theorem zB5 {s0 s1 s2 s3 s4 a b : Prop} (y0_ : s0) (y1_ : s1) (y2_ : s2) (y3_ : s3) (y4_ : s4) (x : a) (h : s0 → s1 → s2 → s3 → s4 → a → b := by intro y0_ y1_ y2_ y3_ y4_ z_; repeat (first | (with_reducible first | exact z_ | apply below_alloc | apply pw_below_drewN | apply below_drew1 | refine below_set ?_ y0_ | refine below_set ?_ y1_ | refine below_set ?_ y2_ | refine below_set ?_ y3_ | refine below_set ?_ y4_) | exact z_)) : b := h y0_ y1_ y2_ y3_ y4_ x
theorem zP {a b : Prop} (x : a) (h : a → b := by intro z_; (with_reducible repeat (first | refine blk_drewN ?_ _ | refine blk_drew ?_ | refine blk_alloc ?_ _)); exact z_) : b := h x
theorem zR {a b : Prop} (x : a) (h : a → b := by intro z_; (with_reducible repeat (first | apply Kd.R_alloc | apply Kd.R_drewN | apply Kd.R_drew)); exact z_) : b := h x
theorem zRm {α : Type} {d : Kd α} {e : Nat} {w w' : World} {base : Nat} {ok ok' : Nat → Prop} {v : Value} {xs : List α} (x : Kd.R d e w base ok v xs) (hk : ∀ k, ok k → ok' k) (h : Kd.R d e w base ok v xs → Kd.R d e w' base ok v xs := by intro z_; (with_reducible repeat (first | apply Kd.R_alloc | apply Kd.R_drewN | apply Kd.R_drew)); exact z_) : Kd.R d e w' base ok' v xs := Kd.R_mono (h x) hk
theorem zN {a b : Prop} (x : a) (h : a → b := by intro z_; (with_reducible repeat (first | apply Kd.N_alloc | apply Kd.N_drewN | apply Kd.N_drew)); exact z_) : b := h x
theorem zV {a b : Prop} (x : a) (h : a → b := by intro z_; (with_reducible repeat (first | apply Kd.V_alloc | apply Kd.V_drewN | apply Kd.V_drew)); exact z_) : b := h x
theorem zC {a b : Prop} (x : a) (h : a → b := by intro z_; repeat (first | exact z_ | (with_reducible refine Kd.C_alloc ?_ _) | (with_reducible refine Kd.C_drewN ?_ _) | (with_reducible refine Kd.C_drew ?_))) : b := h x
theorem zK {a b : Prop} (x : a) (h : a → b := by intro z_; repeat (first | (with_reducible first | exact z_ | apply Kept.alloc | apply Kept.drewN | apply Kept.drew) | exact z_)) : b := h x
theorem zU {a b : Prop} (x : a) (h : a → b := by intro z_; repeat (first | (with_reducible first | exact z_ | apply KeepBut.set_ | apply keep_drewN | apply keep_drew | apply keep_alloc) | exact z_)) : b := h x
theorem zU1 {s a b : Prop} (y : s) (x : a) (h : s → a → b := by intro y_ z_; repeat (first | (with_reducible first | exact z_ | apply KeepBut.set_ | apply keep_drewN | apply keep_drew | apply keep_alloc | refine keep_far ?_ y_ _) | exact z_)) : b := h y x
theorem zU2 {s t a b : Prop} (y : s) (u : t) (x : a) (h : s → t → a → b := by intro y_ u_ z_; repeat (first | (with_reducible first | exact z_ | apply KeepBut.set_ | apply keep_drewN | apply keep_drew | apply keep_alloc | refine keep_far ?_ y_ _ | refine keep_far ?_ u_ _) | exact z_)) : b := h y u x
theorem zD {p : Prop} [Decidable p] (h : decide p = true := by first | (with_reducible assumption) | assumption) : p := of_decide_eq_true h
theorem zE {p : Prop} (h : p := by first | rfl | (simp [errW_none, errW_some] <;> rfl) | (simp [*, errW_none, errW_some] <;> rfl)) : p := h
theorem zS {p : Prop} (h : p := by first | rfl | (simp; done) | (simp [*]; done)) : p := h
theorem zW {w w' : World} (h : Drawn0 w w' := by repeat (first | exact Drawn0.refl _ | apply Drawn0.step)) : Drawn0 w w' := h
theorem zH {α : Type} {y t : α} {a b : Prop} (e : y = t) (H : a) (h : y = t → a → b := by intro hy_ H_; first | (rw [hy_]; with_reducible exact H_) | (have H2_ := (Option.bind_some _ _).symm.trans H_; rw [hy_]; with_reducible exact H2_) | (have H2_ := (Option.bind_some _ _).symm.trans H_; with_reducible exact H2_) | with_reducible exact H_ | (rw [hy_]; exact H_) | exact H_) : b := h e H
theorem zG {P : Program} {ops : Array Oper} {Q : Exit → Act → World → Prop} {rest : List Oper} {oi : Oper} {a : Act} {w : World} (N : Option Tmp) {f : FuncId} {fn : Func} {xs_ : Array Operand} {ts : Array TypeId} (hf : P.funcs[f]? = some fn) (args : Array Value)
    (h : Calls P f args w fun e w' => ∃ v, e = .returned v ∧ wpList P ops Q rest (a.put N v) w')
    (hN : oi.dst = N := by rfl) (hg : oi.guard = none := by rfl) (h1 : (fn.name == "runtime.NumGoroutine") = false := by kernel_rfl) (h2 : fn.body.isSome = true := by rfl)
    (ho : oi.op = .call { callee := .value (.func f), args := xs_, argTypes := ts } := by rfl)
    (ha : Array.map a.eval xs_ = args := by (try simp only [List.map_toArray, List.map_cons, List.map_nil]); first | done | rfl | (simp only [List.length_drop, List.length_take]; rfl)) : wpList P ops Q (oi :: rest) a w := goesL_ N hN hg hf h1 h2 args ho ha h
def ba : Nat → Nat → List Bool
  | 0, _ => []
  | n + 1, m => (m % 2 == 1) :: ba n (m / 2)
theorem zq {P : Program} {ops : Array Oper} {Q : Exit → Act → World → Prop} {md : Region.Mode} {S : World → Prop} {ds : List Nat} {oi : Oper} {v : Value} {fuel : Nat} {l : Array Bool} {a : Act} {w : World} {T : Bool × List (List Nat × List Nat)} {a' : Act} (i : Nat) (N : Option Tmp) (l' : Array Bool)
    (hT : Aside0 (rtab md ops = T)) (k : wpAnyLast P md ops Q S ds fuel l' a' w) (h1 : ops[i]? = some oi := by rfl) (h2 : oi.dst = N := by rfl) (h3 : anyT T l.toList l'.toList i = true := by kernel_rfl) (h4 : ∀ c a w, Q (.panic c) (a.put oi.dst v) w → Q (.panic c) a w := by exact fun _ _ _ h => h)
    (h5 : Yields P ops oi v a := by refine Or.inl ⟨by rfl, ?_⟩; intro w'; go_simp; with_reducible rfl) (h6 : a.put N v = a' := by simp only [Act.put, List.setIfInBounds_toArray, List.set_cons_zero, List.set_cons_succ, i64_w, i32_w]; rfl) : wpAnyLast P md ops Q S ds (fuel + 1) l a w := pure_ l' h1 h2 (any_of hT.out h3) h4 h5 h6 k
theorem zu {P : Program} {ops : Array Oper} {Q : Exit → Act → World → Prop} {md : Region.Mode} {S : World → Prop} {ds : List Nat} {oi : Oper} {fuel : Nat} {l : Array Bool} {a : Act} {w : World} {T : Bool × List (List Nat × List Nat)} {a' : Act} (i : Nat) (N : Option Tmp) (l' : Array Bool)
    (hT : Aside0 (rtab md ops = T)) (k : wpAnyLast P md ops Q S ds fuel l' a' w) (h1 : ops[i]? = some oi := by rfl) (h2 : oi.dst = N := by rfl) (h3 : anyT T l.toList l'.toList i = true := by kernel_rfl) (h4 : ∀ c a w, Q (.panic c) (a.put oi.dst undef) w → Q (.panic c) a w := by exact fun _ _ _ h => h)
    (h5 : Yields P ops oi undef a := by exact Or.inr ⟨by rfl, rfl⟩) (h6 : a.put N undef = a' := by simp only [Act.put, List.setIfInBounds_toArray, List.set_cons_zero, List.set_cons_succ, i64_w, i32_w]; rfl) : wpAnyLast P md ops Q S ds (fuel + 1) l a w := pure_ l' h1 h2 (any_of hT.out h3) h4 h5 h6 k
theorem zt1 {P : Program} {ops : Array Oper} {Q : Exit → Act → World → Prop} {md : Region.Mode} {S : World → Prop} {ds : List Nat} {oi : Oper} {v : Value} {fuel : Nat} {l : Array Bool} {a : Act} {w : World} {T : Bool × List (List Nat × List Nat)} {B : List Nat} {a' : Act} (i : Nat) (N : Option Tmp) (l' : Array Bool)
    (hT : Aside0 (rtab md ops = T)) (hB : Aside0 (waitsOk T.snd B = true)) (hS : S w) (k : wpAnyLast P md ops Q S ds fuel l' a' w) (h1 : ops[i]? = some oi := by rfl) (h2 : oi.dst = N := by rfl) (h3 : takeW T B ds l.toList l'.toList i = true := by kernel_rfl) (h4 : ∀ c a w, Q (.panic c) (a.put oi.dst v) w → Q (.panic c) a w := by exact fun _ _ _ h => h)
    (h5 : YieldsIf P ops S oi v a := by refine Or.inl ⟨by rfl, ?_⟩; rintro w' s0; go_simp; with_reducible rfl) (h6 : a.put N v = a' := by simp only [Act.put, List.setIfInBounds_toArray, List.set_cons_zero, List.set_cons_succ, i64_w, i32_w]; rfl) : wpAnyLast P md ops Q S ds (fuel + 1) l a w := take_ l' h1 h2 (take_ofW hT.out hB.out h3) h4 h5 hS h6 k
theorem zt2 {P : Program} {ops : Array Oper} {Q : Exit → Act → World → Prop} {md : Region.Mode} {S : World → Prop} {ds : List Nat} {oi : Oper} {v : Value} {fuel : Nat} {l : Array Bool} {a : Act} {w : World} {T : Bool × List (List Nat × List Nat)} {B : List Nat} {a' : Act} (i : Nat) (N : Option Tmp) (l' : Array Bool)
    (hT : Aside0 (rtab md ops = T)) (hB : Aside0 (waitsOk T.snd B = true)) (hS : S w) (k : wpAnyLast P md ops Q S ds fuel l' a' w) (h1 : ops[i]? = some oi := by rfl) (h2 : oi.dst = N := by rfl) (h3 : takeW T B ds l.toList l'.toList i = true := by kernel_rfl) (h4 : ∀ c a w, Q (.panic c) (a.put oi.dst v) w → Q (.panic c) a w := by exact fun _ _ _ h => h)
    (h5 : YieldsIf P ops S oi v a := by refine Or.inl ⟨by rfl, ?_⟩; rintro w' ⟨s0, s1⟩; go_simp; with_reducible rfl) (h6 : a.put N v = a' := by simp only [Act.put, List.setIfInBounds_toArray, List.set_cons_zero, List.set_cons_succ, i64_w, i32_w]; rfl) : wpAnyLast P md ops Q S ds (fuel + 1) l a w := take_ l' h1 h2 (take_ofW hT.out hB.out h3) h4 h5 hS h6 k
theorem zt3 {P : Program} {ops : Array Oper} {Q : Exit → Act → World → Prop} {md : Region.Mode} {S : World → Prop} {ds : List Nat} {oi : Oper} {v : Value} {fuel : Nat} {l : Array Bool} {a : Act} {w : World} {T : Bool × List (List Nat × List Nat)} {B : List Nat} {a' : Act} (i : Nat) (N : Option Tmp) (l' : Array Bool)
    (hT : Aside0 (rtab md ops = T)) (hB : Aside0 (waitsOk T.snd B = true)) (hS : S w) (k : wpAnyLast P md ops Q S ds fuel l' a' w) (h1 : ops[i]? = some oi := by rfl) (h2 : oi.dst = N := by rfl) (h3 : takeW T B ds l.toList l'.toList i = true := by kernel_rfl) (h4 : ∀ c a w, Q (.panic c) (a.put oi.dst v) w → Q (.panic c) a w := by exact fun _ _ _ h => h)
    (h5 : YieldsIf P ops S oi v a := by refine Or.inl ⟨by rfl, ?_⟩; rintro w' ⟨s0, s1, s2⟩; go_simp; with_reducible rfl) (h6 : a.put N v = a' := by simp only [Act.put, List.setIfInBounds_toArray, List.set_cons_zero, List.set_cons_succ, i64_w, i32_w]; rfl) : wpAnyLast P md ops Q S ds (fuel + 1) l a w := take_ l' h1 h2 (take_ofW hT.out hB.out h3) h4 h5 hS h6 k
theorem zt4 {P : Program} {ops : Array Oper} {Q : Exit → Act → World → Prop} {md : Region.Mode} {S : World → Prop} {ds : List Nat} {oi : Oper} {v : Value} {fuel : Nat} {l : Array Bool} {a : Act} {w : World} {T : Bool × List (List Nat × List Nat)} {B : List Nat} {a' : Act} (i : Nat) (N : Option Tmp) (l' : Array Bool)
    (hT : Aside0 (rtab md ops = T)) (hB : Aside0 (waitsOk T.snd B = true)) (hS : S w) (k : wpAnyLast P md ops Q S ds fuel l' a' w) (h1 : ops[i]? = some oi := by rfl) (h2 : oi.dst = N := by rfl) (h3 : takeW T B ds l.toList l'.toList i = true := by kernel_rfl) (h4 : ∀ c a w, Q (.panic c) (a.put oi.dst v) w → Q (.panic c) a w := by exact fun _ _ _ h => h)
    (h5 : YieldsIf P ops S oi v a := by refine Or.inl ⟨by rfl, ?_⟩; rintro w' ⟨s0, s1, s2, s3⟩; go_simp; with_reducible rfl) (h6 : a.put N v = a' := by simp only [Act.put, List.setIfInBounds_toArray, List.set_cons_zero, List.set_cons_succ, i64_w, i32_w]; rfl) : wpAnyLast P md ops Q S ds (fuel + 1) l a w := take_ l' h1 h2 (take_ofW hT.out hB.out h3) h4 h5 hS h6 k
theorem zt5 {P : Program} {ops : Array Oper} {Q : Exit → Act → World → Prop} {md : Region.Mode} {S : World → Prop} {ds : List Nat} {oi : Oper} {v : Value} {fuel : Nat} {l : Array Bool} {a : Act} {w : World} {T : Bool × List (List Nat × List Nat)} {B : List Nat} {a' : Act} (i : Nat) (N : Option Tmp) (l' : Array Bool)
    (hT : Aside0 (rtab md ops = T)) (hB : Aside0 (waitsOk T.snd B = true)) (hS : S w) (k : wpAnyLast P md ops Q S ds fuel l' a' w) (h1 : ops[i]? = some oi := by rfl) (h2 : oi.dst = N := by rfl) (h3 : takeW T B ds l.toList l'.toList i = true := by kernel_rfl) (h4 : ∀ c a w, Q (.panic c) (a.put oi.dst v) w → Q (.panic c) a w := by exact fun _ _ _ h => h)
    (h5 : YieldsIf P ops S oi v a := by refine Or.inl ⟨by rfl, ?_⟩; rintro w' ⟨s0, s1, s2, s3, s4⟩; go_simp; with_reducible rfl) (h6 : a.put N v = a' := by simp only [Act.put, List.setIfInBounds_toArray, List.set_cons_zero, List.set_cons_succ, i64_w, i32_w]; rfl) : wpAnyLast P md ops Q S ds (fuel + 1) l a w := take_ l' h1 h2 (take_ofW hT.out hB.out h3) h4 h5 hS h6 k
theorem zt6 {P : Program} {ops : Array Oper} {Q : Exit → Act → World → Prop} {md : Region.Mode} {S : World → Prop} {ds : List Nat} {oi : Oper} {v : Value} {fuel : Nat} {l : Array Bool} {a : Act} {w : World} {T : Bool × List (List Nat × List Nat)} {B : List Nat} {a' : Act} (i : Nat) (N : Option Tmp) (l' : Array Bool)
    (hT : Aside0 (rtab md ops = T)) (hB : Aside0 (waitsOk T.snd B = true)) (hS : S w) (k : wpAnyLast P md ops Q S ds fuel l' a' w) (h1 : ops[i]? = some oi := by rfl) (h2 : oi.dst = N := by rfl) (h3 : takeW T B ds l.toList l'.toList i = true := by kernel_rfl) (h4 : ∀ c a w, Q (.panic c) (a.put oi.dst v) w → Q (.panic c) a w := by exact fun _ _ _ h => h)
    (h5 : YieldsIf P ops S oi v a := by refine Or.inl ⟨by rfl, ?_⟩; rintro w' ⟨s0, s1, s2, s3, s4, s5⟩; go_simp; with_reducible rfl) (h6 : a.put N v = a' := by simp only [Act.put, List.setIfInBounds_toArray, List.set_cons_zero, List.set_cons_succ, i64_w, i32_w]; rfl) : wpAnyLast P md ops Q S ds (fuel + 1) l a w := take_ l' h1 h2 (take_ofW hT.out hB.out h3) h4 h5 hS h6 k
theorem zt7 {P : Program} {ops : Array Oper} {Q : Exit → Act → World → Prop} {md : Region.Mode} {S : World → Prop} {ds : List Nat} {oi : Oper} {v : Value} {fuel : Nat} {l : Array Bool} {a : Act} {w : World} {T : Bool × List (List Nat × List Nat)} {B : List Nat} {a' : Act} (i : Nat) (N : Option Tmp) (l' : Array Bool)
    (hT : Aside0 (rtab md ops = T)) (hB : Aside0 (waitsOk T.snd B = true)) (hS : S w) (k : wpAnyLast P md ops Q S ds fuel l' a' w) (h1 : ops[i]? = some oi := by rfl) (h2 : oi.dst = N := by rfl) (h3 : takeW T B ds l.toList l'.toList i = true := by kernel_rfl) (h4 : ∀ c a w, Q (.panic c) (a.put oi.dst v) w → Q (.panic c) a w := by exact fun _ _ _ h => h)
    (h5 : YieldsIf P ops S oi v a := by refine Or.inl ⟨by rfl, ?_⟩; rintro w' ⟨s0, s1, s2, s3, s4, s5, s6⟩; go_simp; with_reducible rfl) (h6 : a.put N v = a' := by simp only [Act.put, List.setIfInBounds_toArray, List.set_cons_zero, List.set_cons_succ, i64_w, i32_w]; rfl) : wpAnyLast P md ops Q S ds (fuel + 1) l a w := take_ l' h1 h2 (take_ofW hT.out hB.out h3) h4 h5 hS h6 k
theorem zt8 {P : Program} {ops : Array Oper} {Q : Exit → Act → World → Prop} {md : Region.Mode} {S : World → Prop} {ds : List Nat} {oi : Oper} {v : Value} {fuel : Nat} {l : Array Bool} {a : Act} {w : World} {T : Bool × List (List Nat × List Nat)} {B : List Nat} {a' : Act} (i : Nat) (N : Option Tmp) (l' : Array Bool)
    (hT : Aside0 (rtab md ops = T)) (hB : Aside0 (waitsOk T.snd B = true)) (hS : S w) (k : wpAnyLast P md ops Q S ds fuel l' a' w) (h1 : ops[i]? = some oi := by rfl) (h2 : oi.dst = N := by rfl) (h3 : takeW T B ds l.toList l'.toList i = true := by kernel_rfl) (h4 : ∀ c a w, Q (.panic c) (a.put oi.dst v) w → Q (.panic c) a w := by exact fun _ _ _ h => h)
    (h5 : YieldsIf P ops S oi v a := by refine Or.inl ⟨by rfl, ?_⟩; rintro w' ⟨s0, s1, s2, s3, s4, s5, s6, s7⟩; go_simp; with_reducible rfl) (h6 : a.put N v = a' := by simp only [Act.put, List.setIfInBounds_toArray, List.set_cons_zero, List.set_cons_succ, i64_w, i32_w]; rfl) : wpAnyLast P md ops Q S ds (fuel + 1) l a w := take_ l' h1 h2 (take_ofW hT.out hB.out h3) h4 h5 hS h6 k
theorem zt9 {P : Program} {ops : Array Oper} {Q : Exit → Act → World → Prop} {md : Region.Mode} {S : World → Prop} {ds : List Nat} {oi : Oper} {v : Value} {fuel : Nat} {l : Array Bool} {a : Act} {w : World} {T : Bool × List (List Nat × List Nat)} {B : List Nat} {a' : Act} (i : Nat) (N : Option Tmp) (l' : Array Bool)
    (hT : Aside0 (rtab md ops = T)) (hB : Aside0 (waitsOk T.snd B = true)) (hS : S w) (k : wpAnyLast P md ops Q S ds fuel l' a' w) (h1 : ops[i]? = some oi := by rfl) (h2 : oi.dst = N := by rfl) (h3 : takeW T B ds l.toList l'.toList i = true := by kernel_rfl) (h4 : ∀ c a w, Q (.panic c) (a.put oi.dst v) w → Q (.panic c) a w := by exact fun _ _ _ h => h)
    (h5 : YieldsIf P ops S oi v a := by refine Or.inl ⟨by rfl, ?_⟩; rintro w' ⟨s0, s1, s2, s3, s4, s5, s6, s7, s8⟩; go_simp; with_reducible rfl) (h6 : a.put N v = a' := by simp only [Act.put, List.setIfInBounds_toArray, List.set_cons_zero, List.set_cons_succ, i64_w, i32_w]; rfl) : wpAnyLast P md ops Q S ds (fuel + 1) l a w := take_ l' h1 h2 (take_ofW hT.out hB.out h3) h4 h5 hS h6 k
theorem zt10 {P : Program} {ops : Array Oper} {Q : Exit → Act → World → Prop} {md : Region.Mode} {S : World → Prop} {ds : List Nat} {oi : Oper} {v : Value} {fuel : Nat} {l : Array Bool} {a : Act} {w : World} {T : Bool × List (List Nat × List Nat)} {B : List Nat} {a' : Act} (i : Nat) (N : Option Tmp) (l' : Array Bool)
    (hT : Aside0 (rtab md ops = T)) (hB : Aside0 (waitsOk T.snd B = true)) (hS : S w) (k : wpAnyLast P md ops Q S ds fuel l' a' w) (h1 : ops[i]? = some oi := by rfl) (h2 : oi.dst = N := by rfl) (h3 : takeW T B ds l.toList l'.toList i = true := by kernel_rfl) (h4 : ∀ c a w, Q (.panic c) (a.put oi.dst v) w → Q (.panic c) a w := by exact fun _ _ _ h => h)
    (h5 : YieldsIf P ops S oi v a := by refine Or.inl ⟨by rfl, ?_⟩; rintro w' ⟨s0, s1, s2, s3, s4, s5, s6, s7, s8, s9⟩; go_simp; with_reducible rfl) (h6 : a.put N v = a' := by simp only [Act.put, List.setIfInBounds_toArray, List.set_cons_zero, List.set_cons_succ, i64_w, i32_w]; rfl) : wpAnyLast P md ops Q S ds (fuel + 1) l a w := take_ l' h1 h2 (take_ofW hT.out hB.out h3) h4 h5 hS h6 k
theorem zt11 {P : Program} {ops : Array Oper} {Q : Exit → Act → World → Prop} {md : Region.Mode} {S : World → Prop} {ds : List Nat} {oi : Oper} {v : Value} {fuel : Nat} {l : Array Bool} {a : Act} {w : World} {T : Bool × List (List Nat × List Nat)} {B : List Nat} {a' : Act} (i : Nat) (N : Option Tmp) (l' : Array Bool)
    (hT : Aside0 (rtab md ops = T)) (hB : Aside0 (waitsOk T.snd B = true)) (hS : S w) (k : wpAnyLast P md ops Q S ds fuel l' a' w) (h1 : ops[i]? = some oi := by rfl) (h2 : oi.dst = N := by rfl) (h3 : takeW T B ds l.toList l'.toList i = true := by kernel_rfl) (h4 : ∀ c a w, Q (.panic c) (a.put oi.dst v) w → Q (.panic c) a w := by exact fun _ _ _ h => h)
    (h5 : YieldsIf P ops S oi v a := by refine Or.inl ⟨by rfl, ?_⟩; rintro w' ⟨s0, s1, s2, s3, s4, s5, s6, s7, s8, s9, s10⟩; go_simp; with_reducible rfl) (h6 : a.put N v = a' := by simp only [Act.put, List.setIfInBounds_toArray, List.set_cons_zero, List.set_cons_succ, i64_w, i32_w]; rfl) : wpAnyLast P md ops Q S ds (fuel + 1) l a w := take_ l' h1 h2 (take_ofW hT.out hB.out h3) h4 h5 hS h6 k
theorem zt12 {P : Program} {ops : Array Oper} {Q : Exit → Act → World → Prop} {md : Region.Mode} {S : World → Prop} {ds : List Nat} {oi : Oper} {v : Value} {fuel : Nat} {l : Array Bool} {a : Act} {w : World} {T : Bool × List (List Nat × List Nat)} {B : List Nat} {a' : Act} (i : Nat) (N : Option Tmp) (l' : Array Bool)
    (hT : Aside0 (rtab md ops = T)) (hB : Aside0 (waitsOk T.snd B = true)) (hS : S w) (k : wpAnyLast P md ops Q S ds fuel l' a' w) (h1 : ops[i]? = some oi := by rfl) (h2 : oi.dst = N := by rfl) (h3 : takeW T B ds l.toList l'.toList i = true := by kernel_rfl) (h4 : ∀ c a w, Q (.panic c) (a.put oi.dst v) w → Q (.panic c) a w := by exact fun _ _ _ h => h)
    (h5 : YieldsIf P ops S oi v a := by refine Or.inl ⟨by rfl, ?_⟩; rintro w' ⟨s0, s1, s2, s3, s4, s5, s6, s7, s8, s9, s10, s11⟩; go_simp; with_reducible rfl) (h6 : a.put N v = a' := by simp only [Act.put, List.setIfInBounds_toArray, List.set_cons_zero, List.set_cons_succ, i64_w, i32_w]; rfl) : wpAnyLast P md ops Q S ds (fuel + 1) l a w := take_ l' h1 h2 (take_ofW hT.out hB.out h3) h4 h5 hS h6 k
theorem zM {p : Prop} (h : p) : Aside0 p := ⟨h⟩
theorem zA {p : Prop} (h : Aside0 p) : p := h.out
theorem info3 : (Try.prog.info? 3).map (fun i => (i.zero, i.size, i.bytes)) = some (some (.int .i64 0), 1, 8) := by kernel_rfl
theorem info5 : (Try.prog.info? 5).map (fun i => (i.zero, i.size, i.bytes)) = some (some (.int .u8 0), 1, 1) := by kernel_rfl
theorem info26 : (Try.prog.info? 26).map (fun i => (i.zero, i.size, i.bytes)) = some (some (.agg #[(.int .i64 0), (.int .i64 0)]), 2, 16) := by kernel_rfl
theorem info44 : (Try.prog.info? 44).map (fun i => (i.zero, i.size, i.bytes)) = some (some (.agg #[(.int .i64 0), (.string ⟨#[]⟩)]), 2, 24) := by kernel_rfl
-- the values' own types
/-! #### struct type 26 -/
def k26 : Kd S26 := Kd.iso (Kd.pair (Kd.int .i64) (Kd.int .i64)) (fun x : S26 => (x.f0, x.f1))
theorem k26_open {w : World} {x : S26} {cs : List Value} (h : k26.K w x cs) : cs = [.int .i64 x.f0, .int .i64 x.f1] := by
 obtain ⟨_, _, rfl, rfl, rfl⟩ := h
 exact rfl
theorem k26_openM {w : World} {base : Nat} {ok : Nat → Prop} {x : S26} {cs : List Value} (h : k26.M w base ok x cs) : cs = [.int .i64 x.f0, .int .i64 x.f1] := by
 obtain ⟨_, _, rfl, rfl, rfl⟩ := h
 exact rfl
theorem k26_mk (w : World) (x : S26)  : k26.K w x [.int .i64 x.f0, .int .i64 x.f1] := ⟨[.int .i64 x.f0], [.int .i64 x.f1], rfl, rfl, rfl⟩
theorem k26_mkM (w : World) (base : Nat) (ok : Nat → Prop) (x : S26)  : k26.M w base ok x [.int .i64 x.f0, .int .i64 x.f1] := ⟨[.int .i64 x.f0], [.int .i64 x.f1], rfl, rfl, rfl⟩
theorem at_T26 {w : World} {A : Option Addr} {n : Nat} {xs : List S26} (h : Kd.C k26 w A n xs) (i : Int) (h0 : 0 ≤ i) (h1 : i < n) : ∃ ad , A = some ad ∧ w.cell? (ad.add (i.toNat * 2)) = some (.int .i64 (rd_T26 xs i).f0) ∧ w.cell? ⟨(ad.add (i.toNat * 2)).block, (ad.add (i.toNat * 2)).off + 1, none⟩ = some (.int .i64 (rd_T26 xs i).f1) := by
 obtain ⟨ad, c, e, _, hK, hc0⟩ := Kd.C_get h z26 i h0 h1
 have hc : ∀ j u, c[j]? = some u → w.cell? (ad.add (i.toNat * 2 + j)) = some u := hc0
 obtain rfl := k26_open hK
 exact ⟨ad, e, hc 0 _ rfl, by rw [← add_field _ _ 1 (by omega)]; exact hc 1 _ rfl⟩

/-! #### struct type 37 -/
def k37 : Kd S37 := Kd.iso (Kd.pair (Kd.int .i64) Kd.string) (fun x : S37 => (x.f0, x.f1))
theorem k37_open {w : World} {x : S37} {cs : List Value} (h : k37.K w x cs) : cs = [.int .i64 x.f0, .string x.f1] := by
 obtain ⟨_, _, rfl, rfl, rfl⟩ := h
 exact rfl
theorem k37_openM {w : World} {base : Nat} {ok : Nat → Prop} {x : S37} {cs : List Value} (h : k37.M w base ok x cs) : cs = [.int .i64 x.f0, .string x.f1] := by
 obtain ⟨_, _, rfl, rfl, rfl⟩ := h
 exact rfl
theorem k37_mk (w : World) (x : S37)  : k37.K w x [.int .i64 x.f0, .string x.f1] := ⟨[.int .i64 x.f0], [.string x.f1], rfl, rfl, rfl⟩
theorem k37_mkM (w : World) (base : Nat) (ok : Nat → Prop) (x : S37)  : k37.M w base ok x [.int .i64 x.f0, .string x.f1] := ⟨[.int .i64 x.f0], [.string x.f1], rfl, rfl, rfl⟩
theorem at_T37 {w : World} {A : Option Addr} {n : Nat} {xs : List S37} (h : Kd.C k37 w A n xs) (i : Int) (h0 : 0 ≤ i) (h1 : i < n) : ∃ ad , A = some ad ∧ w.cell? (ad.add (i.toNat * 2)) = some (.int .i64 (rd_T37 xs i).f0) ∧ w.cell? ⟨(ad.add (i.toNat * 2)).block, (ad.add (i.toNat * 2)).off + 1, none⟩ = some (.string (rd_T37 xs i).f1) := by
 obtain ⟨ad, c, e, _, hK, hc0⟩ := Kd.C_get h z37 i h0 h1
 have hc : ∀ j u, c[j]? = some u → w.cell? (ad.add (i.toNat * 2 + j)) = some u := hc0
 obtain rfl := k37_open hK
 exact ⟨ad, e, hc 0 _ rfl, by rw [← add_field _ _ 1 (by omega)]; exact hc 1 _ rfl⟩

/-! #### struct type 44 -/
def k44 : Kd S44 := Kd.iso (Kd.pair (Kd.int .i64) Kd.string) (fun x : S44 => (x.f0, x.f1))
theorem k44_open {w : World} {x : S44} {cs : List Value} (h : k44.K w x cs) : cs = [.int .i64 x.f0, .string x.f1] := by
 obtain ⟨_, _, rfl, rfl, rfl⟩ := h
 exact rfl
theorem k44_openM {w : World} {base : Nat} {ok : Nat → Prop} {x : S44} {cs : List Value} (h : k44.M w base ok x cs) : cs = [.int .i64 x.f0, .string x.f1] := by
 obtain ⟨_, _, rfl, rfl, rfl⟩ := h
 exact rfl
theorem k44_mk (w : World) (x : S44)  : k44.K w x [.int .i64 x.f0, .string x.f1] := ⟨[.int .i64 x.f0], [.string x.f1], rfl, rfl, rfl⟩
theorem k44_mkM (w : World) (base : Nat) (ok : Nat → Prop) (x : S44)  : k44.M w base ok x [.int .i64 x.f0, .string x.f1] := ⟨[.int .i64 x.f0], [.string x.f1], rfl, rfl, rfl⟩
theorem at_T44 {w : World} {A : Option Addr} {n : Nat} {xs : List S44} (h : Kd.C k44 w A n xs) (i : Int) (h0 : 0 ≤ i) (h1 : i < n) : ∃ ad , A = some ad ∧ w.cell? (ad.add (i.toNat * 2)) = some (.int .i64 (rd_T44 xs i).f0) ∧ w.cell? ⟨(ad.add (i.toNat * 2)).block, (ad.add (i.toNat * 2)).off + 1, none⟩ = some (.string (rd_T44 xs i).f1) := by
 obtain ⟨ad, c, e, _, hK, hc0⟩ := Kd.C_get h z44 i h0 h1
 have hc : ∀ j u, c[j]? = some u → w.cell? (ad.add (i.toNat * 2 + j)) = some u := hc0
 obtain rfl := k44_open hK
 exact ⟨ad, e, hc 0 _ rfl, by rw [← add_field _ _ 1 (by omega)]; exact hc 1 _ rfl⟩

end Go.Proofs.Yteahdfibipalkaa.G

namespace Go.Proofs.Yteahdfibipalkaa.G
open Go.RowKit Go.Proofs.YteahdfibipalkaaW.PrintWords Go.Proofs.YteahdfibipalkaaW.PrintLast Go.Proofs.YteahdfibipalkaaW.PrintMore
attribute [local go_sem] max2_int min2_int max_two min_two max_three min_three max_four min_four   -- for this text's walks alone
set_option linter.unusedVariables false
set_option linter.unusedSimpArgs false

/-! ### laws_big: function 6 -/
set_option maxHeartbeats 8000000 in
set_option maxRecDepth 100000 in
theorem laws_big.calls (A0 : Option Addr) (c0 : Nat) (l0 : List Int) (r : Bool) (w : World) (hr0 : Kd.C (Kd.int .u8) w A0 l0.length l0) (hc0 : l0.length ≤ c0) (h : laws_big.f l0 = some r) :
  Calls Try.prog 6 #[.slice A0 l0.length c0] w fun e w' => e = .returned (.bool r) ∧ Drawn0 w w' := by
 have HR0 := zM hr0
 have HC0 := zM hc0
 clear hr0 hc0
 have H : (some (decide ((l0.length : Int) > 1048576))) = some r := h
 clear h
 obtain rfl := Option.some.inj H
 go_enter Try.func6, Try.ntmps6
 go_wp2
 go_ret
 exact ⟨zS, zW⟩

end Go.Proofs.Yteahdfibipalkaa.G

namespace Go.Proofs.Yteahdfibipalkaa.G
open Go.RowKit Go.Proofs.YteahdfibipalkaaW.PrintWords Go.Proofs.YteahdfibipalkaaW.PrintLast Go.Proofs.YteahdfibipalkaaW.PrintMore
attribute [local go_sem] max2_int min2_int max_two min_two max_three min_three max_four min_four   -- for this text's walks alone
set_option linter.unusedVariables false
set_option linter.unusedSimpArgs false

/-! ### impl_SpanSize: function 17 -/
set_option maxHeartbeats 8000000 in
set_option maxRecDepth 100000 in
theorem impl_SpanSize.calls (k : Nat) (A0 : Option Addr) (c0 : Nat) (l0 : List (S26)) (r : Int) (w : World) (hr0 : Kd.C k26 w A0 l0.length l0) (hc0 : l0.length ≤ c0) (h : impl_SpanSize.f k l0 = some r) :
  Calls Try.prog 17 #[.slice A0 l0.length c0] w fun e w' => e = .returned (.int .i64 r) ∧ Below w.heap.size w w' := by
 have hu26 := Try.underlying26
 have HR0 := zM hr0
 have HC0 := zM hc0
 clear hr0 hc0
 have HB := zM (Below.refl w.heap.size w)
 have H : (impl_SpanSize.l0 k 0 l0 (l0.length : Int) 0) = some r := h
 clear h
 have H' := zM H
 clear H
 go_enter Try.func17, Try.ntmps17
 go_wp2
 go_loopg [3, 8] k (fun kq v3 v8 w' => ∃ (x3_1 : Int) (x8_1 : Int), v3 = .int .i64 x3_1 ∧ v8 = .int .i64 x8_1 ∧ Aside0 (impl_SpanSize.l0 kq x3_1 l0 (l0.length : Int) x8_1 = some r) ∧ Aside0 (kq ≤ k) ∧ Aside0 (Below w.heap.size w w'))
 case atStart => exact ⟨(0), (0), zS, zS, H', ⟨Nat.le_refl _⟩, ⟨(zB HB.out)⟩⟩
 case round =>
  clear H'
  try clear c1
  obtain ⟨x3_1, x8_1, rfl, rfl, HA, HK1, HB⟩ := hrel
  cases gk with
  | zero => exact absurd HA.out (by simp [impl_SpanSize.l0])
  | succ k1 =>
   have H := HA.out
   clear HA
   simp only [impl_SpanSize.l0] at H
   by_cases c2 : x8_1 < (l0.length : Int)
   ·rw [if_pos c2] at H
    have c2b0 : decide (x8_1 < (l0.length : Int)) = true := decide_eq_true c2
    clear c2
    by_cases c3 : 0 ≤ x8_1
    ·rw [if_pos c3] at H
     have c3b0 : decide (0 ≤ x8_1) = true := decide_eq_true c3
     clear c3
     by_cases c4 : x8_1 < (l0.length : Int)
     ·rw [if_pos c4] at H
      have c4b0 : decide (x8_1 < (l0.length : Int)) = true := decide_eq_true c4
      clear c4
      have H' := zM H
      clear H
      have p320 : 0 ≤ (x8_1 : Int) := zD
      have q320 : x8_1 < (l0.length : Int) := zD
      obtain ⟨ad320, e320, hx320_0, hx320_1⟩ := at_T26 HR0.out x8_1 p320 q320
      cases e320
      replace hx320_0 := (HB.out.cell (World.block_lt_of_cell? w _ hx320_0)).trans hx320_0
      replace hx320_1 := (HB.out.cell (World.block_lt_of_cell? w _ hx320_1)).trans hx320_1
      replace p320 := eq_true p320
      replace q320 := eq_true q320
      go_wp2_with (first | ((with_reducible refine gate_dst (N := 5) rfl ?_); refine box_event ?hg (N := 5) ?hd (cs := #[.int .i64 0, .int .i64 0]) (t := 26) ?hr ?_; (case hd => rfl); (case hg => rfl); (case hr => first | (go_simp; done) | (go_simp; rfl)); intro gb321 hg w5 hbox hb; have n0_ := zM (below_step (zB HB.out) hb); have n1_ := zM (hbox); have n2_ := zM ((by rw [hg]; exact (below_size (zB HB.out)) : w.heap.size ≤ gb321)); have n3_ := zM ((by rw [hg]; exact (below_size (zB HB.out)) : w.heap.size ≤ gb321)); clear HB; have HB := n0_; have BK321 := n1_; have GW321 := n2_; have GE321 := n3_; clear n0_ n1_ n2_ n3_; clear hb hbox hg; have hcz6_0 : w5.cell? ⟨gb321, 0, none⟩ = some (.int .i64 0) := (blk_cell BK321.out 0).trans rfl; have hcz6_1 : w5.cell? ⟨gb321, 1, none⟩ = some (.int .i64 0) := (blk_cell BK321.out 1).trans rfl; have hfz6_0 := blk_frozen BK321.out 0; have hfz6_1 := blk_frozen BK321.out 1))
      go_roundg k1
      case measure => have := HK1.out; omega
      case rel => exact ⟨(wrap64 (x3_1 + (wrap64 (((rd_T26 l0 x8_1).f1) - ((rd_T26 l0 x8_1).f0))))), (wrap64 (x8_1 + 1)), zS, zS, H', ⟨by have := HK1.out; omega⟩, ⟨(zB1 GE321.out HB.out)⟩⟩
     ·rw [if_neg c4] at H
      exact absurd H (by simp)
    ·rw [if_neg c3] at H
     exact absurd H (by simp)
   ·rw [if_neg c2] at H
    have c2b0 : decide (x8_1 < (l0.length : Int)) = false := decide_eq_false c2
    clear c2
    obtain rfl := Option.some.inj H
    go_wp2
    go_ret
    exact ⟨zE, (zB HB.out)⟩

end Go.Proofs.Yteahdfibipalkaa.G

namespace Go.Proofs.Yteahdfibipalkaa.G
open Go.RowKit Go.Proofs.YteahdfibipalkaaW.PrintWords Go.Proofs.YteahdfibipalkaaW.PrintLast Go.Proofs.YteahdfibipalkaaW.PrintMore
attribute [local go_sem] max2_int min2_int max_two min_two max_three min_three max_four min_four   -- for this text's walks alone
set_option linter.unusedVariables false
set_option linter.unusedSimpArgs false

/-! ### spec_IsSpanSet: function 11 -/
set_option maxHeartbeats 8000000 in
set_option maxRecDepth 100000 in
theorem spec_IsSpanSet.calls (k : Nat) (A0 : Option Addr) (c0 : Nat) (l0 : List (S26)) (r : Bool) (w : World) (hr0 : Kd.C k26 w A0 l0.length l0) (hc0 : l0.length ≤ c0) (h : spec_IsSpanSet.f k l0 = some r) :
  Calls Try.prog 11 #[.slice A0 l0.length c0] w fun e w' => e = .returned (.bool r) ∧ Drawn0 w w' := by
 have HR0 := zM hr0
 have HC0 := zM hc0
 clear hr0 hc0
 have H : (spec_IsSpanSet.l0 k l0 0) = some r := h
 clear h
 have H' := zM H
 clear H
 go_enter Try.func11, Try.ntmps11
 go_wp2
 repeat (go_quiet (fail); try go_wp2)
 go_loopg [3] k (fun kq v3 w' => ∃ (x3_1 : Int), v3 = .int .i64 x3_1 ∧ Aside0 (spec_IsSpanSet.l0 kq l0 x3_1 = some r) ∧ Aside0 (kq ≤ k) ∧ Drawn0 w w')
 case atStart => exact ⟨(0), zS, H', ⟨Nat.le_refl _⟩, zW⟩
 case round =>
  clear H'
  try clear c1
  obtain ⟨x3_1, rfl, HA, HK1, ⟨m1, rfl⟩⟩ := hrel
  cases gk with
  | zero => exact absurd HA.out (by simp [spec_IsSpanSet.l0])
  | succ k1 =>
   have H := HA.out
   clear HA
   simp only [spec_IsSpanSet.l0] at H
   by_cases c2 : x3_1 < (l0.length : Int)
   ·rw [if_pos c2] at H
    have c2b0 : decide (x3_1 < (l0.length : Int)) = true := decide_eq_true c2
    clear c2
    by_cases c3 : 0 ≤ x3_1
    ·rw [if_pos c3] at H
     have c3b0 : decide (0 ≤ x3_1) = true := decide_eq_true c3
     clear c3
     by_cases c4 : ((rd_T26 l0 x3_1).f0) < 0
     ·rw [if_pos c4] at H
      have c4b0 : decide (((rd_T26 l0 x3_1).f0) < 0) = true := decide_eq_true c4
      clear c4
      obtain rfl := Option.some.inj H
      have p127 : 0 ≤ (x3_1 : Int) := zD
      have q127 : x3_1 < (l0.length : Int) := zD
      obtain ⟨ad127, e127, hx127_0, hx127_1⟩ := at_T26 HR0.out x3_1 p127 q127
      cases e127
      replace p127 := eq_true p127
      replace q127 := eq_true q127
      go_wp2
      repeat (go_quiet (fail); try go_wp2)
      go_ret
      exact ⟨zS, zW⟩
     ·rw [if_neg c4] at H
      have c4b0 : decide (((rd_T26 l0 x3_1).f0) < 0) = false := decide_eq_false c4
      clear c4
      by_cases c5 : ((rd_T26 l0 x3_1).f0) ≥ ((rd_T26 l0 x3_1).f1)
      ·rw [if_pos c5] at H
       have c5b0 : decide (((rd_T26 l0 x3_1).f1) ≤ ((rd_T26 l0 x3_1).f0)) = true := decide_eq_true c5
       clear c5
       obtain rfl := Option.some.inj H
       have p127 : 0 ≤ (x3_1 : Int) := zD
       have q127 : x3_1 < (l0.length : Int) := zD
       obtain ⟨ad127, e127, hx127_0, hx127_1⟩ := at_T26 HR0.out x3_1 p127 q127
       cases e127
       replace p127 := eq_true p127
       replace q127 := eq_true q127
       have p128 : 0 ≤ (x3_1 : Int) := zD
       have q128 : x3_1 < (l0.length : Int) := zD
       obtain ⟨ad128, e128, hx128_0, hx128_1⟩ := at_T26 HR0.out x3_1 p128 q128
       obtain rfl : ad127 = ad128 := (by injection e128)
       replace p128 := eq_true p128
       replace q128 := eq_true q128
       have p129 : 0 ≤ (x3_1 : Int) := zD
       have q129 : x3_1 < (l0.length : Int) := zD
       obtain ⟨ad129, e129, hx129_0, hx129_1⟩ := at_T26 HR0.out x3_1 p129 q129
       obtain rfl : ad127 = ad129 := (by injection e129)
       replace p129 := eq_true p129
       replace q129 := eq_true q129
       go_wp2
       repeat (go_quiet (fail); try go_wp2)
       go_ret
       exact ⟨zS, zW⟩
      ·rw [if_neg c5] at H
       have c5b0 : decide (((rd_T26 l0 x3_1).f1) ≤ ((rd_T26 l0 x3_1).f0)) = false := decide_eq_false c5
       clear c5
       by_cases c6 : ((rd_T26 l0 x3_1).f1) > 1000000000000
       ·rw [if_pos c6] at H
        have c6b0 : decide (1000000000000 < ((rd_T26 l0 x3_1).f1)) = true := decide_eq_true c6
        clear c6
        obtain rfl := Option.some.inj H
        have p127 : 0 ≤ (x3_1 : Int) := zD
        have q127 : x3_1 < (l0.length : Int) := zD
        obtain ⟨ad127, e127, hx127_0, hx127_1⟩ := at_T26 HR0.out x3_1 p127 q127
        cases e127
        replace p127 := eq_true p127
        replace q127 := eq_true q127
        have p128 : 0 ≤ (x3_1 : Int) := zD
        have q128 : x3_1 < (l0.length : Int) := zD
        obtain ⟨ad128, e128, hx128_0, hx128_1⟩ := at_T26 HR0.out x3_1 p128 q128
        obtain rfl : ad127 = ad128 := (by injection e128)
        replace p128 := eq_true p128
        replace q128 := eq_true q128
        have p129 : 0 ≤ (x3_1 : Int) := zD
        have q129 : x3_1 < (l0.length : Int) := zD
        obtain ⟨ad129, e129, hx129_0, hx129_1⟩ := at_T26 HR0.out x3_1 p129 q129
        obtain rfl : ad127 = ad129 := (by injection e129)
        replace p129 := eq_true p129
        replace q129 := eq_true q129
        have p130 : 0 ≤ (x3_1 : Int) := zD
        have q130 : x3_1 < (l0.length : Int) := zD
        obtain ⟨ad130, e130, hx130_0, hx130_1⟩ := at_T26 HR0.out x3_1 p130 q130
        obtain rfl : ad127 = ad130 := (by injection e130)
        replace p130 := eq_true p130
        replace q130 := eq_true q130
        go_wp2
        repeat (go_quiet (fail); try go_wp2)
        go_ret
        exact ⟨zS, zW⟩
       ·rw [if_neg c6] at H
        have c6b0 : decide (1000000000000 < ((rd_T26 l0 x3_1).f1)) = false := decide_eq_false c6
        clear c6
        by_cases c7 : x3_1 > 0
        ·rw [if_pos c7] at H
         have c7b0 : decide (0 < x3_1) = true := decide_eq_true c7
         clear c7
         obtain ⟨ji8, hji8⟩ : ∃ j_ : Int, (wrap64 (x3_1 - 1)) = j_ := ⟨_, rfl⟩
         replace H : (if 0 ≤ (ji8) then (if (ji8) < (l0.length : Int) then (if ((rd_T26 l0 (ji8)).f1) ≥ ((rd_T26 l0 x3_1).f0) then (some false) else (spec_IsSpanSet.l0 k1 l0 (wrap64 (x3_1 + 1)))) else (none)) else (none)) = some r := by first | (rw [hji8] at H; exact H) | (simp only [hji8] at H ⊢; exact H)
         have hji8w : (IntKind.i64.wrap (x3_1 - 1)) = ji8 := (i64_w _).trans hji8
         by_cases c9 : 0 ≤ (ji8)
         ·rw [if_pos c9] at H
          have c9b0 : decide (0 ≤ (ji8)) = true := decide_eq_true c9
          clear c9
          by_cases c10 : (ji8) < (l0.length : Int)
          ·rw [if_pos c10] at H
           have c10b0 : decide ((ji8) < (l0.length : Int)) = true := decide_eq_true c10
           clear c10
           by_cases c11 : ((rd_T26 l0 (ji8)).f1) ≥ ((rd_T26 l0 x3_1).f0)
           ·rw [if_pos c11] at H
            have c11b0 : decide (((rd_T26 l0 x3_1).f0) ≤ ((rd_T26 l0 (ji8)).f1)) = true := decide_eq_true c11
            clear c11
            obtain rfl := Option.some.inj H
            have p127 : 0 ≤ (x3_1 : Int) := zD
            have q127 : x3_1 < (l0.length : Int) := zD
            obtain ⟨ad127, e127, hx127_0, hx127_1⟩ := at_T26 HR0.out x3_1 p127 q127
            cases e127
            replace p127 := eq_true p127
            replace q127 := eq_true q127
            have p128 : 0 ≤ (x3_1 : Int) := zD
            have q128 : x3_1 < (l0.length : Int) := zD
            obtain ⟨ad128, e128, hx128_0, hx128_1⟩ := at_T26 HR0.out x3_1 p128 q128
            obtain rfl : ad127 = ad128 := (by injection e128)
            replace p128 := eq_true p128
            replace q128 := eq_true q128
            have p129 : 0 ≤ (x3_1 : Int) := zD
            have q129 : x3_1 < (l0.length : Int) := zD
            obtain ⟨ad129, e129, hx129_0, hx129_1⟩ := at_T26 HR0.out x3_1 p129 q129
            obtain rfl : ad127 = ad129 := (by injection e129)
            replace p129 := eq_true p129
            replace q129 := eq_true q129
            have p130 : 0 ≤ (x3_1 : Int) := zD
            have q130 : x3_1 < (l0.length : Int) := zD
            obtain ⟨ad130, e130, hx130_0, hx130_1⟩ := at_T26 HR0.out x3_1 p130 q130
            obtain rfl : ad127 = ad130 := (by injection e130)
            replace p130 := eq_true p130
            replace q130 := eq_true q130
            have p131 : 0 ≤ ((ji8) : Int) := zD
            have q131 : (ji8) < (l0.length : Int) := zD
            obtain ⟨ad131, e131, hx131_0, hx131_1⟩ := at_T26 HR0.out (ji8) p131 q131
            obtain rfl : ad127 = ad131 := (by injection e131)
            replace p131 := eq_true p131
            replace q131 := eq_true q131
            have p132 : 0 ≤ (x3_1 : Int) := zD
            have q132 : x3_1 < (l0.length : Int) := zD
            obtain ⟨ad132, e132, hx132_0, hx132_1⟩ := at_T26 HR0.out x3_1 p132 q132
            obtain rfl : ad127 = ad132 := (by injection e132)
            replace p132 := eq_true p132
            replace q132 := eq_true q132
            go_wp2
            repeat (go_quiet (fail); try go_wp2)
            go_ret
            exact ⟨by first | rfl | (simp; done) | (simp only [← hji8] <;> (first | rfl | simp)) | (simp [*]; done), zW⟩
           ·rw [if_neg c11] at H
            have c11b0 : decide (((rd_T26 l0 x3_1).f0) ≤ ((rd_T26 l0 (ji8)).f1)) = false := decide_eq_false c11
            clear c11
            have H' := zM H
            clear H
            have p127 : 0 ≤ (x3_1 : Int) := zD
            have q127 : x3_1 < (l0.length : Int) := zD
            obtain ⟨ad127, e127, hx127_0, hx127_1⟩ := at_T26 HR0.out x3_1 p127 q127
            cases e127
            replace p127 := eq_true p127
            replace q127 := eq_true q127
            have p128 : 0 ≤ (x3_1 : Int) := zD
            have q128 : x3_1 < (l0.length : Int) := zD
            obtain ⟨ad128, e128, hx128_0, hx128_1⟩ := at_T26 HR0.out x3_1 p128 q128
            obtain rfl : ad127 = ad128 := (by injection e128)
            replace p128 := eq_true p128
            replace q128 := eq_true q128
            have p129 : 0 ≤ (x3_1 : Int) := zD
            have q129 : x3_1 < (l0.length : Int) := zD
            obtain ⟨ad129, e129, hx129_0, hx129_1⟩ := at_T26 HR0.out x3_1 p129 q129
            obtain rfl : ad127 = ad129 := (by injection e129)
            replace p129 := eq_true p129
            replace q129 := eq_true q129
            have p130 : 0 ≤ (x3_1 : Int) := zD
            have q130 : x3_1 < (l0.length : Int) := zD
            obtain ⟨ad130, e130, hx130_0, hx130_1⟩ := at_T26 HR0.out x3_1 p130 q130
            obtain rfl : ad127 = ad130 := (by injection e130)
            replace p130 := eq_true p130
            replace q130 := eq_true q130
            have p131 : 0 ≤ ((ji8) : Int) := zD
            have q131 : (ji8) < (l0.length : Int) := zD
            obtain ⟨ad131, e131, hx131_0, hx131_1⟩ := at_T26 HR0.out (ji8) p131 q131
            obtain rfl : ad127 = ad131 := (by injection e131)
            replace p131 := eq_true p131
            replace q131 := eq_true q131
            have p132 : 0 ≤ (x3_1 : Int) := zD
            have q132 : x3_1 < (l0.length : Int) := zD
            obtain ⟨ad132, e132, hx132_0, hx132_1⟩ := at_T26 HR0.out x3_1 p132 q132
            obtain rfl : ad127 = ad132 := (by injection e132)
            replace p132 := eq_true p132
            replace q132 := eq_true q132
            go_wp2
            repeat (go_quiet (fail); try go_wp2)
            go_roundg k1
            case measure => have := HK1.out; omega
            case rel => exact ⟨(wrap64 (x3_1 + 1)), zS, H', ⟨by have := HK1.out; omega⟩, zW⟩
          ·rw [if_neg c10] at H
           exact absurd H (by simp)
         ·rw [if_neg c9] at H
          exact absurd H (by simp)
        ·rw [if_neg c7] at H
         have c7b0 : decide (0 < x3_1) = false := decide_eq_false c7
         clear c7
         have H' := zM H
         clear H
         have p127 : 0 ≤ (x3_1 : Int) := zD
         have q127 : x3_1 < (l0.length : Int) := zD
         obtain ⟨ad127, e127, hx127_0, hx127_1⟩ := at_T26 HR0.out x3_1 p127 q127
         cases e127
         replace p127 := eq_true p127
         replace q127 := eq_true q127
         have p128 : 0 ≤ (x3_1 : Int) := zD
         have q128 : x3_1 < (l0.length : Int) := zD
         obtain ⟨ad128, e128, hx128_0, hx128_1⟩ := at_T26 HR0.out x3_1 p128 q128
         obtain rfl : ad127 = ad128 := (by injection e128)
         replace p128 := eq_true p128
         replace q128 := eq_true q128
         have p129 : 0 ≤ (x3_1 : Int) := zD
         have q129 : x3_1 < (l0.length : Int) := zD
         obtain ⟨ad129, e129, hx129_0, hx129_1⟩ := at_T26 HR0.out x3_1 p129 q129
         obtain rfl : ad127 = ad129 := (by injection e129)
         replace p129 := eq_true p129
         replace q129 := eq_true q129
         have p130 : 0 ≤ (x3_1 : Int) := zD
         have q130 : x3_1 < (l0.length : Int) := zD
         obtain ⟨ad130, e130, hx130_0, hx130_1⟩ := at_T26 HR0.out x3_1 p130 q130
         obtain rfl : ad127 = ad130 := (by injection e130)
         replace p130 := eq_true p130
         replace q130 := eq_true q130
         go_wp2
         repeat (go_quiet (fail); try go_wp2)
         go_roundg k1
         case measure => have := HK1.out; omega
         case rel => exact ⟨(wrap64 (x3_1 + 1)), zS, H', ⟨by have := HK1.out; omega⟩, zW⟩
    ·rw [if_neg c3] at H
     exact absurd H (by simp)
   ·rw [if_neg c2] at H
    have c2b0 : decide (x3_1 < (l0.length : Int)) = false := decide_eq_false c2
    clear c2
    obtain rfl := Option.some.inj H
    go_wp2
    repeat (go_quiet (fail); try go_wp2)
    go_ret
    exact ⟨zS, zW⟩

end Go.Proofs.Yteahdfibipalkaa.G

namespace Go.Proofs.Yteahdfibipalkaa.G
open Go.RowKit Go.Proofs.YteahdfibipalkaaW.PrintWords Go.Proofs.YteahdfibipalkaaW.PrintLast Go.Proofs.YteahdfibipalkaaW.PrintMore
attribute [local go_sem] max2_int min2_int max_two min_two max_three min_three max_four min_four   -- for this text's walks alone
set_option linter.unusedVariables false
set_option linter.unusedSimpArgs false

/-! ### spec_SpansOf: function 44 -/
def spec_SpansOf.T5 : Bool × List (List Nat × List Nat) := (true, [([], []), ([], []), ([], []), ([1, 2], [1, 2]), ([3], [3]), ([4], [4]), ([], []), ([], []), ([6, 7], [6, 7]), ([8], [8]), ([9], [9]), ([], []), ([], []), ([11, 12], [11, 12]), ([13], [13]), ([14], [14]), ([15], [15]), ([10, 16], [10, 16]), ([5, 17], [5, 17]), ([18], [18]), ([0, 19], [0, 19]), ([20, 20, 0, 1, 2, 3, 4, 5, 6, 7, 8, 9, 10, 11, 12, 13, 14, 15, 16, 17, 18, 19, 20], [0, 20])])
def spec_SpansOf.B5 : List Nat := [0, 0, 0, 6, 14, 30, 0, 0, 192, 448, 960, 0, 0, 6144, 14336, 30720, 63488, 131008, 262142, 524286, 1048575, 2097151]
theorem spec_SpansOf.tab5 : rtab .any (opsOf Try.f44 5) = spec_SpansOf.T5 := by kernel_rfl
theorem spec_SpansOf.bits5 : waitsOk spec_SpansOf.T5.2 spec_SpansOf.B5 = true := by kernel_rfl
set_option maxHeartbeats 8000000 in
set_option maxRecDepth 100000 in
theorem spec_SpansOf.calls (k : Nat) (A0 : Option Addr) (c0 : Nat) (l0 : List (S44)) (r : List (S26)) (w : World) (hr0 : Kd.C k44 w A0 l0.length l0) (hc0 : l0.length ≤ c0) (h : spec_SpansOf.f k l0 = some r) :
  Calls Try.prog 44 #[.slice A0 l0.length c0] w fun e w' => ∃ v0_ : Value, e = .returned (v0_) ∧ Kd.R k26 26 w' w.heap.size (fun _ => True) v0_ r ∧ Below w.heap.size w w' := by
 have hu26 := Try.underlying26
 have HR0 := zM hr0
 have HC0 := zM hc0
 clear hr0 hc0
 have HB := zM (Below.refl w.heap.size w)
 have H : (spec_SpansOf.l0 k l0 (([] : List (S26))) 0) = some r := h
 clear h
 obtain ⟨y369, hy369⟩ : ∃ y_ : List (S26), y_ = (([] : List (S26))) := ⟨_, rfl⟩
 replace H : (spec_SpansOf.l0 k l0 y369 0) = some r := zH hy369 H
 have Ny369 := zM hy369
 clear hy369
 have H' := zM H
 clear H
 go_enter Try.func44, Try.ntmps44
 go_wp2_with (first | ((with_reducible refine gate_dst (N := 5) rfl ?_); refine Kd.R_lit k26 _ 26 ?hg (N := 5) ?hd (xs := ([] : List (S26))) (inner := []) (ok := fun _ => True) (okp := fun _ => True) ?hr ?hp (fun _ hk => hk) trivial (Below.refl _ _) (Nat.le_refl _) (by simp) ?_; (case hd => rfl); (case hg => rfl); (case hr => first | (go_simp; done) | (go_simp; rfl)); (case hp => exact (Reps.none _ _)); intro v370 w2 ho3 hb hg_ hnew_; clear hg_ hnew_; (first | rw [← Ny369.out] at ho3 | (simp only [Int.reduceToNat] at ho3; rw [← Ny369.out] at ho3)); have n0_ := zM (Kd.R_lower ho3 (below_size (zB HB.out))); have n1_ := zM (below_step (zB HB.out) hb); clear HB; have HO371 := n0_; have HB := n1_; clear n0_ n1_; clear hb ho3))
 go_loopg [3, 4] k (fun kq v3 v4 w' => ∃ (x3_1 : List (S26)) (x4_1 : Int), v4 = .int .i64 x4_1 ∧ Aside0 (spec_SpansOf.l0 kq l0 x3_1 x4_1 = some r) ∧ Aside0 (kq ≤ k) ∧ Aside0 (Kd.R k26 26 w' w.heap.size (fun _ => True) v3 x3_1) ∧ Aside0 (Below w.heap.size w w'))
 case atStart => exact ⟨(y369), (0), zS, H', ⟨Nat.le_refl _⟩, ⟨(zR HO371.out)⟩, ⟨(zB HB.out)⟩⟩
 case round =>
  clear H'
  try clear p2
  obtain ⟨x3_1, x4_1, rfl, HA, HK1, HO_3, HB⟩ := hrel
  cases gk with
  | zero => exact absurd HA.out (by simp [spec_SpansOf.l0])
  | succ k1 =>
   have H := HA.out
   clear HA
   simp only [spec_SpansOf.l0] at H
   by_cases c4 : x4_1 < (l0.length : Int)
   ·rw [if_pos c4] at H
    have c4b0 : decide (x4_1 < (l0.length : Int)) = true := decide_eq_true c4
    clear c4
    by_cases c5 : 0 ≤ x4_1
    ·rw [if_pos c5] at H
     have c5b0 : decide (0 ≤ x4_1) = true := decide_eq_true c5
     clear c5
     by_cases c6 : x3_1.length < 8796093022208
     ·rw [if_pos c6] at H
      have LMc6 := zM c6
      clear c6
      obtain ⟨y375, hy375⟩ : ∃ y_ : List (S26), y_ = (x3_1 ++ [(⟨(rd_T44 l0 x4_1).f0, wrap64 (((rd_T44 l0 x4_1).f0) + (((rd_T44 l0 x4_1).f1).size : Int))⟩ : S26)]) := ⟨_, rfl⟩
      replace H : (spec_SpansOf.l0 k1 l0 y375 (wrap64 (x4_1 + 1))) = some r := zH hy375 H
      have Ny375 := zM hy375
      clear hy375
      have H' := zM H
      clear H
      try go_wp2
      have n0_ := zM (Kd.R_drew HO_3.out)
      have n1_ := zM (below_drew1 HB.out)
      clear HO_3
      clear HB
      have HO_3 := n0_
      have HB := n1_
      clear n0_ n1_
      have p372 : 0 ≤ (x4_1 : Int) := zD
      have q372 : x4_1 < (l0.length : Int) := zD
      obtain ⟨ad372, e372, hx372_0, hx372_1⟩ := at_T44 HR0.out x4_1 p372 q372
      have hw372_1 := hx372_1
      have hw372_0 := hx372_0
      cases e372
      replace hx372_0 := (HB.out.cell (World.block_lt_of_cell? w _ hx372_0)).trans hx372_0
      replace hx372_1 := (HB.out.cell (World.block_lt_of_cell? w _ hx372_1)).trans hx372_1
      replace p372 := eq_true p372
      replace q372 := eq_true q372
      have p373 : 0 ≤ (x4_1 : Int) := zD
      have q373 : x4_1 < (l0.length : Int) := zD
      obtain ⟨ad373, e373, hx373_0, hx373_1⟩ := at_T44 HR0.out x4_1 p373 q373
      have hw373_1 := hx373_1
      have hw373_0 := hx373_0
      obtain rfl : ad372 = ad373 := (by injection e373)
      replace hx373_0 := (HB.out.cell (World.block_lt_of_cell? w _ hx373_0)).trans hx373_0
      replace hx373_1 := (HB.out.cell (World.block_lt_of_cell? w _ hx373_1)).trans hx373_1
      replace p373 := eq_true p373
      replace q373 := eq_true q373
      have p374 : 0 ≤ (x4_1 : Int) := zD
      have q374 : x4_1 < (l0.length : Int) := zD
      obtain ⟨ad374, e374, hx374_0, hx374_1⟩ := at_T44 HR0.out x4_1 p374 q374
      have hw374_1 := hx374_1
      have hw374_0 := hx374_0
      obtain rfl : ad372 = ad374 := (by injection e374)
      replace hx374_0 := (HB.out.cell (World.block_lt_of_cell? w _ hx374_0)).trans hx374_0
      replace hx374_1 := (HB.out.cell (World.block_lt_of_cell? w _ hx374_1)).trans hx374_1
      replace p374 := eq_true p374
      replace q374 := eq_true q374
      refine start_ (n := 22) (S := fun w' => w'.cell? (ad372.add ((x4_1).toNat * 2)) = some (.int .i64 ((rd_T44 l0 x4_1).f0)) ∧ w'.cell? ⟨(ad372.add ((x4_1).toNat * 2)).block, (ad372.add ((x4_1).toNat * 2)).off + 1, none⟩ = some (.string ((rd_T44 l0 x4_1).f1)) ∧ w'.cell? (ad372.add ((x4_1).toNat * 2)) = some (.int .i64 ((rd_T44 l0 x4_1).f0)) ∧ w'.cell? ⟨(ad372.add ((x4_1).toNat * 2)).block, (ad372.add ((x4_1).toNat * 2)).off + 1, none⟩ = some (.string ((rd_T44 l0 x4_1).f1)) ∧ w'.cell? (ad372.add ((x4_1).toNat * 2)) = some (.int .i64 ((rd_T44 l0 x4_1).f0)) ∧ w'.cell? ⟨(ad372.add ((x4_1).toNat * 2)).block, (ad372.add ((x4_1).toNat * 2)).off + 1, none⟩ = some (.string ((rd_T44 l0 x4_1).f1))) (ds := []) (ba 22 0).toArray (by kernel_rfl) rfl rfl ⟨((HB.out.cell (World.block_lt_of_cell? w _ hw372_0)).trans hw372_0), ((HB.out.cell (World.block_lt_of_cell? w _ hw372_1)).trans hw372_1), ((HB.out.cell (World.block_lt_of_cell? w _ hw373_0)).trans hw373_0), ((HB.out.cell (World.block_lt_of_cell? w _ hw373_1)).trans hw373_1), ((HB.out.cell (World.block_lt_of_cell? w _ hw374_0)).trans hw374_0), ((HB.out.cell (World.block_lt_of_cell? w _ hw374_1)).trans hw374_1)⟩ (fun hHeld => ?_); refine with_tabW spec_SpansOf.tab5 spec_SpansOf.bits5 (fun HT_ HW_ => ?_)
      generalize wr.drew = w7 at HO_3 HB hx372_0 hx372_1 hx373_0 hx373_1 hx374_0 hx374_1 hHeld ⊢
      refine zq 0 (some 12) (ba 22 1).toArray HT_ ?_
      refine zq 1 (some 13) (ba 22 3).toArray HT_ ?_
      refine zq 2 (some 14) (ba 22 7).toArray HT_ ?_
      refine zq 3 (some 15) (ba 22 15).toArray HT_ ?_
      refine zq 4 (some 16) (ba 22 31).toArray HT_ ?_
      refine zq 6 (some 18) (ba 22 95).toArray HT_ ?_
      refine zq 7 (some 19) (ba 22 223).toArray HT_ ?_
      refine zq 8 (some 20) (ba 22 479).toArray HT_ ?_
      refine zq 9 (some 21) (ba 22 991).toArray HT_ ?_
      refine zq 11 (some 23) (ba 22 3039).toArray HT_ ?_
      refine zq 12 (some 24) (ba 22 7135).toArray HT_ ?_
      refine zq 13 (some 25) (ba 22 15327).toArray HT_ ?_
      refine zq 14 (some 26) (ba 22 31711).toArray HT_ ?_
      refine zt6 5 (some 17) (ba 22 31743).toArray HT_ HW_ hHeld ?_
      refine zt6 10 (some 22) (ba 22 32767).toArray HT_ HW_ hHeld ?_
      refine zt6 15 (some 27) (ba 22 65535).toArray HT_ HW_ hHeld ?_
      refine zq 16 (some 28) (ba 22 131071).toArray HT_ ?_
      refine zq 17 (some 29) (ba 22 262143).toArray HT_ ?_
      refine zq 18 (some 30) (ba 22 524287).toArray HT_ ?_
      refine one_ (i := 19) (N := some 31) (ba 22 1048575).toArray rfl rfl (one_of HT_.out (by kernel_rfl)) (by decide) (fun K hK => ?_)
      refine value_ (w1 := ?_) (v := ?_) (by rfl) rfl ?_ ?_
      rotate_left 2
      ·go_simp
       constructor
       ·rfl
       ·rfl
      refine hK.out _ _ ⟨(World.cell?_alloc_lt _ _ _ (World.block_lt_of_cell? _ _ (((HB.out.cell (World.block_lt_of_cell? w _ hw372_0)).trans hw372_0)))).trans (((HB.out.cell (World.block_lt_of_cell? w _ hw372_0)).trans hw372_0)), (World.cell?_alloc_lt _ _ _ (World.block_lt_of_cell? _ _ (((HB.out.cell (World.block_lt_of_cell? w _ hw372_1)).trans hw372_1)))).trans (((HB.out.cell (World.block_lt_of_cell? w _ hw372_1)).trans hw372_1)), (World.cell?_alloc_lt _ _ _ (World.block_lt_of_cell? _ _ (((HB.out.cell (World.block_lt_of_cell? w _ hw373_0)).trans hw373_0)))).trans (((HB.out.cell (World.block_lt_of_cell? w _ hw373_0)).trans hw373_0)), (World.cell?_alloc_lt _ _ _ (World.block_lt_of_cell? _ _ (((HB.out.cell (World.block_lt_of_cell? w _ hw373_1)).trans hw373_1)))).trans (((HB.out.cell (World.block_lt_of_cell? w _ hw373_1)).trans hw373_1)), (World.cell?_alloc_lt _ _ _ (World.block_lt_of_cell? _ _ (((HB.out.cell (World.block_lt_of_cell? w _ hw374_0)).trans hw374_0)))).trans (((HB.out.cell (World.block_lt_of_cell? w _ hw374_0)).trans hw374_0)), (World.cell?_alloc_lt _ _ _ (World.block_lt_of_cell? _ _ (((HB.out.cell (World.block_lt_of_cell? w _ hw374_1)).trans hw374_1)))).trans (((HB.out.cell (World.block_lt_of_cell? w _ hw374_1)).trans hw374_1))⟩ (fun hHeld => ?_)
      clear hK K
      refine norm_ (a' := ?_) ?_ ?_
      rotate_left
      ·show Act.put _ (some 31) _ = _
       simp only [Act.put, List.setIfInBounds_toArray, List.set_cons_zero, List.set_cons_succ, i64_w, i32_w]
       rfl
      refine one_ (i := 20) (N := some 32) (ba 22 2097151).toArray rfl rfl (one_of HT_.out (by kernel_rfl)) (by decide) (fun K hK => ?_)
      refine Kd.R_append_step k26 (w0 := w) w.heap.size (by rfl) (.tmp 12) (.tmp 31) 24 26 (.agg #[(.int .i64 0), (.int .i64 0)]) 16 rfl Try.underlying24 info26 rfl (by decide) (by omega) u3 x3_1 (⟨(rd_T44 l0 x4_1).f0, wrap64 (((rd_T44 l0 x4_1).f0) + (((rd_T44 l0 x4_1).f1).size : Int))⟩ : S26) [.int .i64 ((rd_T44 l0 x4_1).f0), .int .i64 (wrap64 (((rd_T44 l0 x4_1).f0) + (((rd_T44 l0 x4_1).f1).size : Int)))] (fun _ => True) (fun _ => False) rfl rfl ?aP (fun _ hk => hk.elim) ?aF ?aO ?aB ?aS ?aL ?_
      (case aP => exact k26_mkM _ _ _ (⟨(rd_T44 l0 x4_1).f0, wrap64 (((rd_T44 l0 x4_1).f0) + (((rd_T44 l0 x4_1).f1).size : Int))⟩ : S26))
      (case aB => exact (zB HB.out))
      (case aF => exact (fun _ _ => trivial))
      (case aO => exact (zR HO_3.out))
      (case aS => exact (below_size (zB HB.out)))
      (case aL => have := LMc6.out; omega)
      intro v376 w8 ho hb hg hat
      rw [← Ny375.out] at ho
      have n0_ := zM (hb)
      have n1_ := zM (ho)
      clear HB
      clear HO_3
      have HB := n0_
      have HO377 := n1_
      clear n0_ n1_
      clear ho hb hg hat
      refine hK.out _ _ ⟨((HB.out.cell (World.block_lt_of_cell? w _ hw372_0)).trans hw372_0), ((HB.out.cell (World.block_lt_of_cell? w _ hw372_1)).trans hw372_1), ((HB.out.cell (World.block_lt_of_cell? w _ hw373_0)).trans hw373_0), ((HB.out.cell (World.block_lt_of_cell? w _ hw373_1)).trans hw373_1), ((HB.out.cell (World.block_lt_of_cell? w _ hw374_0)).trans hw374_0), ((HB.out.cell (World.block_lt_of_cell? w _ hw374_1)).trans hw374_1)⟩ (fun hHeld => ?_)
      clear hK K
      refine norm_ (a' := ?_) ?_ ?_
      rotate_left
      ·show Act.put _ (some 32) _ = _
       simp only [Act.put, List.setIfInBounds_toArray, List.set_cons_zero, List.set_cons_succ, i64_w, i32_w]
       rfl
      refine zq 21 (some 3) (ba 22 4194303).toArray HT_ ?_
      refine done_ (done_of HT_.out (by kernel_rfl)) ?_
      try go_wp2
      go_roundg k1
      case measure => have := HK1.out; omega
      case rel => exact ⟨(y375), (wrap64 (x4_1 + 1)), zS, H', ⟨by have := HK1.out; omega⟩, ⟨(zR HO377.out)⟩, ⟨(zB HB.out)⟩⟩
     ·rw [if_neg c6] at H
      exact absurd H (by simp)
    ·rw [if_neg c5] at H
     exact absurd H (by simp)
   ·rw [if_neg c4] at H
    have c4b0 : decide (x4_1 < (l0.length : Int)) = false := decide_eq_false c4
    clear c4
    obtain rfl := Option.some.inj H
    go_wp2
    go_ret
    exact ⟨_, zE, (zR HO_3.out), (zB HB.out)⟩

end Go.Proofs.Yteahdfibipalkaa.G

namespace Go.Proofs.Yteahdfibipalkaa.G
open Go.RowKit Go.Proofs.YteahdfibipalkaaW.PrintWords Go.Proofs.YteahdfibipalkaaW.PrintLast Go.Proofs.YteahdfibipalkaaW.PrintMore
attribute [local go_sem] max2_int min2_int max_two min_two max_three min_three max_four min_four   -- for this text's walks alone
set_option linter.unusedVariables false
set_option linter.unusedSimpArgs false

/-! ### spec_l1In: function 52 -/
set_option maxHeartbeats 8000000 in
set_option maxRecDepth 100000 in
theorem spec_l1In.calls (a0 : Int) (a1 : Int) (a2 : Int) (r : Bool) (w : World) (h : spec_l1In.f a0 a1 a2 = some r) :
  Calls Try.prog 52 #[.int .i64 a0, .int .i64 a1, .int .i64 a2] w fun e w' => e = .returned (.bool r) ∧ Drawn0 w w' := by
 have H : (if a0 ≥ a1 then (some (decide (a0 ≤ a2))) else (some false)) = some r := h
 clear h
 by_cases c4 : a0 ≥ a1
 ·rw [if_pos c4] at H
  have c4b0 : decide (a1 ≤ a0) = true := decide_eq_true c4
  clear c4
  obtain rfl := Option.some.inj H
  go_enter Try.func52, Try.ntmps52
  go_wp2
  go_ret
  exact ⟨zS, zW⟩
 ·rw [if_neg c4] at H
  have c4b0 : decide (a1 ≤ a0) = false := decide_eq_false c4
  clear c4
  obtain rfl := Option.some.inj H
  go_enter Try.func52, Try.ntmps52
  go_wp2
  go_ret
  exact ⟨zS, zW⟩

end Go.Proofs.Yteahdfibipalkaa.G

namespace Go.Proofs.Yteahdfibipalkaa.G
open Go.RowKit Go.Proofs.YteahdfibipalkaaW.PrintWords Go.Proofs.YteahdfibipalkaaW.PrintLast Go.Proofs.YteahdfibipalkaaW.PrintMore
attribute [local go_sem] max2_int min2_int max_two min_two max_three min_three max_four min_four   -- for this text's walks alone
set_option linter.unusedVariables false
set_option linter.unusedSimpArgs false

/-! ### spec_ArePieces: function 29 -/
set_option maxHeartbeats 8000000 in
set_option maxRecDepth 100000 in
theorem spec_ArePieces.calls (k : Nat) (A0 : Option Addr) (c0 : Nat) (l0 : List (S44)) (a1 : Int) (r : Bool) (w : World) (hr0 : Kd.C k44 w A0 l0.length l0) (hc0 : l0.length ≤ c0) (h : spec_ArePieces.f k l0 a1 = some r) :
  Calls Try.prog 29 #[.slice A0 l0.length c0, .int .i64 a1] w fun e w' => e = .returned (.bool r) ∧ Below w.heap.size w w' := by
 have HR0 := zM hr0
 have HC0 := zM hc0
 clear hr0 hc0
 have HB := zM (Below.refl w.heap.size w)
 have H : ((spec_SpansOf.f k l0).bind fun t378 => ((spec_l1In.f a1 0 600).bind fun t381 => (if t381 = true then (if (l0.length : Int) ≤ 8 then ((spec_IsSpanSet.f k t378).bind fun t382 => (if t382 = true then (if (t378.length : Int) = 0 then (some true) else (if 0 ≤ (wrap64 ((t378.length : Int) - 1)) then (if (wrap64 ((t378.length : Int) - 1)) < (t378.length : Int) then (some (decide (((rd_T26 t378 (wrap64 ((t378.length : Int) - 1))).f1) ≤ a1))) else (none)) else (none))) else (some false))) else (some false)) else (some false)))) = some r := h
 clear h
 replace H := Option.bind_eq_some_iff.mp H
 obtain ⟨t378, A30, H⟩ := H
 try dsimp only at H
 have A3 := zM A30
 clear A30
 replace H := Option.bind_eq_some_iff.mp H
 obtain ⟨t381, A40, H⟩ := H
 try dsimp only at H
 have A4 := zM A40
 clear A40
 by_cases c5 : t381 = true
 ·subst c5
  rw [if_pos rfl] at H
  by_cases c6 : (l0.length : Int) ≤ 8
  ·rw [if_pos c6] at H
   have c6b0 : decide ((l0.length : Int) ≤ 8) = true := decide_eq_true c6
   have c6b1 : decide (l0.length ≤ 8) = true := decide_eq_true (by omega)
   clear c6
   replace H := Option.bind_eq_some_iff.mp H
   obtain ⟨t382, A70, H⟩ := H
   try dsimp only at H
   have A7 := zM A70
   clear A70
   by_cases c8 : t382 = true
   ·subst c8
    rw [if_pos rfl] at H
    by_cases c9 : (t378.length : Int) = 0
    ·rw [if_pos c9] at H
     have c9b0 : ((t378.length : Int) == 0) = true := beq_iff_eq.mpr c9
     have c9b1 : ((t378.length : Int) != 0) = false := bne_eq_false_iff_eq.mpr c9
     clear c9
     obtain rfl := Option.some.inj H
     go_enter Try.func29, Try.ntmps29
     go_wp2_with (first | ((with_reducible refine gate_callee (f := 44) rfl ?_); refine zG (some 7) Try.func44 #[.slice A0 l0.length c0] ?_; (with_reducible refine (spec_SpansOf.calls k _ _ l0 t378 _ ?side1 ?side2 A3.out).mono ?_); (case side1 => exact (zC HR0.out)); (case side2 => exact HC0.out); rintro e w10 ⟨v379, rfl, ho0, hb⟩; refine ⟨_, rfl, ?_⟩; have n0_ := zM (Kd.R_lower ho0 (below_size (zB HB.out))); have n1_ := zM (below_step (zB HB.out) hb); clear HB; have HO380 := n0_; have HB := n1_; clear n0_ n1_; (try clear hb); (try clear hb2); (try clear hk); (try clear hi); (try clear ho0)) | ((with_reducible refine gate_callee (f := 52) rfl ?_); refine zG (some 9) Try.func52 #[.int .i64 a1, .int .i64 0, .int .i64 600] ?_; (with_reducible refine (spec_l1In.calls a1 0 600 true _ A4.out).mono ?_); rintro e w' ⟨rfl, ⟨nd, rfl⟩⟩; refine ⟨_, rfl, ?_⟩; obtain ⟨Ao11, co11, eo11⟩ := Kd.R_slice HO380.out; subst eo11) | (go_at_call 11; (with_reducible refine (spec_IsSpanSet.calls k _ _ t378 true _ ?side1 ?side2 A7.out).mono ?_); (case side1 => exact (zC ((Kd.R_reads' HO380.out).2.2))); (case side2 => exact (Kd.R_reads' HO380.out).2.1); rintro e w' ⟨rfl, ⟨nd, rfl⟩⟩))
     go_ret
     exact ⟨zE, (zB HB.out)⟩
    ·rw [if_neg c9] at H
     have c9b0 : ((t378.length : Int) == 0) = false := beq_eq_false_iff_ne.mpr c9
     have c9b1 : ((t378.length : Int) != 0) = true := bne_iff_ne.mpr c9
     have c9b2 : ¬ (t378 = []) := fun h_ => c9 (by rw [h_]; rfl)
     obtain ⟨ji12, hji12⟩ : ∃ j_ : Int, (wrap64 ((t378.length : Int) - 1)) = j_ := ⟨_, rfl⟩
     replace H : (if 0 ≤ (ji12) then (if (ji12) < (t378.length : Int) then (some (decide (((rd_T26 t378 (ji12)).f1) ≤ a1))) else (none)) else (none)) = some r := by first | (rw [hji12] at H; exact H) | (simp only [hji12] at H ⊢; exact H)
     (try rw [hji12] at A3)
     (try rw [hji12] at A4)
     (try rw [hji12] at A7)
     have hji12w : (IntKind.i64.wrap ((t378.length : Int) - 1)) = ji12 := (i64_w _).trans hji12
     by_cases c13 : 0 ≤ (ji12)
     ·rw [if_pos c13] at H
      have c13b0 : decide (0 ≤ (ji12)) = true := decide_eq_true c13
      clear c13
      by_cases c14 : (ji12) < (t378.length : Int)
      ·rw [if_pos c14] at H
       have c14b0 : decide ((ji12) < (t378.length : Int)) = true := decide_eq_true c14
       clear c14
       obtain rfl := Option.some.inj H
       go_enter Try.func29, Try.ntmps29
       go_wp2_with (first | ((with_reducible refine gate_callee (f := 44) rfl ?_); refine zG (some 7) Try.func44 #[.slice A0 l0.length c0] ?_; (with_reducible refine (spec_SpansOf.calls k _ _ l0 t378 _ ?side1 ?side2 A3.out).mono ?_); (case side1 => exact (zC HR0.out)); (case side2 => exact HC0.out); rintro e w15 ⟨v379, rfl, ho0, hb⟩; refine ⟨_, rfl, ?_⟩; have n0_ := zM (Kd.R_lower ho0 (below_size (zB HB.out))); have n1_ := zM (below_step (zB HB.out) hb); clear HB; have HO380 := n0_; have HB := n1_; clear n0_ n1_; (try clear hb); (try clear hb2); (try clear hk); (try clear hi); (try clear ho0)) | ((with_reducible refine gate_callee (f := 52) rfl ?_); refine zG (some 9) Try.func52 #[.int .i64 a1, .int .i64 0, .int .i64 600] ?_; (with_reducible refine (spec_l1In.calls a1 0 600 true _ A4.out).mono ?_); rintro e w' ⟨rfl, ⟨nd, rfl⟩⟩; refine ⟨_, rfl, ?_⟩; obtain ⟨Ao16, co16, eo16⟩ := Kd.R_slice HO380.out; subst eo16) | (go_at_call 11; (with_reducible refine (spec_IsSpanSet.calls k _ _ t378 true _ ?side1 ?side2 A7.out).mono ?_); (case side1 => exact (zC ((Kd.R_reads' HO380.out).2.2))); (case side2 => exact (Kd.R_reads' HO380.out).2.1); rintro e w' ⟨rfl, ⟨nd, rfl⟩⟩; have p383 : 0 ≤ ((ji12) : Int) := zD; have q383 : (ji12) < (t378.length : Int) := zD; obtain ⟨ad383, e383, hx383_0, hx383_1⟩ := at_T26 (Kd.R_reads' HO380.out).2.2 (ji12) p383 q383; cases e383; replace p383 := eq_true p383; replace q383 := eq_true q383))
       go_ret
       exact ⟨by first | rfl | (simp [errW_none, errW_some] <;> rfl) | (simp only [← hji12]; first | rfl | (simp [errW_none, errW_some] <;> rfl)) | (simp [*, errW_none, errW_some] <;> rfl), (zB HB.out)⟩
      ·rw [if_neg c14] at H
       exact absurd H (by simp)
     ·rw [if_neg c13] at H
      exact absurd H (by simp)
   ·replace c8 := Bool.eq_false_iff.mpr c8
    subst c8
    rw [if_neg (show ¬ (false = true) by decide)] at H
    obtain rfl := Option.some.inj H
    go_enter Try.func29, Try.ntmps29
    go_wp2_with (first | ((with_reducible refine gate_callee (f := 44) rfl ?_); refine zG (some 7) Try.func44 #[.slice A0 l0.length c0] ?_; (with_reducible refine (spec_SpansOf.calls k _ _ l0 t378 _ ?side1 ?side2 A3.out).mono ?_); (case side1 => exact (zC HR0.out)); (case side2 => exact HC0.out); rintro e w17 ⟨v379, rfl, ho0, hb⟩; refine ⟨_, rfl, ?_⟩; have n0_ := zM (Kd.R_lower ho0 (below_size (zB HB.out))); have n1_ := zM (below_step (zB HB.out) hb); clear HB; have HO380 := n0_; have HB := n1_; clear n0_ n1_; (try clear hb); (try clear hb2); (try clear hk); (try clear hi); (try clear ho0)) | ((with_reducible refine gate_callee (f := 52) rfl ?_); refine zG (some 9) Try.func52 #[.int .i64 a1, .int .i64 0, .int .i64 600] ?_; (with_reducible refine (spec_l1In.calls a1 0 600 true _ A4.out).mono ?_); rintro e w' ⟨rfl, ⟨nd, rfl⟩⟩; refine ⟨_, rfl, ?_⟩; obtain ⟨Ao18, co18, eo18⟩ := Kd.R_slice HO380.out; subst eo18) | (go_at_call 11; (with_reducible refine (spec_IsSpanSet.calls k _ _ t378 false _ ?side1 ?side2 A7.out).mono ?_); (case side1 => exact (zC ((Kd.R_reads' HO380.out).2.2))); (case side2 => exact (Kd.R_reads' HO380.out).2.1); rintro e w' ⟨rfl, ⟨nd, rfl⟩⟩))
    go_ret
    exact ⟨zE, (zB HB.out)⟩
  ·rw [if_neg c6] at H
   have c6b0 : decide ((l0.length : Int) ≤ 8) = false := decide_eq_false c6
   have c6b1 : decide (l0.length ≤ 8) = false := decide_eq_false (by omega)
   clear c6
   obtain rfl := Option.some.inj H
   go_enter Try.func29, Try.ntmps29
   go_wp2_with (first | ((with_reducible refine gate_callee (f := 44) rfl ?_); refine zG (some 7) Try.func44 #[.slice A0 l0.length c0] ?_; (with_reducible refine (spec_SpansOf.calls k _ _ l0 t378 _ ?side1 ?side2 A3.out).mono ?_); (case side1 => exact (zC HR0.out)); (case side2 => exact HC0.out); rintro e w19 ⟨v379, rfl, ho0, hb⟩; refine ⟨_, rfl, ?_⟩; have n0_ := zM (Kd.R_lower ho0 (below_size (zB HB.out))); have n1_ := zM (below_step (zB HB.out) hb); clear HB; have HO380 := n0_; have HB := n1_; clear n0_ n1_; (try clear hb); (try clear hb2); (try clear hk); (try clear hi); (try clear ho0)) | ((with_reducible refine gate_callee (f := 52) rfl ?_); refine zG (some 9) Try.func52 #[.int .i64 a1, .int .i64 0, .int .i64 600] ?_; (with_reducible refine (spec_l1In.calls a1 0 600 true _ A4.out).mono ?_); rintro e w' ⟨rfl, ⟨nd, rfl⟩⟩; refine ⟨_, rfl, ?_⟩))
   go_ret
   exact ⟨zE, (zB HB.out)⟩
 ·replace c5 := Bool.eq_false_iff.mpr c5
  subst c5
  rw [if_neg (show ¬ (false = true) by decide)] at H
  obtain rfl := Option.some.inj H
  go_enter Try.func29, Try.ntmps29
  go_wp2_with (first | ((with_reducible refine gate_callee (f := 44) rfl ?_); refine zG (some 7) Try.func44 #[.slice A0 l0.length c0] ?_; (with_reducible refine (spec_SpansOf.calls k _ _ l0 t378 _ ?side1 ?side2 A3.out).mono ?_); (case side1 => exact (zC HR0.out)); (case side2 => exact HC0.out); rintro e w20 ⟨v379, rfl, ho0, hb⟩; refine ⟨_, rfl, ?_⟩; have n0_ := zM (Kd.R_lower ho0 (below_size (zB HB.out))); have n1_ := zM (below_step (zB HB.out) hb); clear HB; have HO380 := n0_; have HB := n1_; clear n0_ n1_; (try clear hb); (try clear hb2); (try clear hk); (try clear hi); (try clear ho0)) | ((with_reducible refine gate_callee (f := 52) rfl ?_); refine zG (some 9) Try.func52 #[.int .i64 a1, .int .i64 0, .int .i64 600] ?_; (with_reducible refine (spec_l1In.calls a1 0 600 false _ A4.out).mono ?_); rintro e w' ⟨rfl, ⟨nd, rfl⟩⟩; refine ⟨_, rfl, ?_⟩))
  go_ret
  exact ⟨zE, (zB HB.out)⟩

end Go.Proofs.Yteahdfibipalkaa.G

namespace Go.Proofs.Yteahdfibipalkaa.G
open Go.RowKit Go.Proofs.YteahdfibipalkaaW.PrintWords Go.Proofs.YteahdfibipalkaaW.PrintLast Go.Proofs.YteahdfibipalkaaW.PrintMore
attribute [local go_sem] max2_int min2_int max_two min_two max_three min_three max_four min_four   -- for this text's walks alone
set_option linter.unusedVariables false
set_option linter.unusedSimpArgs false

/-! ### impl_SpansOf: function 30 -/
set_option maxHeartbeats 8000000 in
set_option maxRecDepth 100000 in
theorem impl_SpansOf.calls (k : Nat) (A0 : Option Addr) (c0 : Nat) (l0 : List (S44)) (r : List (S26)) (w : World) (hr0 : Kd.C k44 w A0 l0.length l0) (hc0 : l0.length ≤ c0) (h : impl_SpansOf.f k l0 = some r) :
  Calls Try.prog 30 #[.slice A0 l0.length c0] w fun e w' => ∃ v0_ : Value, e = .returned (v0_) ∧ Kd.R k26 26 w' w.heap.size (fun _ => True) v0_ r ∧ Below w.heap.size w w' := by
 have hu44 := Try.underlying44
 have hu26 := Try.underlying26
 have HR0 := zM hr0
 have HC0 := zM hc0
 clear hr0 hc0
 have HB := zM (Below.refl w.heap.size w)
 have H : (impl_SpansOf.l0 k (([] : List (S26))) l0 (l0.length : Int) 0) = some r := h
 clear h
 obtain ⟨y433, hy433⟩ : ∃ y_ : List (S26), y_ = (([] : List (S26))) := ⟨_, rfl⟩
 replace H : (impl_SpansOf.l0 k y433 l0 (l0.length : Int) 0) = some r := zH hy433 H
 have Ny433 := zM hy433
 clear hy433
 have H' := zM H
 clear H
 go_enter Try.func30, Try.ntmps30
 go_wp2_with (first | ((with_reducible refine gate_dst (N := 6) rfl ?_); refine Kd.R_lit k26 _ 26 ?hg (N := 6) ?hd (xs := ([] : List (S26))) (inner := []) (ok := fun _ => True) (okp := fun _ => True) ?hr ?hp (fun _ hk => hk) trivial (Below.refl _ _) (Nat.le_refl _) (by simp) ?_; (case hd => rfl); (case hg => rfl); (case hr => first | (go_simp; done) | (go_simp; rfl)); (case hp => exact (Reps.none _ _)); intro v434 w2 ho3 hb hg_ hnew_; clear hg_ hnew_; (first | rw [← Ny433.out] at ho3 | (simp only [Int.reduceToNat] at ho3; rw [← Ny433.out] at ho3)); have n0_ := zM (Kd.R_lower ho3 (below_size (zB HB.out))); have n1_ := zM (below_step (zB HB.out) hb); clear HB; have HO435 := n0_; have HB := n1_; clear n0_ n1_; clear hb ho3))
 go_loopg [3, 9] k (fun kq v3 v9 w' => ∃ (x3_1 : List (S26)) (x9_1 : Int), v9 = .int .i64 x9_1 ∧ Aside0 (impl_SpansOf.l0 kq x3_1 l0 (l0.length : Int) x9_1 = some r) ∧ Aside0 (kq ≤ k) ∧ Aside0 (Kd.R k26 26 w' w.heap.size (fun _ => True) v3 x3_1) ∧ Aside0 (Below w.heap.size w w'))
 case atStart => exact ⟨(y433), (0), zS, H', ⟨Nat.le_refl _⟩, ⟨(zR HO435.out)⟩, ⟨(zB HB.out)⟩⟩
 case round =>
  clear H'
  try clear p2
  try clear c3
  obtain ⟨x3_1, x9_1, rfl, HA, HK1, HO_3, HB⟩ := hrel
  cases gk with
  | zero => exact absurd HA.out (by simp [impl_SpansOf.l0])
  | succ k1 =>
   have H := HA.out
   clear HA
   simp only [impl_SpansOf.l0] at H
   by_cases c4 : x9_1 < (l0.length : Int)
   ·rw [if_pos c4] at H
    have c4b0 : decide (x9_1 < (l0.length : Int)) = true := decide_eq_true c4
    clear c4
    by_cases c5 : 0 ≤ x9_1
    ·rw [if_pos c5] at H
     have c5b0 : decide (0 ≤ x9_1) = true := decide_eq_true c5
     clear c5
     by_cases c6 : x9_1 < (l0.length : Int)
     ·rw [if_pos c6] at H
      have c6b0 : decide (x9_1 < (l0.length : Int)) = true := decide_eq_true c6
      clear c6
      by_cases c7 : x3_1.length < 8796093022208
      ·rw [if_pos c7] at H
       have LMc7 := zM c7
       clear c7
       obtain ⟨y438, hy438⟩ : ∃ y_ : List (S26), y_ = (x3_1 ++ [(⟨(rd_T44 l0 x9_1).f0, wrap64 (((rd_T44 l0 x9_1).f0) + (((rd_T44 l0 x9_1).f1).size : Int))⟩ : S26)]) := ⟨_, rfl⟩
       replace H : (impl_SpansOf.l0 k1 y438 l0 (l0.length : Int) (wrap64 (x9_1 + 1))) = some r := zH hy438 H
       have Ny438 := zM hy438
       clear hy438
       have H' := zM H
       clear H
       have p436 : 0 ≤ (x9_1 : Int) := zD
       have q436 : x9_1 < (l0.length : Int) := zD
       obtain ⟨ad436, e436, hx436_0, hx436_1⟩ := at_T44 HR0.out x9_1 p436 q436
       cases e436
       replace hx436_0 := (HB.out.cell (World.block_lt_of_cell? w _ hx436_0)).trans hx436_0
       replace hx436_1 := (HB.out.cell (World.block_lt_of_cell? w _ hx436_1)).trans hx436_1
       replace p436 := eq_true p436
       replace q436 := eq_true q436
       go_wp2_with (first | ((with_reducible refine gate_dst (N := 5) rfl ?_); refine box_event ?hg (N := 5) ?hd (cs := #[.int .i64 0, .string (⟨#[]⟩ : ByteArray)]) (t := 44) ?hr ?_; (case hd => rfl); (case hg => rfl); (case hr => first | (go_simp; done) | (go_simp; rfl)); intro gb437 hg w8 hbox hb; have n0_ := zM (Kd.R_below (zR HO_3.out) hb); have n1_ := zM (below_step (zB HB.out) hb); have n2_ := zM (hbox); have n3_ := zM ((by rw [hg]; exact (below_size (zB HB.out)) : w.heap.size ≤ gb437)); have n4_ := zM ((by rw [hg]; exact (below_size (zB HB.out)) : w.heap.size ≤ gb437)); clear HO_3; clear HB; have HO_3 := n0_; have HB := n1_; have BK437 := n2_; have GW437 := n3_; have GE437 := n4_; clear n0_ n1_ n2_ n3_ n4_; clear hb hbox hg; have hcz9_0 : w8.cell? ⟨gb437, 0, none⟩ = some (.int .i64 0) := (blk_cell BK437.out 0).trans rfl; have hcz9_1 : w8.cell? ⟨gb437, 1, none⟩ = some (.string (⟨#[]⟩ : ByteArray)) := (blk_cell BK437.out 1).trans rfl; have hfz9_0 := blk_frozen BK437.out 0; have hfz9_1 := blk_frozen BK437.out 1) | ((with_reducible refine gate_builtin (b := .append) (xs := #[.tmp 13, .tmp 23]) rfl ?_); at_builtin; refine Kd.R_append k26 (w0 := w) w.heap.size rfl (.tmp 13) (.tmp 23) 24 26 (.agg #[(.int .i64 0), (.int .i64 0)]) 16 rfl Try.underlying24 info26 rfl (by decide) (by omega) u3 x3_1 (⟨(rd_T44 l0 x9_1).f0, wrap64 (((rd_T44 l0 x9_1).f0) + (((rd_T44 l0 x9_1).f1).size : Int))⟩ : S26) [.int .i64 ((rd_T44 l0 x9_1).f0), .int .i64 (wrap64 (((rd_T44 l0 x9_1).f0) + (((rd_T44 l0 x9_1).f1).size : Int)))] (fun _ => True) (fun _ => False) rfl (by first | (go_simp; done) | (go_simp; rfl)) ?aP (fun _ hk => hk.elim) ?aF ?aO ?aB ?aS ?aL ?_; (case aP => exact k26_mkM _ _ _ (⟨(rd_T44 l0 x9_1).f0, wrap64 (((rd_T44 l0 x9_1).f0) + (((rd_T44 l0 x9_1).f1).size : Int))⟩ : S26)); (case aB => exact (zB1 GE437.out HB.out)); (case aF => exact (fun _ _ => trivial)); (case aO => exact (by (with_reducible repeat (first | apply Kd.R_alloc | apply Kd.R_drewN | apply Kd.R_drew)); exact Kd.R_mono (Kd.R_far (p := ⟨gb437, 1, none⟩) (Kd.R_far (p := ⟨gb437, 0, none⟩) (Kd.R_types HO_3.out BK437.out (by decide)) (fun _ hk => hk.2) (.int .i64 ((rd_T44 l0 x9_1).f0))) (fun _ hk => hk.2) (.string ((rd_T44 l0 x9_1).f1))) (fun _ hk => trivial))); (case aS => exact (below_size (zB1 GE437.out HB.out))); (case aL => have := LMc7.out; omega); intro v439 w10 ho hb hg hat; rw [← Ny438.out] at ho; have n0_ := zM (blk_grown (g := gb437) (o := .cells #[.int .i64 ((rd_T44 l0 x9_1).f0), .string ((rd_T44 l0 x9_1).f1)] 44 (0, 0)) (by (with_reducible repeat (first | refine blk_drewN ?_ _ | refine blk_drew ?_ | refine blk_alloc ?_ _)); refine blk_put (cs := #[.int .i64 ((rd_T44 l0 x9_1).f0), .string (⟨#[]⟩ : ByteArray)]) ?_ 1 _ rfl; (with_reducible repeat (first | refine blk_drewN ?_ _ | refine blk_drew ?_ | refine blk_alloc ?_ _)); refine blk_put (cs := #[.int .i64 0, .string (⟨#[]⟩ : ByteArray)]) ?_ 0 _ rfl; (with_reducible repeat (first | refine blk_drewN ?_ _ | refine blk_drew ?_ | refine blk_alloc ?_ _)); exact BK437.out) hg (Kd.R_ne HO_3.out BK437.out (by decide))); have n1_ := zM (hb); have n2_ := zM (ho); clear BK437; clear HB; clear HO_3; have BK437 := n0_; have HB := n1_; have HO440 := n2_; clear n0_ n1_ n2_; clear ho hb hg hat))
       go_roundg k1
       case measure => have := HK1.out; omega
       case rel => exact ⟨(y438), (wrap64 (x9_1 + 1)), zS, H', ⟨by have := HK1.out; omega⟩, ⟨(zR HO440.out)⟩, ⟨(zB1 GE437.out HB.out)⟩⟩
      ·rw [if_neg c7] at H
       exact absurd H (by simp)
     ·rw [if_neg c6] at H
      exact absurd H (by simp)
    ·rw [if_neg c5] at H
     exact absurd H (by simp)
   ·rw [if_neg c4] at H
    have c4b0 : decide (x9_1 < (l0.length : Int)) = false := decide_eq_false c4
    clear c4
    obtain rfl := Option.some.inj H
    go_wp2
    go_ret
    exact ⟨_, zE, (zR HO_3.out), (zB HB.out)⟩

end Go.Proofs.Yteahdfibipalkaa.G
