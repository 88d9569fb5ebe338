/- Texts for: FnExactAddPiece: the program's law on adding a piece returns true, whatever the input. -/
import Derived.Test.YteahdfibipalkaaWWords
import Derived.Test.YteahdfibipalkaaWMore
import Derived.Test.YteahdfibipalkaaProg
import Derived.Below
import Derived.Deep.Draws
import Derived.Deep.AppendLies
import Derived.Maps.AppendAt
import Derived.OwnWalk
import Derived.Laws.BytesArg
import Derived.Laws.MakeOwn
import Derived.Laws.OwnMore
import Derived.Deep.OwnRows
import Derived.Tactics
import Derived.Lib.ConvBytes
import Derived.Laws.Slices
import Derived.WalkKit
import Derived.KernelRfl
import Derived.RowKit3
import Derived.Deep.LoopGhost
import Derived.Deep.QuietTactic
import Derived.BigQuiet
import Derived.WideLaws
import Derived.Deep.DeepCutAuto
import Derived.Deep.CutBlock
import Derived.Deep.RegionHeld3
import Derived.Laws.Rows
import Derived.Lib.AppendStr
import Derived.ArgAppend
import Derived.Laws.IdiomCopy
import Derived.OrdersHeld
import Derived.Laws.BitsLemmas
import Derived.RowKit
import Derived.Shelf.SlicesQ.IndexFunc
import Derived.Lib.SliceRun
import Derived.Lib.LazyBuf
import Derived.Test.YteahdfibipalkaaWLast
import Derived.Test.YteahdfibipalkaaWTab
import Derived.Test.YteahdfibipalkaaWFour
import Derived.Test.YteahdfibipalkaaWQPut
import Derived.Test.YteahdfibipalkaaWApart
import Derived.Test.YteahdfibipalkaaWArr
import Derived.Test.YteahdfibipalkaaWZeros
import Derived.Test.YteahdfibipalkaaWFoot
import Derived.Test.YteahdfibipalkaaWKept
import Derived.Test.YteahdfibipalkaaWShare
import Derived.Test.YteahdfibipalkaaWN
import Derived.Test.YteahdfibipalkaaWFootNe
import Derived.Test.YteahdfibipalkaaWAt
import Derived.Test.YteahdfibipalkaaWEqStruct
import Derived.Test.YteahdfibipalkaaWRepsOne
import Derived.Test.YteahdfibipalkaaWInv
import Derived.Test.YteahdfibipalkaaWInvWords
import Derived.Test.YteahdfibipalkaaWGuard
import Derived.Test.YteahdfibipalkaaWNEv

namespace Go.Proofs.Yteahdfibipalkaa.G
open Go.RowKit Go.Proofs.YteahdfibipalkaaW.PrintWords Go.Proofs.YteahdfibipalkaaW.PrintLast Go.Proofs.YteahdfibipalkaaW.PrintMore
set_option linter.unusedVariables false

structure S26 where
  f0 : Int
  f1 : Int

def z26 : S26 := ⟨(0 : Int), (0 : Int)⟩

def rd_T26 (xs : List S26) (i : Int) : S26 := xs.getD i.toNat z26

structure S37 where
  f0 : Int
  f1 : ByteArray

def z37 : S37 := ⟨(0 : Int), (⟨#[]⟩ : ByteArray)⟩

def rd_T37 (xs : List S37) (i : Int) : S37 := xs.getD i.toNat z37

structure S44 where
  f0 : Int
  f1 : ByteArray

def z44 : S44 := ⟨(0 : Int), (⟨#[]⟩ : ByteArray)⟩

def rd_T44 (xs : List S44) (i : Int) : S44 := xs.getD i.toNat z44

def laws_big.f (l0 : List Int) : Option (Bool) := some (decide ((l0.length : Int) > 1048576))

def spec_l1New.l0 : Nat → List Int → Int → Int → Option (List Int × Int × Int)
  | 0, _, _, _ => none
  | k + 1, x0, x3, x4 => if x4 < (x0.length : Int) then (if x4 < 4000 then (if 0 ≤ x4 then (spec_l1New.l0 k x0 (Go.bits .and .i64 (wrap64 ((wrap64 ((wrap64 (x3 * 139)) + (wrap64 (rd x0 x4)))) + 11)) 1073741823) (wrap64 (x4 + 1))) else (none)) else (some (x0, 0, x3))) else (some (x0, 0, x3))

def spec_l1New.f (k : Nat) (l0 : List Int) : Option (List Int × Int × Int) := spec_l1New.l0 k l0 (wrap64 (271091 + (l0.length : Int))) 0

def spec_l1Byte.f (s0_0 : List Int) (s0_1 : Int) (s0_2 : Int) : Option (Int × Int × Int) := if s0_1 < (s0_0.length : Int) then (if 0 ≤ s0_1 then (some (Go.bits .and .i64 (wrap64 ((Go.bits .and .i64 (Go.bits .xor .i64 ((wrap64 ((wrap64 (s0_2 * 6364136223846793005)) + 1442695040888963407)) / 8589934592) ((wrap64 ((wrap64 (s0_2 * 6364136223846793005)) + 1442695040888963407)) / 140737488355328)) 255) + (wrap64 (rd s0_0 s0_1)))) 255, wrap64 (s0_1 + 1), wrap64 ((wrap64 (s0_2 * 6364136223846793005)) + 1442695040888963407))) else (none)) else (some (Go.bits .and .i64 (Go.bits .xor .i64 ((wrap64 ((wrap64 (s0_2 * 6364136223846793005)) + 1442695040888963407)) / 8589934592) ((wrap64 ((wrap64 (s0_2 * 6364136223846793005)) + 1442695040888963407)) / 140737488355328)) 255, s0_1, wrap64 ((wrap64 (s0_2 * 6364136223846793005)) + 1442695040888963407)))

def spec_l1Below.f (s0_0 : List Int) (s0_1 : Int) (s0_2 : Int) (a1 : Int) : Option (Int × Int × Int) := if a1 ≤ 0 then (some (0, s0_1, s0_2)) else (if a1 ≤ 256 then ((spec_l1Byte.f s0_0 s0_1 s0_2).bind fun bt105 => (if a1 = 0 then (none) else (some (Int.tmod bt105.1 a1, bt105.2.1, bt105.2.2)))) else ((spec_l1Byte.f s0_0 s0_1 s0_2).bind fun bt108 => ((spec_l1Byte.f s0_0 bt108.2.1 bt108.2.2).bind fun bt111 => ((spec_l1Byte.f s0_0 bt111.2.1 bt111.2.2).bind fun bt114 => (if a1 = 0 then (none) else (some (Int.tmod (wrap64 ((wrap64 ((wrap64 (bt108.1 * 65536)) + (wrap64 (bt111.1 * 256)))) + bt114.1)) a1, bt114.2.1, bt114.2.2)))))))

def spec_l9Span.f (s0_0 : List Int) (s0_1 : Int) (s0_2 : Int) : Option (Int × Int × Int × Int) := (spec_l1Below.f s0_0 s0_1 s0_2 16).bind fun bt118 => ((spec_l1Below.f s0_0 bt118.2.1 bt118.2.2 6).bind fun bt121 => (some (bt118.1, wrap64 (bt118.1 + bt121.1), bt121.2.1, bt121.2.2)))

def spec_l1Once.f (s0_0 : List Int) (s0_1 : Int) (s0_2 : Int) (a1 : Int) : Option (Bool × Int × Int) := (spec_l1Below.f s0_0 s0_1 s0_2 a1).bind fun bt124 => (some ((bt124.1 == 0), bt124.2.1, bt124.2.2))

def spec_IsSpanSet.l0 : Nat → List (S26) → Int → Option (Bool)
  | 0, _, _ => none
  | k + 1, x0, x3 => if x3 < (x0.length : Int) then (if 0 ≤ x3 then (if ((rd_T26 x0 x3).f0) < 0 then (some false) else (if ((rd_T26 x0 x3).f0) ≥ ((rd_T26 x0 x3).f1) then (some false) else (if ((rd_T26 x0 x3).f1) > 1000000000000 then (some false) else (if x3 > 0 then (if 0 ≤ (wrap64 (x3 - 1)) then (if (wrap64 (x3 - 1)) < (x0.length : Int) then (if ((rd_T26 x0 (wrap64 (x3 - 1))).f1) ≥ ((rd_T26 x0 x3).f0) then (some false) else (spec_IsSpanSet.l0 k x0 (wrap64 (x3 + 1)))) else (none)) else (none)) else (spec_IsSpanSet.l0 k x0 (wrap64 (x3 + 1))))))) else (none)) else (some true)

def spec_IsSpanSet.f (k : Nat) (l0 : List (S26)) : Option (Bool) := spec_IsSpanSet.l0 k l0 0

def spec_Min.f (a0 : Int) (a1 : Int) : Option (Int) := if a1 < a0 then (some a1) else (some a0)

def spec_Max.f (a0 : Int) (a1 : Int) : Option (Int) := if a1 > a0 then (some a1) else (some a0)

mutual
def spec_AddSpan.j0 : Nat → List (S26) → Bool → Int → Int → Option ((List (S26)))
  | 0, _, _, _, _ => none
  | k + 1, x0, x28, x134000, x134001 => if x28 = true then ((some (([] : List (S26)) : List (S26))).bind fun y135 => (if y135.length + x0.length < 8796093022208 then (some (y135 ++ x0)) else (none))) else (spec_AddSpan.l0 k x0 (([] : List (S26))) 0 x134000 x134001)
def spec_AddSpan.l0 : Nat → List (S26) → List (S26) → Int → Int → Int → Option ((List (S26)))
  | 0, _, _, _, _, _ => none
  | k + 1, x0, x5, x6, x134000, x134001 => if x6 < (x0.length : Int) then (if 0 ≤ x6 then (if ((rd_T26 x0 x6).f1) < x134000 then (if x5.length < 8796093022208 then (spec_AddSpan.l0 k x0 (x5 ++ [(⟨(rd_T26 x0 x6).f0, (rd_T26 x0 x6).f1⟩ : S26)]) (wrap64 (x6 + 1)) x134000 x134001) else (none)) else (spec_AddSpan.l0 k x0 x5 (wrap64 (x6 + 1)) x134000 x134001)) else (none)) else (spec_AddSpan.l1 k x0 x5 0 x134000 x134001)
def spec_AddSpan.l1 : Nat → List (S26) → List (S26) → Int → Int → Int → Option ((List (S26)))
  | 0, _, _, _, _, _ => none
  | k + 1, x0, x5, x7, x134000, x134001 => if x7 < (x0.length : Int) then (if 0 ≤ x7 then (if ((rd_T26 x0 x7).f1) ≥ x134000 then (spec_AddSpan.j3 k x0 x5 x7 (decide (((rd_T26 x0 x7).f0) ≤ x134001)) x134000 x134001) else (spec_AddSpan.j3 k x0 x5 x7 false x134000 x134001)) else (none)) else (if x5.length < 8796093022208 then (spec_AddSpan.l2 k x0 (x5 ++ [(⟨x134000, x134001⟩ : S26)]) 0 x134000 x134001) else (none))
def spec_AddSpan.j3 : Nat → List (S26) → List (S26) → Int → Bool → Int → Int → Option ((List (S26)))
  | 0, _, _, _, _, _, _ => none
  | k + 1, x0, x5, x7, x77, x134000, x134001 => if x77 = true then (if 0 ≤ x7 then (if x7 < (x0.length : Int) then ((spec_Min.f x134000 ((rd_T26 x0 x7).f0)).bind fun t152 => ((spec_Max.f x134001 ((rd_T26 x0 x7).f1)).bind fun t154 => (spec_AddSpan.l1 k x0 x5 (wrap64 (x7 + 1)) t152 t154))) else (none)) else (none)) else (spec_AddSpan.l1 k x0 x5 (wrap64 (x7 + 1)) x134000 x134001)
def spec_AddSpan.l2 : Nat → List (S26) → List (S26) → Int → Int → Int → Option ((List (S26)))
  | 0, _, _, _, _, _ => none
  | k + 1, x0, x5, x8, x134000, x134001 => if x8 < (x0.length : Int) then (if 0 ≤ x8 then (if ((rd_T26 x0 x8).f0) > x134001 then (if x5.length < 8796093022208 then (spec_AddSpan.l2 k x0 (x5 ++ [(⟨(rd_T26 x0 x8).f0, (rd_T26 x0 x8).f1⟩ : S26)]) (wrap64 (x8 + 1)) x134000 x134001) else (none)) else (spec_AddSpan.l2 k x0 x5 (wrap64 (x8 + 1)) x134000 x134001)) else (none)) else (some x5)
end

def spec_AddSpan.f (k : Nat) (l0 : List (S26)) (a1_0 : Int) (a1_1 : Int) : Option ((List (S26))) := (spec_IsSpanSet.f k l0).bind fun t134 => (if t134 = true then (if a1_0 < 0 then (spec_AddSpan.j0 k l0 true a1_0 a1_1) else (if a1_0 ≥ a1_1 then (spec_AddSpan.j0 k l0 true a1_0 a1_1) else (spec_AddSpan.j0 k l0 (decide (a1_1 > 1000000000000)) a1_0 a1_1))) else (spec_AddSpan.j0 k l0 true a1_0 a1_1))

def spec_l9Set.l0 : Nat → List (S26) → Int → List Int → Int → Int → Option ((List (S26)) × Int × Int)
  | 0, _, _, _, _, _ => none
  | k + 1, x3, x4, x1000, x1001, x1002 => if x4 > 0 then ((spec_l9Span.f x1000 x1001 x1002).bind fun bt169 => ((spec_AddSpan.f k x3 bt169.1 bt169.2.1).bind fun t173 => (spec_l9Set.l0 k t173 (wrap64 (x4 - 1)) x1000 bt169.2.2.1 bt169.2.2.2))) else ((spec_l1Once.f x1000 x1001 x1002 9).bind fun bt176 => (if bt176.1 = true then ((spec_l9Span.f x1000 bt176.2.1 bt176.2.2).bind fun bt179 => (if x3.length < 8796093022208 then (some ((x3 ++ [(⟨bt179.1, bt179.2.1⟩ : S26)]), bt179.2.2.1, bt179.2.2.2)) else (none))) else (some (x3, bt176.2.1, bt176.2.2))))

def spec_l9Set.f (k : Nat) (s0_0 : List Int) (s0_1 : Int) (s0_2 : Int) : Option ((List (S26)) × Int × Int) := (spec_l1Below.f s0_0 s0_1 s0_2 5).bind fun bt166 => (spec_l9Set.l0 k (([] : List (S26))) bt166.1 s0_0 bt166.2.1 bt166.2.2)

def spec_l1Int.f (s0_0 : List Int) (s0_1 : Int) (s0_2 : Int) (l1 : List Int) : Option (Int × Int × Int) := (spec_l1Below.f s0_0 s0_1 s0_2 (l1.length : Int)).bind fun bt186 => (if 0 ≤ bt186.1 then (if bt186.1 < (l1.length : Int) then (some (rd l1 bt186.1, bt186.2.1, bt186.2.2)) else (none)) else (none))

def spec_l1Odd.f (s0_0 : List Int) (s0_1 : Int) (s0_2 : Int) : Option (Int × Int × Int) := (spec_l1Int.f s0_0 s0_1 s0_2 (([(-1), 0, 1, 2, 255, 256, 65535, 2147483647, 2147483648, 4294967295, 4294967296, (-2147483648), 9223372036854775807, (-9223372036854775808)] : List Int))).bind fun bt193 => (some (bt193.1, bt193.2.1, bt193.2.2))

def spec_DrawAddSpan.f (k : Nat) (l0 : List Int) : Option ((List (S26)) × Int × Int) := (spec_l1New.f k l0).bind fun bt197 => ((spec_l9Set.f k bt197.1 bt197.2.1 bt197.2.2).bind fun bt201 => ((spec_l9Span.f bt197.1 bt201.2.1 bt201.2.2).bind fun bt206 => ((spec_l1Once.f bt197.1 bt206.2.2.1 bt206.2.2.2 9).bind fun bt211 => (if bt211.1 = true then ((spec_l1Odd.f bt197.1 bt211.2.1 bt211.2.2).bind fun bt214 => (some (bt201.1, bt214.1, bt206.2.1))) else (some (bt201.1, bt206.1, bt206.2.1))))))

def impl_IsSpanSet.l0 : Nat → List (S26) → List (S26) → Int → Int → Option (Bool)
  | 0, _, _, _, _ => none
  | k + 1, x0, x5, x6, x7 => if x7 < x6 then (if 0 ≤ x7 then (if x7 < (x5.length : Int) then (if ((rd_T26 x5 x7).f0) < 0 then (some false) else (if ((rd_T26 x5 x7).f0) ≥ ((rd_T26 x5 x7).f1) then (some false) else (if ((rd_T26 x5 x7).f1) > 1000000000000 then (some false) else (if x7 > 0 then (if 0 ≤ (wrap64 (x7 - 1)) then (if (wrap64 (x7 - 1)) < (x0.length : Int) then (if ((rd_T26 x0 (wrap64 (x7 - 1))).f1) ≥ ((rd_T26 x5 x7).f0) then (some false) else (impl_IsSpanSet.l0 k x0 x5 x6 (wrap64 (x7 + 1)))) else (none)) else (none)) else (impl_IsSpanSet.l0 k x0 x5 x6 (wrap64 (x7 + 1))))))) else (none)) else (none)) else (some true)

def impl_IsSpanSet.f (k : Nat) (l0 : List (S26)) : Option (Bool) := impl_IsSpanSet.l0 k l0 l0 (l0.length : Int) 0

def impl_Span_38.f (l0 : List (S26)) : Option ((List (S26))) := (some (([] : List (S26)) : List (S26))).bind fun y220 => (if y220.length + l0.length < 8796093022208 then (some (y220 ++ l0)) else (none))

mutual
def impl_AddSpan.j0 : Nat → List (S26) → Bool → Int → Int → Option ((List (S26)))
  | 0, _, _, _, _ => none
  | k + 1, x0, x26, x227000, x227001 => if x26 = true then ((impl_Span_38.f x0).bind fun t228 => (some t228)) else (impl_AddSpan.l0 k x0 (([] : List (S26))) 0 x227000 x227001)
def impl_AddSpan.j2 : Nat → List (S26) → List (S26) → Int → Int → Int → Option ((List (S26)))
  | 0, _, _, _, _, _ => none
  | k + 1, x0, x5, x6, x227000, x227001 => impl_AddSpan.l1 k x0 x5 x6 x227000 x227001
def impl_AddSpan.l1 : Nat → List (S26) → List (S26) → Int → Int → Int → Option ((List (S26)))
  | 0, _, _, _, _, _ => none
  | k + 1, x0, x5, x6, x227000, x227001 => if x6 < (x0.length : Int) then (if 0 ≤ x6 then (if ((rd_T26 x0 x6).f0) ≤ x227001 then (impl_AddSpan.l1 k x0 x5 (wrap64 (x6 + 1)) (mn x227000 ((rd_T26 x0 x6).f0)) (mx x227001 ((rd_T26 x0 x6).f1))) else (if x5.length < 8796093022208 then ((some (x5 ++ [(⟨x227000, x227001⟩ : S26)] : List (S26))).bind fun y242 => (if x6 ≤ (x0.length : Int) then ((some (x0.drop (x6 : Int).toNat : List (S26))).bind fun y245 => (if y242.length + y245.length < 8796093022208 then (some (y242 ++ y245)) else (none))) else (none))) else (none))) else (none)) else (if x5.length < 8796093022208 then ((some (x5 ++ [(⟨x227000, x227001⟩ : S26)] : List (S26))).bind fun y252 => (if 0 ≤ x6 then (if x6 ≤ (x0.length : Int) then ((some (x0.drop (x6 : Int).toNat : List (S26))).bind fun y255 => (if y252.length + y255.length < 8796093022208 then (some (y252 ++ y255)) else (none))) else (none)) else (none))) else (none))
def impl_AddSpan.l0 : Nat → List (S26) → List (S26) → Int → Int → Int → Option ((List (S26)))
  | 0, _, _, _, _, _ => none
  | k + 1, x0, x5, x6, x227000, x227001 => if x6 < (x0.length : Int) then (if 0 ≤ x6 then (if ((rd_T26 x0 x6).f1) < x227000 then (if x5.length < 8796093022208 then (impl_AddSpan.l0 k x0 (x5 ++ [(⟨(rd_T26 x0 x6).f0, (rd_T26 x0 x6).f1⟩ : S26)]) (wrap64 (x6 + 1)) x227000 x227001) else (none)) else (impl_AddSpan.j2 k x0 x5 x6 x227000 x227001)) else (none)) else (impl_AddSpan.j2 k x0 x5 x6 x227000 x227001)
end

def impl_AddSpan.f (k : Nat) (l0 : List (S26)) (a1_0 : Int) (a1_1 : Int) : Option ((List (S26))) := (impl_IsSpanSet.f k l0).bind fun t227 => (if t227 = true then (if a1_0 ≥ a1_1 then (impl_AddSpan.j0 k l0 true a1_0 a1_1) else (if a1_0 < 0 then (impl_AddSpan.j0 k l0 true a1_0 a1_1) else (impl_AddSpan.j0 k l0 (decide (a1_1 > 1000000000000)) a1_0 a1_1))) else (impl_AddSpan.j0 k l0 true a1_0 a1_1))

def spec_DrawMissingSpans.f (k : Nat) (l0 : List Int) : Option ((List (S26)) × Int × Int) := (spec_l1New.f k l0).bind fun bt263 => ((spec_l9Set.f k bt263.1 bt263.2.1 bt263.2.2).bind fun bt267 => ((spec_l9Span.f bt263.1 bt267.2.1 bt267.2.2).bind fun bt272 => (some (bt267.1, bt272.1, bt272.2.1))))

mutual
def impl_MissingSpans.l1 : Nat → List (S26) → Int → List (S26) → Int → Int → Int → Int → Option ((List (S26)))
  | 0, _, _, _, _, _, _, _ => none
  | k + 1, x5, x6, x15, x16, x17, x277000, x277001 => if x17 < x16 then (if 0 ≤ x17 then (if x17 < (x15.length : Int) then (if ((rd_T26 x15 x17).f1) ≤ x6 then (impl_MissingSpans.j1 k x5 x6 x15 x16 x17 true x277000 x277001 ((rd_T26 x15 x17).f0) ((rd_T26 x15 x17).f1)) else (impl_MissingSpans.j1 k x5 x6 x15 x16 x17 (decide (((rd_T26 x15 x17).f0) ≥ x277001)) x277000 x277001 ((rd_T26 x15 x17).f0) ((rd_T26 x15 x17).f1))) else (none)) else (none)) else (if x6 < x277001 then (if x5.length < 8796093022208 then (some (x5 ++ [(⟨x6, x277001⟩ : S26)])) else (none)) else (some x5))
def impl_MissingSpans.j1 : Nat → List (S26) → Int → List (S26) → Int → Int → Bool → Int → Int → Int → Int → Option ((List (S26)))
  | 0, _, _, _, _, _, _, _, _, _, _ => none
  | k + 1, x5, x6, x15, x16, x17, x31, x277000, x277001, x286000, x286001 => if x31 = true then (impl_MissingSpans.l1 k x5 x6 x15 x16 (wrap64 (x17 + 1)) x277000 x277001) else (if x286000 > x6 then (if x5.length < 8796093022208 then (impl_MissingSpans.l1 k (x5 ++ [(⟨x6, x286000⟩ : S26)]) x286001 x15 x16 (wrap64 (x17 + 1)) x277000 x277001) else (none)) else (impl_MissingSpans.l1 k x5 x286001 x15 x16 (wrap64 (x17 + 1)) x277000 x277001))
def impl_MissingSpans.l0 : Nat → List (S26) → Int → Int → Int → Int → Int → Option ((List (S26)))
  | 0, _, _, _, _, _, _ => none
  | k + 1, x5, x6, x16, x17, x277000, x277001 => if x17 < x16 then (none) else (if x6 < x277001 then (if x5.length < 8796093022208 then (some (x5 ++ [(⟨x6, x277001⟩ : S26)])) else (none)) else (some x5))
end

def impl_MissingSpans.f (k : Nat) (l0 : List (S26)) (a1_0 : Int) (a1_1 : Int) : Option ((List (S26))) := (some (([] : List (S26)) : List (S26))).bind fun y277 => ((impl_IsSpanSet.f k l0).bind fun t280 => (if t280 = true then (impl_MissingSpans.l1 k y277 a1_0 l0 (l0.length : Int) 0 a1_0 a1_1) else (impl_MissingSpans.l0 k y277 a1_0 0 0 a1_0 a1_1)))

def idxI {α : Type} (p : α → Bool) (l : List α) : Int := if l.findIdx p < l.length then (l.findIdx p : Int) else -1

def impl_CoversSpan.f (l0 : List (S26)) (a1_0 : Int) (a1_1 : Int) : Option (Bool) := some (if a1_0 ≥ a1_1 then true else l0.any fun y => decide (y.f0 ≤ a1_0) && decide (a1_1 ≤ y.f1))

def spec_CoversSpan.l0 : Nat → List (S26) → Int → Int → Int → Option (Bool)
  | 0, _, _, _, _ => none
  | k + 1, x0, x5, x293000, x293001 => if x5 < (x0.length : Int) then (if 0 ≤ x5 then (if ((rd_T26 x0 x5).f0) ≤ x293000 then (if x293001 ≤ ((rd_T26 x0 x5).f1) then (some true) else (spec_CoversSpan.l0 k x0 (wrap64 (x5 + 1)) x293000 x293001)) else (spec_CoversSpan.l0 k x0 (wrap64 (x5 + 1)) x293000 x293001)) else (none)) else (some (decide (x293000 ≥ x293001)))

def spec_CoversSpan.f (k : Nat) (l0 : List (S26)) (a1_0 : Int) (a1_1 : Int) : Option (Bool) := spec_CoversSpan.l0 k l0 0 a1_0 a1_1

def spec_DrawUniteSpans.l0 : Nat → List (S26) → Int → List Int → Int → Int → Option ((List (S26)))
  | 0, _, _, _, _, _ => none
  | k + 1, x4, x5, x299000, x299001, x299002 => if x5 > 0 then ((spec_l9Span.f x299000 x299001 x299002).bind fun bt305 => (if x4.length < 8796093022208 then (spec_DrawUniteSpans.l0 k (x4 ++ [(⟨bt305.1, bt305.2.1⟩ : S26)]) (wrap64 (x5 - 1)) x299000 bt305.2.2.1 bt305.2.2.2) else (none))) else (some x4)

def spec_DrawUniteSpans.f (k : Nat) (l0 : List Int) : Option ((List (S26))) := (spec_l1New.f k l0).bind fun bt295 => ((spec_l1Below.f bt295.1 bt295.2.1 bt295.2.2 6).bind fun bt302 => (spec_DrawUniteSpans.l0 k (([] : List (S26))) bt302.1 bt295.1 bt302.2.1 bt302.2.2))

def impl_UniteSpans.l0 : Nat → List (S26) → List (S26) → Int → Int → Option ((List (S26)))
  | 0, _, _, _, _ => none
  | k + 1, x3, x7, x8, x9 => if x9 < x8 then (if 0 ≤ x9 then (if x9 < (x7.length : Int) then ((impl_AddSpan.f k x3 ((rd_T26 x7 x9).f0) ((rd_T26 x7 x9).f1)).bind fun t317 => (impl_UniteSpans.l0 k t317 x7 x8 (wrap64 (x9 + 1)))) else (none)) else (none)) else (some x3)

def impl_UniteSpans.f (k : Nat) (l0 : List (S26)) : Option ((List (S26))) := impl_UniteSpans.l0 k (([] : List (S26))) l0 (l0.length : Int) 0

def impl_SpanSize.l0 : Nat → Int → List (S26) → Int → Int → Option (Int)
  | 0, _, _, _, _ => none
  | k + 1, x3, x6, x7, x8 => if x8 < x7 then (if 0 ≤ x8 then (if x8 < (x6.length : Int) then (impl_SpanSize.l0 k (wrap64 (x3 + (wrap64 (((rd_T26 x6 x8).f1) - ((rd_T26 x6 x8).f0))))) x6 x7 (wrap64 (x8 + 1))) else (none)) else (none)) else (some x3)

def impl_SpanSize.f (k : Nat) (l0 : List (S26)) : Option (Int) := impl_SpanSize.l0 k 0 l0 (l0.length : Int) 0

mutual
def laws_FnIntervals.l0 : Nat → List Int → List (S26) → List (S26) → List (S26) → List (S26) → Bool → Int → Int → Int → Int → Int → Option (Bool)
  | 0, _, _, _, _, _, _, _, _, _, _, _ => none
  | k + 1, x0, x3, x5, x6, x8, x9, x10, x329000, x329001, x338000, x338001 => if x10 < 40 then (if x9 = true then (laws_FnIntervals.j1 k x0 x3 x5 x6 x8 x9 x10 (decide (x329000 ≥ 0)) x329000 x329001 x338000 x338001) else (laws_FnIntervals.j1 k x0 x3 x5 x6 x8 x9 x10 false x329000 x329001 x338000 x338001)) else (laws_FnIntervals.j1 k x0 x3 x5 x6 x8 x9 x10 false x329000 x329001 x338000 x338001)
def laws_FnIntervals.j1 : Nat → List Int → List (S26) → List (S26) → List (S26) → List (S26) → Bool → Int → Bool → Int → Int → Int → Int → Option (Bool)
  | 0, _, _, _, _, _, _, _, _, _, _, _, _ => none
  | k + 1, x0, x3, x5, x6, x8, x9, x10, x44, x329000, x329001, x338000, x338001 => if x44 = true then ((impl_CoversSpan.f x5 x10 (wrap64 (x10 + 1))).bind fun t343 => ((spec_CoversSpan.f k x3 x10 (wrap64 (x10 + 1))).bind fun t344 => (if t344 = true then (laws_FnIntervals.j2 k x0 x3 x5 x6 x8 x9 x10 (t343 != true) x329000 x329001 x338000 x338001 x10 (wrap64 (x10 + 1))) else (if x329000 ≤ x10 then (if x10 < x329001 then (laws_FnIntervals.j2 k x0 x3 x5 x6 x8 x9 x10 (t343 != (decide (x329001 ≤ 1000000000000))) x329000 x329001 x338000 x338001 x10 (wrap64 (x10 + 1))) else (laws_FnIntervals.j2 k x0 x3 x5 x6 x8 x9 x10 (t343 != false) x329000 x329001 x338000 x338001 x10 (wrap64 (x10 + 1)))) else (laws_FnIntervals.j2 k x0 x3 x5 x6 x8 x9 x10 (t343 != false) x329000 x329001 x338000 x338001 x10 (wrap64 (x10 + 1))))))) else ((spec_DrawUniteSpans.f k x0).bind fun t348 => ((impl_UniteSpans.f k t348).bind fun t351 => (laws_FnIntervals.l1 k x5 x9 t348 t351 0)))
def laws_FnIntervals.j2 : Nat → List Int → List (S26) → List (S26) → List (S26) → List (S26) → Bool → Int → Bool → Int → Int → Int → Int → Int → Int → Option (Bool)
  | 0, _, _, _, _, _, _, _, _, _, _, _, _, _, _ => none
  | k + 1, x0, x3, x5, x6, x8, x9, x10, x74, x329000, x329001, x338000, x338001, x343000, x343001 => if x74 = true then (some false) else ((spec_IsSpanSet.f k x6).bind fun t345 => (if t345 = true then ((spec_CoversSpan.f k x8 x343000 x343001).bind fun t346 => (if x338000 ≤ x10 then (if x10 < x338001 then ((spec_CoversSpan.f k x6 x343000 x343001).bind fun t347 => (if (t346 != (!t347)) = true then (some false) else (laws_FnIntervals.l0 k x0 x3 x5 x6 x8 x9 (wrap64 (x10 + 1)) x329000 x329001 x338000 x338001))) else (if (t346 != false) = true then (some false) else (laws_FnIntervals.l0 k x0 x3 x5 x6 x8 x9 (wrap64 (x10 + 1)) x329000 x329001 x338000 x338001))) else (if (t346 != false) = true then (some false) else (laws_FnIntervals.l0 k x0 x3 x5 x6 x8 x9 (wrap64 (x10 + 1)) x329000 x329001 x338000 x338001)))) else (laws_FnIntervals.l0 k x0 x3 x5 x6 x8 x9 (wrap64 (x10 + 1)) x329000 x329001 x338000 x338001)))
def laws_FnIntervals.l1 : Nat → List (S26) → Bool → List (S26) → List (S26) → Int → Option (Bool)
  | 0, _, _, _, _, _ => none
  | k + 1, x5, x9, x12, x13, x14 => if x14 < (x12.length : Int) then (if 0 ≤ x14 then (if ((rd_T26 x12 x14).f0) ≥ 0 then ((impl_CoversSpan.f x13 ((rd_T26 x12 x14).f0) ((rd_T26 x12 x14).f1)).bind fun t356 => (if t356 = true then (laws_FnIntervals.l1 k x5 x9 x12 x13 (wrap64 (x14 + 1))) else (some false))) else (laws_FnIntervals.l1 k x5 x9 x12 x13 (wrap64 (x14 + 1)))) else (none)) else (if x9 = true then ((impl_IsSpanSet.f k x5).bind fun t357 => (if t357 = true then ((impl_IsSpanSet.f k x13).bind fun t358 => (if t358 = true then ((spec_IsSpanSet.f k x13).bind fun t359 => (if t359 = true then ((impl_SpanSize.f k x13).bind fun t360 => ((impl_SpanSize.f k x12).bind fun t361 => (some (decide (t360 ≤ t361))))) else (some false))) else (some false))) else (some false))) else ((impl_IsSpanSet.f k x13).bind fun t362 => (if t362 = true then ((spec_IsSpanSet.f k x13).bind fun t363 => (if t363 = true then ((impl_SpanSize.f k x13).bind fun t364 => ((impl_SpanSize.f k x12).bind fun t365 => (some (decide (t364 ≤ t365))))) else (some false))) else (some false))))
end

def laws_FnIntervals.f (k : Nat) (l0 : List Int) : Option (Bool) := (laws_big.f l0).bind fun t322 => (if t322 = true then (some true) else ((spec_DrawAddSpan.f k l0).bind fun bt323 => ((impl_AddSpan.f k bt323.1 bt323.2.1 bt323.2.2).bind fun t329 => ((spec_DrawMissingSpans.f k l0).bind fun bt332 => ((impl_MissingSpans.f k bt332.1 bt332.2.1 bt332.2.2).bind fun t338 => ((spec_IsSpanSet.f k bt323.1).bind fun t341 => (laws_FnIntervals.l0 k l0 bt323.1 t329 bt332.1 t338 t341 0 bt323.2.1 bt323.2.2 bt332.2.1 bt332.2.2)))))))

def laws_szPiece.f (a0_0 : Int) (a0_1 : ByteArray) (a1 : Int) : Option (Int) := if (wrap64 (a1 - (a0_1.size : Int))) < 0 then (some (-1)) else (some (wrap64 (a1 - (a0_1.size : Int))))

def laws_szPieceS.l0 : Nat → List (S37) → Int → Int → Option (Int)
  | 0, _, _, _ => none
  | k + 1, x0, x1, x5 => if x5 < (x0.length : Int) then (if 0 ≤ x5 then ((laws_szPiece.f ((rd_T37 x0 x5).f0) ((rd_T37 x0 x5).f1) x1).bind fun t368 => (if t368 < 0 then (some (-1)) else (laws_szPieceS.l0 k x0 t368 (wrap64 (x5 + 1))))) else (none)) else (some x1)

def laws_szPieceS.f (k : Nat) (l0 : List (S37)) (a1 : Int) : Option (Int) := if (wrap64 (a1 - (l0.length : Int))) < 0 then (some (-1)) else (laws_szPieceS.l0 k l0 (wrap64 (a1 - (l0.length : Int))) 0)

def spec_SpansOf.l0 : Nat → List (S44) → List (S26) → Int → Option ((List (S26)))
  | 0, _, _, _ => none
  | k + 1, x0, x3, x4 => if x4 < (x0.length : Int) then (if 0 ≤ x4 then (if x3.length < 8796093022208 then (spec_SpansOf.l0 k x0 (x3 ++ [(⟨(rd_T44 x0 x4).f0, wrap64 (((rd_T44 x0 x4).f0) + (((rd_T44 x0 x4).f1).size : Int))⟩ : S26)]) (wrap64 (x4 + 1))) else (none)) else (none)) else (some x3)

def spec_SpansOf.f (k : Nat) (l0 : List (S44)) : Option ((List (S26))) := spec_SpansOf.l0 k l0 (([] : List (S26))) 0

def spec_l1In.f (a0 : Int) (a1 : Int) (a2 : Int) : Option (Bool) := if a0 ≥ a1 then (some (decide (a0 ≤ a2))) else (some false)

def spec_ArePieces.f (k : Nat) (l0 : List (S44)) (a1 : Int) : Option (Bool) := (spec_SpansOf.f k l0).bind fun t378 => ((spec_l1In.f a1 0 600).bind fun t381 => (if t381 = true then (if (l0.length : Int) ≤ 8 then ((spec_IsSpanSet.f k t378).bind fun t382 => (if t382 = true then (if (t378.length : Int) = 0 then (some true) else (if 0 ≤ (wrap64 ((t378.length : Int) - 1)) then (if (wrap64 ((t378.length : Int) - 1)) < (t378.length : Int) then (some (decide (((rd_T26 t378 (wrap64 ((t378.length : Int) - 1))).f1) ≤ a1))) else (none)) else (none))) else (some false))) else (some false)) else (some false)))

def spec_l10Byte.l0 : Nat → List (S44) → Int → Int → Option (Int)
  | 0, _, _, _ => none
  | k + 1, x0, x1, x5 => if x5 < (x0.length : Int) then (if 0 ≤ x5 then (if ((rd_T44 x0 x5).f0) ≤ x1 then (if x1 < (wrap64 (((rd_T44 x0 x5).f0) + (((rd_T44 x0 x5).f1).size : Int))) then (if 0 ≤ (wrap64 (x1 - ((rd_T44 x0 x5).f0))) then (if (wrap64 (x1 - ((rd_T44 x0 x5).f0))) < (((rd_T44 x0 x5).f1).size : Int) then (some (wrap64 (bt ((rd_T44 x0 x5).f1) (wrap64 (x1 - ((rd_T44 x0 x5).f0)))))) else (none)) else (none)) else (spec_l10Byte.l0 k x0 x1 (wrap64 (x5 + 1)))) else (spec_l10Byte.l0 k x0 x1 (wrap64 (x5 + 1)))) else (none)) else (some (-1))

def spec_l10Byte.f (k : Nat) (l0 : List (S44)) (a1 : Int) : Option (Int) := spec_l10Byte.l0 k l0 a1 0

mutual
def spec_AddPiece.j0 : Nat → List (S44) → List (S44) → Int → Bool → Int → ByteArray → Option ((List (S44)) × Bool)
  | 0, _, _, _, _, _, _ => none
  | k + 1, x0, x8, x9, x58, x390000, x390001 => if x58 = true then (some (x8, false)) else (spec_AddPiece.l0 k x0 x8 x9 x390000 x390000 x390001)
def spec_AddPiece.l0 : Nat → List (S44) → List (S44) → Int → Int → Int → ByteArray → Option ((List (S44)) × Bool)
  | 0, _, _, _, _, _, _ => none
  | k + 1, x0, x8, x9, x10, x390000, x390001 => if x10 < x9 then ((spec_l10Byte.f k x0 x10).bind fun t397 => (if t397 ≥ 0 then (if 0 ≤ (wrap64 (x10 - x390000)) then (if (wrap64 (x10 - x390000)) < (x390001.size : Int) then (if t397 = (wrap64 (bt x390001 (wrap64 (x10 - x390000)))) then (spec_AddPiece.l0 k x0 x8 x9 (wrap64 (x10 + 1)) x390000 x390001) else (some (x8, false))) else (none)) else (none)) else (spec_AddPiece.l0 k x0 x8 x9 (wrap64 (x10 + 1)) x390000 x390001))) else ((spec_SpansOf.f k x0).bind fun t398 => ((spec_AddSpan.f k t398 x390000 x9).bind fun t401 => (if (t401.length : Int) > 8 then (some (x8, false)) else (spec_AddPiece.l1 k x0 t401 (([] : List (S44))) 0 x390000 x390001))))
def spec_AddPiece.l1 : Nat → List (S44) → List (S26) → List (S44) → Int → Int → ByteArray → Option ((List (S44)) × Bool)
  | 0, _, _, _, _, _, _ => none
  | k + 1, x0, x12, x13, x14, x390000, x390001 => if x14 < (x12.length : Int) then (if 0 ≤ x14 then (spec_AddPiece.l2 k x0 x12 x13 x14 (([] : List Int)) ((rd_T26 x12 x14).f0) x390000 x390001) else (none)) else (some (x13, true))
def spec_AddPiece.l2 : Nat → List (S44) → List (S26) → List (S44) → Int → List Int → Int → Int → ByteArray → Option ((List (S44)) × Bool)
  | 0, _, _, _, _, _, _, _, _ => none
  | k + 1, x0, x12, x13, x14, x15, x16, x390000, x390001 => if 0 ≤ x14 then (if x14 < (x12.length : Int) then (if x16 < ((rd_T26 x12 x14).f1) then ((spec_l10Byte.f k x0 x16).bind fun t412 => (if t412 < 0 then (if 0 ≤ (wrap64 (x16 - x390000)) then (if (wrap64 (x16 - x390000)) < (x390001.size : Int) then (if x15.length < 140737488355328 then (spec_AddPiece.l2 k x0 x12 x13 x14 (x15 ++ [(wrap64 (bt x390001 (wrap64 (x16 - x390000)))) % 256]) (wrap64 (x16 + 1)) x390000 x390001) else (none)) else (none)) else (none)) else (if x15.length < 140737488355328 then (spec_AddPiece.l2 k x0 x12 x13 x14 (x15 ++ [(t412) % 256]) (wrap64 (x16 + 1)) x390000 x390001) else (none)))) else (if x13.length < 5864062014805 then (spec_AddPiece.l1 k x0 x12 (x13 ++ [(⟨(rd_T26 x12 x14).f0, strOfNums x15⟩ : S44)]) (wrap64 (x14 + 1)) x390000 x390001) else (none))) else (none)) else (none)
end

def spec_AddPiece.f (k : Nat) (l0 : List (S44)) (a1 : Int) (a2_0 : Int) (a2_1 : ByteArray) : Option ((List (S44)) × Bool) := (some (([] : List (S44)) : List (S44))).bind fun y390 => (if y390.length + l0.length < 5864062014805 then ((some (y390 ++ l0 : List (S44))).bind fun y393 => ((spec_ArePieces.f k l0 a1).bind fun t396 => (if t396 = true then (if a2_0 < 0 then (spec_AddPiece.j0 k l0 y393 (wrap64 (a2_0 + (a2_1.size : Int))) true a2_0 a2_1) else (if (a2_1.size : Int) = 0 then (spec_AddPiece.j0 k l0 y393 (wrap64 (a2_0 + (a2_1.size : Int))) true a2_0 a2_1) else (if (a2_1.size : Int) > a1 then (spec_AddPiece.j0 k l0 y393 (wrap64 (a2_0 + (a2_1.size : Int))) true a2_0 a2_1) else (spec_AddPiece.j0 k l0 y393 (wrap64 (a2_0 + (a2_1.size : Int))) (decide (a2_0 > (wrap64 (a1 - (a2_1.size : Int))))) a2_0 a2_1)))) else (spec_AddPiece.j0 k l0 y393 (wrap64 (a2_0 + (a2_1.size : Int))) true a2_0 a2_1)))) else (none))

def laws_toPiece.f (a0_0 : Int) (a0_1 : ByteArray) : Option (Int × ByteArray) := some (a0_0, a0_1)

def laws_toPieceS.l0 : Nat → List (S37) → List (S44) → Int → Option ((List (S44)))
  | 0, _, _, _ => none
  | k + 1, x0, x3, x4 => if x4 < (x0.length : Int) then (if 0 ≤ x4 then ((laws_toPiece.f ((rd_T37 x0 x4).f0) ((rd_T37 x0 x4).f1)).bind fun bt430 => (if x4 < (x3.length : Int) then (laws_toPieceS.l0 k x0 (x3.set (x4 : Int).toNat (⟨bt430.1, bt430.2⟩ : S44)) (wrap64 (x4 + 1))) else (none))) else (none)) else (some x3)

def laws_toPieceS.f (k : Nat) (l0 : List (S37)) : Option ((List (S44))) := if 0 ≤ (l0.length : Int) then (if ((l0.length : Int) : Int).toNat ≤ 11728124029610 then (laws_toPieceS.l0 k l0 (List.replicate ((l0.length : Int) : Int).toNat z44) 0) else (none)) else (none)

def impl_SpansOf.l0 : Nat → List (S26) → List (S44) → Int → Int → Option ((List (S26)))
  | 0, _, _, _, _ => none
  | k + 1, x3, x7, x8, x9 => if x9 < x8 then (if 0 ≤ x9 then (if x9 < (x7.length : Int) then (if x3.length < 8796093022208 then (impl_SpansOf.l0 k (x3 ++ [(⟨(rd_T44 x7 x9).f0, wrap64 (((rd_T44 x7 x9).f0) + (((rd_T44 x7 x9).f1).size : Int))⟩ : S26)]) x7 x8 (wrap64 (x9 + 1))) else (none)) else (none)) else (none)) else (some x3)

def impl_SpansOf.f (k : Nat) (l0 : List (S44)) : Option ((List (S26))) := impl_SpansOf.l0 k (([] : List (S26))) l0 (l0.length : Int) 0

def impl_inRange.f (a0 : Int) (a1 : Int) (a2 : Int) : Option (Bool) := if a1 ≤ a0 then (some (decide (a0 ≤ a2))) else (some false)

def impl_ArePieces.f (k : Nat) (l0 : List (S44)) (a1 : Int) : Option (Bool) := (impl_SpansOf.f k l0).bind fun t441 => ((impl_inRange.f a1 0 600).bind fun t444 => (if t444 = true then (if (l0.length : Int) > 8 then (some false) else ((impl_IsSpanSet.f k t441).bind fun t445 => (if t445 = true then (if (t441.length : Int) = 0 then (some true) else (if 0 ≤ (wrap64 ((t441.length : Int) - 1)) then (if (wrap64 ((t441.length : Int) - 1)) < (t441.length : Int) then (some (decide (((rd_T26 t441 (wrap64 ((t441.length : Int) - 1))).f1) ≤ a1))) else (none)) else (none))) else (some false)))) else (some false)))

def impl_Piece.f (l0 : List (S44)) : Option ((List (S44))) := (some (([] : List (S44)) : List (S44))).bind fun y447 => (if y447.length + l0.length < 5864062014805 then (some (y447 ++ l0)) else (none))

def copyAt.f (l0 : List Int) (lo : Int) (s : ByteArray) : Option (List Int) := if 0 ≤ lo then (if 0 < s.size then (if lo + (s.size : Int) ≤ (l0.length : Int) then (some (l0.take lo.toNat ++ bytesOf s ++ l0.drop (lo.toNat + s.size))) else (none)) else (none)) else (none)

def encB (s : ByteArray) : List Value := s.data.toList.map fun x => Value.int .u8 (x.toNat : Int)

mutual
def impl_AddPiece.j0 : Nat → List (S44) → Int → Bool → Int → ByteArray → Option ((List (S44)) × Bool)
  | 0, _, _, _, _, _ => none
  | k + 1, x0, x1, x39, x454000, x454001 => if x39 = true then ((impl_Piece.f x0).bind fun t455 => (some (t455, false))) else (if 0 ≤ x1 then (if (x1 : Int).toNat ≤ 281474976710656 then (impl_AddPiece.l0 k x0 (List.replicate (x1 : Int).toNat 0) x0 (x0.length : Int) 0 x454000 x454001) else (none)) else (none))
def impl_AddPiece.l0 : Nat → List (S44) → List Int → List (S44) → Int → Int → Int → ByteArray → Option ((List (S44)) × Bool)
  | 0, _, _, _, _, _, _, _ => none
  | k + 1, x0, x8, x44, x45, x46, x454000, x454001 => if x46 < x45 then (if 0 ≤ x46 then (if x46 < (x44.length : Int) then ((copyAt.f x8 ((rd_T44 x44 x46).f0) ((rd_T44 x44 x46).f1)).bind fun t463 => (impl_AddPiece.l0 k x0 t463 x44 x45 (wrap64 (x46 + 1)) x454000 x454001)) else (none)) else (none)) else (impl_AddPiece.l1 k x0 x8 (x454001.size : Int) 0 x454000 x454001)
def impl_AddPiece.l1 : Nat → List (S44) → List Int → Int → Int → Int → ByteArray → Option ((List (S44)) × Bool)
  | 0, _, _, _, _, _, _ => none
  | k + 1, x0, x8, x60, x61, x454000, x454001 => if x61 < x60 then ((impl_SpansOf.f k x0).bind fun t464 => ((impl_CoversSpan.f t464 (wrap64 (x454000 + x61)) (wrap64 ((wrap64 (x454000 + x61)) + 1))).bind fun t467 => (if t467 = true then (if 0 ≤ (wrap64 (x454000 + x61)) then (if (wrap64 (x454000 + x61)) < (x8.length : Int) then (if 0 ≤ x61 then (if x61 < (x454001.size : Int) then (if (rd x8 (wrap64 (x454000 + x61))) = (bt x454001 x61) then (impl_AddPiece.l1 k x0 (x8.set ((wrap64 (x454000 + x61)) : Int).toNat (bt x454001 x61)) x60 (wrap64 (x61 + 1)) x454000 x454001) else ((impl_Piece.f x0).bind fun t470 => (some (t470, false)))) else (none)) else (none)) else (none)) else (none)) else (if 0 ≤ x61 then (if x61 < (x454001.size : Int) then (if 0 ≤ (wrap64 (x454000 + x61)) then (if (wrap64 (x454000 + x61)) < (x8.length : Int) then (impl_AddPiece.l1 k x0 (x8.set ((wrap64 (x454000 + x61)) : Int).toNat (bt x454001 x61)) x60 (wrap64 (x61 + 1)) x454000 x454001) else (none)) else (none)) else (none)) else (none))))) else ((impl_SpansOf.f k x0).bind fun t477 => ((impl_AddSpan.f k t477 x454000 (wrap64 (x454000 + (x454001.size : Int)))).bind fun t480 => (impl_AddPiece.l2 k x0 x8 (([] : List (S44))) t480 (t480.length : Int) 0)))
def impl_AddPiece.l2 : Nat → List (S44) → List Int → List (S44) → List (S26) → Int → Int → Option ((List (S44)) × Bool)
  | 0, _, _, _, _, _, _ => none
  | k + 1, x0, x8, x13, x108, x109, x110 => if x110 < x109 then (if 0 ≤ x110 then (if x110 < (x108.length : Int) then (if 0 ≤ ((rd_T26 x108 x110).f0) then (if ((rd_T26 x108 x110).f0) ≤ ((rd_T26 x108 x110).f1) then (if ((rd_T26 x108 x110).f1) ≤ (x8.length : Int) then (if x13.length < 5864062014805 then (impl_AddPiece.l2 k x0 x8 (x13 ++ [(⟨(rd_T26 x108 x110).f0, strOfNums ((x8.take (((rd_T26 x108 x110).f1) : Int).toNat).drop (((rd_T26 x108 x110).f0) : Int).toNat)⟩ : S44)]) x108 x109 (wrap64 (x110 + 1))) else (none)) else (none)) else (none)) else (none)) else (none)) else (none)) else (if (x13.length : Int) > 8 then ((impl_Piece.f x0).bind fun t492 => (some (t492, false))) else (some (x13, true)))
end

def impl_AddPiece.f (k : Nat) (l0 : List (S44)) (a1 : Int) (a2_0 : Int) (a2_1 : ByteArray) : Option ((List (S44)) × Bool) := (impl_ArePieces.f k l0 a1).bind fun t454 => (if t454 = true then (if a2_1.toList = ([] : List UInt8) then (impl_AddPiece.j0 k l0 a1 true a2_0 a2_1) else (if a2_0 < 0 then (impl_AddPiece.j0 k l0 a1 true a2_0 a2_1) else (impl_AddPiece.j0 k l0 a1 (decide (a2_0 > (wrap64 (a1 - (a2_1.size : Int))))) a2_0 a2_1))) else (impl_AddPiece.j0 k l0 a1 true a2_0 a2_1))

def laws_eqPiece.f (a0_0 : Int) (a0_1 : ByteArray) (a1_0 : Int) (a1_1 : ByteArray) : Option (Bool) := if a0_0 = a1_0 then (if a0_1.toList = a1_1.toList then (some true) else (some false)) else (some false)

def laws_eqPieceS.l0 : Nat → List (S44) → List (S44) → Int → Option (Bool)
  | 0, _, _, _ => none
  | k + 1, x0, x1, x5 => if x5 < (x0.length : Int) then (if 0 ≤ x5 then (if x5 < (x1.length : Int) then ((laws_eqPiece.f ((rd_T44 x0 x5).f0) ((rd_T44 x0 x5).f1) ((rd_T44 x1 x5).f0) ((rd_T44 x1 x5).f1)).bind fun t499 => (if t499 = true then (laws_eqPieceS.l0 k x0 x1 (wrap64 (x5 + 1))) else (some false))) else (none)) else (none)) else (some true)

def laws_eqPieceS.f (k : Nat) (l0 : List (S44)) (l1 : List (S44)) : Option (Bool) := if (l0.length : Int) = (l1.length : Int) then (laws_eqPieceS.l0 k l0 l1 0) else (some false)

def laws_markText.l0 : Nat → Int → ByteArray → Option (ByteArray)
  | 0, _, _ => none
  | k + 1, x0, x3 => if x0 > 0 then ((some (([(wrap64 (48 + (Int.tmod x0 10))) % 256] : List Int) : List Int)).bind fun y500 => (if (strOfNums y500).size + x3.size ≤ 9223372036854775807 then (laws_markText.l0 k (wrap64 (Int.tdiv x0 10)) ((strOfNums y500) ++ x3)) else (none))) else (if 1 + x3.size ≤ 9223372036854775807 then (some ((⟨#[109]⟩ : ByteArray) ++ x3)) else (none))

def laws_markText.f (k : Nat) (a0 : Int) : Option (ByteArray) := if a0 ≤ 0 then (some (⟨#[109, 48]⟩ : ByteArray)) else (laws_markText.l0 k a0 (⟨#[]⟩ : ByteArray))

def laws_markPieceS.l0 : Nat → List (S44) → Int → Int → Option (Int × (List (S44)))
  | 0, _, _, _ => none
  | k + 1, x0, x1, x5 => if x5 < (x0.length : Int) then (if 0 ≤ x5 then ((some (x0.set (x5 : Int).toNat (⟨x1, (rd_T44 x0 x5).f1⟩ : S44) : List (S44))).bind fun y503 => ((laws_markText.f k (wrap64 (x1 + 1))).bind fun t504 => (laws_markPieceS.l0 k (y503.set (x5 : Int).toNat (⟨(rd_T44 y503 x5).f0, t504⟩ : S44)) (wrap64 ((wrap64 (x1 + 1)) + 1)) (wrap64 (x5 + 1))))) else (none)) else (some (x1, x0))

def laws_markPieceS.f (k : Nat) (l0 : List (S44)) (a1 : Int) : Option (Int × (List (S44))) := laws_markPieceS.l0 k l0 a1 0

def laws_heldPieceS.l0 : Nat → List (S44) → Int → Int → Option (Int)
  | 0, _, _, _ => none
  | k + 1, x0, x1, x5 => if x5 < (x0.length : Int) then (if 0 ≤ x5 then (if ((rd_T44 x0 x5).f0) = x1 then ((laws_markText.f k (wrap64 (x1 + 1))).bind fun t508 => (if ((rd_T44 x0 x5).f1).toList = t508.toList then (laws_heldPieceS.l0 k x0 (wrap64 ((wrap64 (x1 + 1)) + 1)) (wrap64 (x5 + 1))) else (some (-1)))) else (some (-1))) else (none)) else (some x1)

def laws_heldPieceS.f (k : Nat) (l0 : List (S44)) (a1 : Int) : Option (Int) := laws_heldPieceS.l0 k l0 a1 0

mutual
def laws_FnExactAddPiece.j0 : Nat → List (S37) → Int → List (S44) → Bool → List (S44) → List (S44) → Bool → Bool → Int → ByteArray → Option (Bool)
  | 0, _, _, _, _, _, _, _, _, _, _ => none
  | k + 1, x0, x1, x8, x9, x10, x11, x12, x55, x510000, x510001 => if x55 = true then (some false) else ((laws_toPieceS.f k x0).bind fun t531 => ((laws_eqPieceS.f k x10 t531).bind fun t534 => (if t534 = true then ((laws_markPieceS.f k x10 1).bind fun bt535 => (if bt535.1 < 0 then (laws_FnExactAddPiece.j1 k x0 x1 x8 x9 x11 true x510000 x510001) else ((laws_eqPieceS.f k x11 x8).bind fun t537 => (if t537 = true then (laws_FnExactAddPiece.j1 k x0 x1 x8 x9 x11 (x12 != x9) x510000 x510001) else (laws_FnExactAddPiece.j1 k x0 x1 x8 x9 x11 true x510000 x510001))))) else (some false))))
def laws_FnExactAddPiece.j1 : Nat → List (S37) → Int → List (S44) → Bool → List (S44) → Bool → Int → ByteArray → Option (Bool)
  | 0, _, _, _, _, _, _, _, _ => none
  | k + 1, x0, x1, x8, x9, x11, x76, x510000, x510001 => if x76 = true then (some false) else ((laws_markPieceS.f k x11 1).bind fun bt538 => ((laws_heldPieceS.f k bt538.2 1).bind fun t540 => (if t540 < 0 then (some false) else (if t540 = bt538.1 then ((laws_toPieceS.f k x0).bind fun t541 => ((laws_toPiece.f x510000 x510001).bind fun bt544 => ((impl_AddPiece.f k t541 x1 bt544.1 bt544.2).bind fun bt546 => ((laws_eqPieceS.f k bt546.1 x8).bind fun t550 => (if t550 = true then (laws_FnExactAddPiece.j2 k bt538.2 bt538.1 (bt546.2 != x9)) else (laws_FnExactAddPiece.j2 k bt538.2 bt538.1 true)))))) else (some false)))))
def laws_FnExactAddPiece.j2 : Nat → List (S44) → Int → Bool → Option (Bool)
  | 0, _, _, _ => none
  | k + 1, x11, x14, x105 => if x105 = true then (some false) else ((laws_heldPieceS.f k x11 1).bind fun t551 => (if t551 < 0 then (some false) else (if t551 = x14 then (some true) else (some false))))
end

def laws_FnExactAddPiece.f (k : Nat) (l0 : List (S37)) (a1 : Int) (a2_0 : Int) (a2_1 : ByteArray) : Option (Bool) := (laws_szPieceS.f k l0 1048576).bind fun t510 => (if t510 < 0 then (some true) else ((laws_szPiece.f a2_0 a2_1 t510).bind fun t511 => (if t511 < 0 then (some true) else ((laws_toPieceS.f k l0).bind fun t512 => ((laws_toPiece.f a2_0 a2_1).bind fun bt515 => ((spec_AddPiece.f k t512 a1 bt515.1 bt515.2).bind fun bt517 => ((laws_toPieceS.f k l0).bind fun t521 => ((laws_toPiece.f a2_0 a2_1).bind fun bt524 => ((impl_AddPiece.f k t521 a1 bt524.1 bt524.2).bind fun bt526 => ((laws_eqPieceS.f k bt526.1 bt517.1).bind fun t530 => (if t530 = true then (laws_FnExactAddPiece.j0 k l0 a1 bt517.1 bt517.2 t521 bt526.1 bt526.2 (bt526.2 != bt517.2) a2_0 a2_1) else (laws_FnExactAddPiece.j0 k l0 a1 bt517.1 bt517.2 t521 bt526.1 bt526.2 true a2_0 a2_1))))))))))))

def spec_l10Piece.f (s0_0 : List Int) (s0_1 : Int) (s0_2 : Int) : Option (Int × ByteArray × Int × Int) := (spec_l1Below.f s0_0 s0_1 s0_2 20).bind fun bt553 => ((spec_l1Below.f s0_0 bt553.2.1 bt553.2.2 7).bind fun bt556 => ((spec_Min.f 20 (wrap64 ((wrap64 (bt553.1 + 1)) + bt556.1))).bind fun t559 => (if 0 ≤ bt553.1 then (if bt553.1 ≤ t559 then (if t559 ≤ 20 then (some (bt553.1, (⟨#[84, 104, 101, 32, 113, 117, 105, 99, 107, 32, 98, 114, 111, 119, 110, 32, 102, 111, 120, 46]⟩ : ByteArray).extract (bt553.1 : Int).toNat (t559 : Int).toNat, bt556.2.1, bt556.2.2)) else (none)) else (none)) else (none))))

def spec_l10Draw.l0 : Nat → List (S44) → Int → List Int → Int → Int → Option ((List (S44)) × Int × Int)
  | 0, _, _, _, _, _ => none
  | k + 1, x3, x4, x1000, x1001, x1002 => if x4 > 0 then ((spec_l10Piece.f x1000 x1001 x1002).bind fun bt566 => ((spec_AddPiece.f k x3 20 bt566.1 bt566.2.1).bind fun bt570 => (spec_l10Draw.l0 k bt570.1 (wrap64 (x4 - 1)) x1000 bt566.2.2.1 bt566.2.2.2))) else ((spec_l1Once.f x1000 x1001 x1002 9).bind fun bt574 => (if bt574.1 = true then ((spec_l10Piece.f x1000 bt574.2.1 bt574.2.2).bind fun bt577 => (if x3.length < 5864062014805 then (some ((x3 ++ [(⟨bt577.1, bt577.2.1⟩ : S44)]), bt577.2.2.1, bt577.2.2.2)) else (none))) else (some (x3, bt574.2.1, bt574.2.2))))

def spec_l10Draw.f (k : Nat) (s0_0 : List Int) (s0_1 : Int) (s0_2 : Int) : Option ((List (S44)) × Int × Int) := (spec_l1Below.f s0_0 s0_1 s0_2 5).bind fun bt563 => (spec_l10Draw.l0 k (([] : List (S44))) bt563.1 s0_0 bt563.2.1 bt563.2.2)

def spec_DrawAddPiece.f (k : Nat) (l0 : List Int) : Option ((List (S44)) × Int × Int × ByteArray) := (spec_l1New.f k l0).bind fun bt585 => ((spec_l10Draw.f k bt585.1 bt585.2.1 bt585.2.2).bind fun bt589 => ((spec_l10Piece.f bt585.1 bt589.2.1 bt589.2.2).bind fun bt594 => ((spec_l1Below.f bt585.1 bt594.2.2.1 bt594.2.2.2 6).bind fun bt599 => (if bt599.1 = 0 then ((spec_l1Int.f bt585.1 bt599.2.1 bt599.2.2 (([20, 20, 20, 15] : List Int))).bind fun bt605 => (some (bt589.1, bt605.1, bt594.1, (⟨#[122, 122]⟩ : ByteArray)))) else (if bt599.1 = 1 then ((spec_l1Odd.f bt585.1 bt599.2.1 bt599.2.2).bind fun bt608 => ((spec_l1Int.f bt585.1 bt608.2.1 bt608.2.2 (([20, 20, 20, 15] : List Int))).bind fun bt614 => (some (bt589.1, bt614.1, bt608.1, bt594.2.1)))) else ((spec_l1Int.f bt585.1 bt599.2.1 bt599.2.2 (([20, 20, 20, 15] : List Int))).bind fun bt620 => (some (bt589.1, bt620.1, bt594.1, bt594.2.1))))))))

def impl_ReadPieces.l0 : Nat → List (S44) → Int → Int → Int → Int → Option (ByteArray × Bool)
  | 0, _, _, _, _, _ => none
  | k + 1, x13, x14, x15, x624000, x624001 => if x15 < x14 then (if 0 ≤ x15 then (if x15 < (x13.length : Int) then (if ((rd_T44 x13 x15).f0) ≤ x624000 then (if x624001 ≤ (wrap64 (((rd_T44 x13 x15).f0) + (((rd_T44 x13 x15).f1).size : Int))) then (if 0 ≤ (wrap64 (x624000 - ((rd_T44 x13 x15).f0))) then (if (wrap64 (x624000 - ((rd_T44 x13 x15).f0))) ≤ (wrap64 (x624001 - ((rd_T44 x13 x15).f0))) then (if (wrap64 (x624001 - ((rd_T44 x13 x15).f0))) ≤ (((rd_T44 x13 x15).f1).size : Int) then (some (((rd_T44 x13 x15).f1).extract ((wrap64 (x624000 - ((rd_T44 x13 x15).f0))) : Int).toNat ((wrap64 (x624001 - ((rd_T44 x13 x15).f0))) : Int).toNat, true)) else (none)) else (none)) else (none)) else (impl_ReadPieces.l0 k x13 x14 (wrap64 (x15 + 1)) x624000 x624001)) else (impl_ReadPieces.l0 k x13 x14 (wrap64 (x15 + 1)) x624000 x624001)) else (none)) else (none)) else (some ((⟨#[]⟩ : ByteArray), false))

def impl_ReadPieces.f (k : Nat) (l0 : List (S44)) (a1_0 : Int) (a1_1 : Int) : Option (ByteArray × Bool) := if a1_0 ≥ a1_1 then (some ((⟨#[]⟩ : ByteArray), true)) else (impl_ReadPieces.l0 k l0 (l0.length : Int) 0 a1_0 a1_1)

def laws_samePieces.l0 : Nat → List (S44) → List (S44) → Int → Option (Bool)
  | 0, _, _, _ => none
  | k + 1, x0, x1, x5 => if x5 < (x0.length : Int) then (if 0 ≤ x5 then (if x5 < (x1.length : Int) then (if (!(((rd_T44 x0 x5).f0) == ((rd_T44 x1 x5).f0)) || (!((((rd_T44 x0 x5).f1).toList) == (((rd_T44 x1 x5).f1).toList)))) = true then (some false) else (laws_samePieces.l0 k x0 x1 (wrap64 (x5 + 1)))) else (none)) else (none)) else (some true)

def laws_samePieces.f (k : Nat) (l0 : List (S44)) (l1 : List (S44)) : Option (Bool) := if (l0.length : Int) = (l1.length : Int) then (laws_samePieces.l0 k l0 l1 0) else (some false)

def impl_IsWhole.f (k : Nat) (l0 : List (S44)) (a1 : Int) : Option (Bool) := (impl_SpansOf.f k l0).bind fun t628 => ((impl_CoversSpan.f t628 0 a1).bind fun t631 => (some t631))

mutual
def laws_FnPieces.j0 : Nat → List (S44) → Int → List (S44) → Bool → Int → ByteArray → Option (Bool)
  | 0, _, _, _, _, _, _ => none
  | k + 1, x3, x4, x6, x72, x640000, x640001 => if x72 = true then (some false) else (laws_FnPieces.l0 k x3 x4 x6 0 x640000 x640001)
def laws_FnPieces.l0 : Nat → List (S44) → Int → List (S44) → Int → Int → ByteArray → Option (Bool)
  | 0, _, _, _, _, _, _ => none
  | k + 1, x3, x4, x6, x10, x640000, x640001 => if x10 < (x3.length : Int) then (if 0 ≤ x10 then ((impl_ReadPieces.f k x6 ((rd_T44 x3 x10).f0) (wrap64 (((rd_T44 x3 x10).f0) + (((rd_T44 x3 x10).f1).size : Int)))).bind fun bt654 => (if bt654.2 = true then (if bt654.1.toList = ((rd_T44 x3 x10).f1).toList then (laws_FnPieces.l0 k x3 x4 x6 (wrap64 (x10 + 1)) x640000 x640001) else (some false)) else (some false))) else (none)) else ((impl_AddPiece.f k ([] : List (S44)) x4 x640000 x640001).bind fun bt657 => (laws_FnPieces.l1 k x3 x4 x6 bt657.1 bt657.2 0))
def laws_FnPieces.j3 : Nat → Int → List (S44) → List (S44) → Bool → Option (Bool)
  | 0, _, _, _, _ => none
  | k + 1, x4, x6, x13, x14 => if x14 = true then ((laws_samePieces.f k x13 x6).bind fun t666 => (laws_FnPieces.j4 k x4 x6 (!t666))) else (laws_FnPieces.j4 k x4 x6 false)
def laws_FnPieces.j4 : Nat → Int → List (S44) → Bool → Option (Bool)
  | 0, _, _, _ => none
  | k + 1, x4, x6, x144 => if x144 = true then (some false) else ((impl_IsWhole.f k x6 x4).bind fun t667 => ((impl_SpansOf.f k x6).bind fun t668 => ((impl_SpanSize.f k t668).bind fun t671 => (some (t667 == (t671 == x4))))))
def laws_FnPieces.l1 : Nat → List (S44) → Int → List (S44) → List (S44) → Bool → Int → Option (Bool)
  | 0, _, _, _, _, _, _ => none
  | k + 1, x3, x4, x6, x13, x14, x15 => if x15 < (x3.length : Int) then (if x14 = true then (if 0 ≤ x15 then ((impl_AddPiece.f k x13 x4 ((rd_T44 x3 x15).f0) ((rd_T44 x3 x15).f1)).bind fun bt662 => (laws_FnPieces.l1 k x3 x4 x6 bt662.1 bt662.2 (wrap64 (x15 + 1)))) else (none)) else (laws_FnPieces.j3 k x4 x6 x13 x14)) else (laws_FnPieces.j3 k x4 x6 x13 x14)
end

def laws_FnPieces.f (k : Nat) (l0 : List Int) : Option (Bool) := (laws_big.f l0).bind fun t632 => (if t632 = true then (some true) else ((spec_DrawAddPiece.f k l0).bind fun bt633 => ((impl_AddPiece.f k bt633.1 bt633.2.1 bt633.2.2.1 bt633.2.2.2).bind fun bt640 => (if bt640.2 = true then ((impl_ReadPieces.f k bt640.1 bt633.2.2.1 (wrap64 (bt633.2.2.1 + (bt633.2.2.2.size : Int)))).bind fun bt644 => (if bt644.2 = true then (if bt644.1.toList = bt633.2.2.2.toList then ((spec_ArePieces.f k bt640.1 bt633.2.1).bind fun t646 => (if t646 = true then ((impl_SpansOf.f k bt640.1).bind fun t647 => ((impl_SpanSize.f k t647).bind fun t650 => (laws_FnPieces.j0 k bt633.1 bt633.2.1 bt640.1 (decide (t650 > bt633.2.1)) bt633.2.2.1 bt633.2.2.2))) else (laws_FnPieces.j0 k bt633.1 bt633.2.1 bt640.1 true bt633.2.2.1 bt633.2.2.2))) else (laws_FnPieces.j0 k bt633.1 bt633.2.1 bt640.1 true bt633.2.2.1 bt633.2.2.2)) else (laws_FnPieces.j0 k bt633.1 bt633.2.1 bt640.1 true bt633.2.2.1 bt633.2.2.2))) else (some ((bt640.1.length : Int) == (bt633.1.length : Int)))))))

end Go.Proofs.Yteahdfibipalkaa.G

namespace Go.Proofs.Yteahdfibipalkaa.G
open Go.RowKit Go.Proofs.YteahdfibipalkaaW.PrintWords Go.Proofs.YteahdfibipalkaaW.PrintLast Go.Proofs.YteahdfibipalkaaW.PrintMore
attribute [local go_sem] max2_int min2_int max_two min_two max_three min_three max_four min_four   -- for this text's walks alone
set_option linter.unusedVariables false
set_option linter.unusedSimpArgs false



def errW : Option Int → Value
 | none => .nilIface
 | some c => .iface 0 (.int .i64 c)
theorem errW_none : errW none = .nilIface := rfl
theorem errW_some (c : Int) : errW (some c) = .iface 0 (.int .i64 c) := rfl

theorem zB { a b : Prop} (x : a) (h : a → b := by intro  z_; repeat (first | (with_reducible first | exact z_ | apply below_alloc | apply pw_below_drewN | apply below_drew1) | exact z_)) : b := h  x
theorem zB1 {s0 a b : Prop} (y0_ : s0) (x : a) (h : s0 → a → b := by intro y0_ z_; repeat (first | (with_reducible first | exact z_ | apply below_alloc | apply pw_below_drewN | apply below_drew1 | refine below_set ?_ y0_) | exact z_)) : b := h y0_ x
theorem zB2 {s0 s1 a b : Prop} (y0_ : s0) (y1_ : s1) (x : a) (h : s0 → s1 → a → b := by intro y0_ y1_ z_; repeat (first | (with_reducible first | exact z_ | apply below_alloc | apply pw_below_drewN | apply below_drew1 | refine below_set ?_ y0_ | refine below_set ?_ y1_) | exact z_)) : b := h y0_ y1_ x
theorem zB3 {s0 s1 s2 a b : Prop} (y0_ : s0) (y1_ : s1) (y2_ : s2) (x : a) (h : s0 → s1 → s2 → a → b := by intro y0_ y1_ y2_ z_; repeat (first | (with_reducible first | exact z_ | apply below_alloc | apply pw_below_drewN | apply below_drew1 | refine below_set ?_ y0_ | refine below_set ?_ y1_ | refine below_set ?_ y2_) | exact z_)) : b := h y0_ y1_ y2_ x
theorem zB4 {s0 s1 s2 s3 a b : Prop} (y0_ : s0) (y1_ : s1) (y2_ : s2) (y3_ : s3) (x : a) (h : s0 → s1 → s2 → s3 → a → b := by intro y0_ y1_ y2_ y3_ z_; repeat (first | (with_reducible first | exact z_ | apply below_alloc | apply pw_below_drewN | apply below_drew1 | refine below_set ?_ y0_ | refine below_set ?_ y1_ | refine below_set ?_ y2_ | refine below_set ?_ y3_) | exact z_)) : b := h y0_ y1_ y2_ y3_ x
theorem zB5 {s0 s1 s2 s3 s4 a b : Prop} (y0_ : s0) (y1_ : s1) (y2_ : s2) (y3_ : s3) (y4_ : s4) (x : a) (h : s0 → s1 → s2 → s3 → s4 → a → b := by intro y0_ y1_ y2_ y3_ y4_ z_; repeat (first | (with_reducible first | exact z_ | apply below_alloc | apply pw_below_drewN | apply below_drew1 | refine below_set ?_ y0_ | refine below_set ?_ y1_ | refine below_set ?_ y2_ | refine below_set ?_ y3_ | refine below_set ?_ y4_) | exact z_)) : b := h y0_ y1_ y2_ y3_ y4_ x
theorem zP {a b : Prop} (x : a) (h : a → b := by intro z_; (with_reducible repeat (first | refine blk_drewN ?_ _ | refine blk_drew ?_ | refine blk_alloc ?_ _)); exact z_) : b := h x
theorem zR {a b : Prop} (x : a) (h : a → b := by intro z_; (with_reducible repeat (first | apply Kd.R_alloc | apply Kd.R_drewN | apply Kd.R_drew)); exact z_) : b := h x
theorem zRm {α : Type} {d : Kd α} {e : Nat} {w w' : World} {base : Nat} {ok ok' : Nat → Prop} {v : Value} {xs : List α} (x : Kd.R d e w base ok v xs) (hk : ∀ k, ok k → ok' k) (h : Kd.R d e w base ok v xs → Kd.R d e w' base ok v xs := by intro z_; (with_reducible repeat (first | apply Kd.R_alloc | apply Kd.R_drewN | apply Kd.R_drew)); exact z_) : Kd.R d e w' base ok' v xs := Kd.R_mono (h x) hk
theorem zN {a b : Prop} (x : a) (h : a → b := by intro z_; (with_reducible repeat (first | apply Kd.N_alloc | apply Kd.N_drewN | apply Kd.N_drew)); exact z_) : b := h x
theorem zV {a b : Prop} (x : a) (h : a → b := by intro z_; (with_reducible repeat (first | apply Kd.V_alloc | apply Kd.V_drewN | apply Kd.V_drew)); exact z_) : b := h x
theorem zC {a b : Prop} (x : a) (h : a → b := by intro z_; repeat (first | exact z_ | (with_reducible refine Kd.C_alloc ?_ _) | (with_reducible refine Kd.C_drewN ?_ _) | (with_reducible refine Kd.C_drew ?_))) : b := h x
theorem zK {a b : Prop} (x : a) (h : a → b := by intro z_; repeat (first | (with_reducible first | exact z_ | apply Kept.alloc | apply Kept.drewN | apply Kept.drew) | exact z_)) : b := h x
theorem zU {a b : Prop} (x : a) (h : a → b := by intro z_; repeat (first | (with_reducible first | exact z_ | apply KeepBut.set_ | apply keep_drewN | apply keep_drew | apply keep_alloc) | exact z_)) : b := h x
theorem zU1 {s a b : Prop} (y : s) (x : a) (h : s → a → b := by intro y_ z_; repeat (first | (with_reducible first | exact z_ | apply KeepBut.set_ | apply keep_drewN | apply keep_drew | apply keep_alloc | refine keep_far ?_ y_ _) | exact z_)) : b := h y x
theorem zU2 {s t a b : Prop} (y : s) (u : t) (x : a) (h : s → t → a → b := by intro y_ u_ z_; repeat (first | (with_reducible first | exact z_ | apply KeepBut.set_ | apply keep_drewN | apply keep_drew | apply keep_alloc | refine keep_far ?_ y_ _ | refine keep_far ?_ u_ _) | exact z_)) : b := h y u x
theorem zD {p : Prop} [Decidable p] (h : decide p = true := by first | (with_reducible assumption) | assumption) : p := of_decide_eq_true h
theorem zE {p : Prop} (h : p := by first | rfl | (simp [errW_none, errW_some] <;> rfl) | (simp [*, errW_none, errW_some] <;> rfl)) : p := h
theorem zS {p : Prop} (h : p := by first | rfl | (simp; done) | (simp [*]; done)) : p := h
theorem zW {w w' : World} (h : Drawn0 w w' := by repeat (first | exact Drawn0.refl _ | apply Drawn0.step)) : Drawn0 w w' := h
theorem zH {α : Type} {y t : α} {a b : Prop} (e : y = t) (H : a) (h : y = t → a → b := by intro hy_ H_; first | (rw [hy_]; with_reducible exact H_) | (have H2_ := (Option.bind_some _ _).symm.trans H_; rw [hy_]; with_reducible exact H2_) | (have H2_ := (Option.bind_some _ _).symm.trans H_; with_reducible exact H2_) | with_reducible exact H_ | (rw [hy_]; exact H_) | exact H_) : b := h e H
theorem zG {P : Program} {ops : Array Oper} {Q : Exit → Act → World → Prop} {rest : List Oper} {oi : Oper} {a : Act} {w : World} (N : Option Tmp) {f : FuncId} {fn : Func} {xs_ : Array Operand} {ts : Array TypeId} (hf : P.funcs[f]? = some fn) (args : Array Value)
    (h : Calls P f args w fun e w' => ∃ v, e = .returned v ∧ wpList P ops Q rest (a.put N v) w')
    (hN : oi.dst = N := by rfl) (hg : oi.guard = none := by rfl) (h1 : (fn.name == "runtime.NumGoroutine") = false := by kernel_rfl) (h2 : fn.body.isSome = true := by rfl)
    (ho : oi.op = .call { callee := .value (.func f), args := xs_, argTypes := ts } := by rfl)
    (ha : Array.map a.eval xs_ = args := by (try simp only [List.map_toArray, List.map_cons, List.map_nil]); first | done | rfl | (simp only [List.length_drop, List.length_take]; rfl)) : wpList P ops Q (oi :: rest) a w := goesL_ N hN hg hf h1 h2 args ho ha h
def ba : Nat → Nat → List Bool
  | 0, _ => []
  | n + 1, m => (m % 2 == 1) :: ba n (m / 2)
theorem zq {P : Program} {ops : Array Oper} {Q : Exit → Act → World → Prop} {md : Region.Mode} {S : World → Prop} {ds : List Nat} {oi : Oper} {v : Value} {fuel : Nat} {l : Array Bool} {a : Act} {w : World} {T : Bool × List (List Nat × List Nat)} {a' : Act} (i : Nat) (N : Option Tmp) (l' : Array Bool)
    (hT : Aside0 (rtab md ops = T)) (k : wpAnyLast P md ops Q S ds fuel l' a' w) (h1 : ops[i]? = some oi := by rfl) (h2 : oi.dst = N := by rfl) (h3 : anyT T l.toList l'.toList i = true := by kernel_rfl) (h4 : ∀ c a w, Q (.panic c) (a.put oi.dst v) w → Q (.panic c) a w := by exact fun _ _ _ h => h)
    (h5 : Yields P ops oi v a := by refine Or.inl ⟨by rfl, ?_⟩; intro w'; go_simp; with_reducible rfl) (h6 : a.put N v = a' := by simp only [Act.put, List.setIfInBounds_toArray, List.set_cons_zero, List.set_cons_succ, i64_w, i32_w]; rfl) : wpAnyLast P md ops Q S ds (fuel + 1) l a w := pure_ l' h1 h2 (any_of hT.out h3) h4 h5 h6 k
theorem zu {P : Program} {ops : Array Oper} {Q : Exit → Act → World → Prop} {md : Region.Mode} {S : World → Prop} {ds : List Nat} {oi : Oper} {fuel : Nat} {l : Array Bool} {a : Act} {w : World} {T : Bool × List (List Nat × List Nat)} {a' : Act} (i : Nat) (N : Option Tmp) (l' : Array Bool)
    (hT : Aside0 (rtab md ops = T)) (k : wpAnyLast P md ops Q S ds fuel l' a' w) (h1 : ops[i]? = some oi := by rfl) (h2 : oi.dst = N := by rfl) (h3 : anyT T l.toList l'.toList i = true := by kernel_rfl) (h4 : ∀ c a w, Q (.panic c) (a.put oi.dst undef) w → Q (.panic c) a w := by exact fun _ _ _ h => h)
    (h5 : Yields P ops oi undef a := by exact Or.inr ⟨by rfl, rfl⟩) (h6 : a.put N undef = a' := by simp only [Act.put, List.setIfInBounds_toArray, List.set_cons_zero, List.set_cons_succ, i64_w, i32_w]; rfl) : wpAnyLast P md ops Q S ds (fuel + 1) l a w := pure_ l' h1 h2 (any_of hT.out h3) h4 h5 h6 k
theorem zt1 {P : Program} {ops : Array Oper} {Q : Exit → Act → World → Prop} {md : Region.Mode} {S : World → Prop} {ds : List Nat} {oi : Oper} {v : Value} {fuel : Nat} {l : Array Bool} {a : Act} {w : World} {T : Bool × List (List Nat × List Nat)} {B : List Nat} {a' : Act} (i : Nat) (N : Option Tmp) (l' : Array Bool)
    (hT : Aside0 (rtab md ops = T)) (hB : Aside0 (waitsOk T.snd B = true)) (hS : S w) (k : wpAnyLast P md ops Q S ds fuel l' a' w) (h1 : ops[i]? = some oi := by rfl) (h2 : oi.dst = N := by rfl) (h3 : takeW T B ds l.toList l'.toList i = true := by kernel_rfl) (h4 : ∀ c a w, Q (.panic c) (a.put oi.dst v) w → Q (.panic c) a w := by exact fun _ _ _ h => h)
    (h5 : YieldsIf P ops S oi v a := by refine Or.inl ⟨by rfl, ?_⟩; rintro w' s0; go_simp; with_reducible rfl) (h6 : a.put N v = a' := by simp only [Act.put, List.setIfInBounds_toArray, List.set_cons_zero, List.set_cons_succ, i64_w, i32_w]; rfl) : wpAnyLast P md ops Q S ds (fuel + 1) l a w := take_ l' h1 h2 (take_ofW hT.out hB.out h3) h4 h5 hS h6 k
theorem zt2 {P : Program} {ops : Array Oper} {Q : Exit → Act → World → Prop} {md : Region.Mode} {S : World → Prop} {ds : List Nat} {oi : Oper} {v : Value} {fuel : Nat} {l : Array Bool} {a : Act} {w : World} {T : Bool × List (List Nat × List Nat)} {B : List Nat} {a' : Act} (i : Nat) (N : Option Tmp) (l' : Array Bool)
    (hT : Aside0 (rtab md ops = T)) (hB : Aside0 (waitsOk T.snd B = true)) (hS : S w) (k : wpAnyLast P md ops Q S ds fuel l' a' w) (h1 : ops[i]? = some oi := by rfl) (h2 : oi.dst = N := by rfl) (h3 : takeW T B ds l.toList l'.toList i = true := by kernel_rfl) (h4 : ∀ c a w, Q (.panic c) (a.put oi.dst v) w → Q (.panic c) a w := by exact fun _ _ _ h => h)
    (h5 : YieldsIf P ops S oi v a := by refine Or.inl ⟨by rfl, ?_⟩; rintro w' ⟨s0, s1⟩; go_simp; with_reducible rfl) (h6 : a.put N v = a' := by simp only [Act.put, List.setIfInBounds_toArray, List.set_cons_zero, List.set_cons_succ, i64_w, i32_w]; rfl) : wpAnyLast P md ops Q S ds (fuel + 1) l a w := take_ l' h1 h2 (take_ofW hT.out hB.out h3) h4 h5 hS h6 k
theorem zt3 {P : Program} {ops : Array Oper} {Q : Exit → Act → World → Prop} {md : Region.Mode} {S : World → Prop} {ds : List Nat} {oi : Oper} {v : Value} {fuel : Nat} {l : Array Bool} {a : Act} {w : World} {T : Bool × List (List Nat × List Nat)} {B : List Nat} {a' : Act} (i : Nat) (N : Option Tmp) (l' : Array Bool)
    (hT : Aside0 (rtab md ops = T)) (hB : Aside0 (waitsOk T.snd B = true)) (hS : S w) (k : wpAnyLast P md ops Q S ds fuel l' a' w) (h1 : ops[i]? = some oi := by rfl) (h2 : oi.dst = N := by rfl) (h3 : takeW T B ds l.toList l'.toList i = true := by kernel_rfl) (h4 : ∀ c a w, Q (.panic c) (a.put oi.dst v) w → Q (.panic c) a w := by exact fun _ _ _ h => h)
    (h5 : YieldsIf P ops S oi v a := by refine Or.inl ⟨by rfl, ?_⟩; rintro w' ⟨s0, s1, s2⟩; go_simp; with_reducible rfl) (h6 : a.put N v = a' := by simp only [Act.put, List.setIfInBounds_toArray, List.set_cons_zero, List.set_cons_succ, i64_w, i32_w]; rfl) : wpAnyLast P md ops Q S ds (fuel + 1) l a w := take_ l' h1 h2 (take_ofW hT.out hB.out h3) h4 h5 hS h6 k
theorem zt4 {P : Program} {ops : Array Oper} {Q : Exit → Act → World → Prop} {md : Region.Mode} {S : World → Prop} {ds : List Nat} {oi : Oper} {v : Value} {fuel : Nat} {l : Array Bool} {a : Act} {w : World} {T : Bool × List (List Nat × List Nat)} {B : List Nat} {a' : Act} (i : Nat) (N : Option Tmp) (l' : Array Bool)
    (hT : Aside0 (rtab md ops = T)) (hB : Aside0 (waitsOk T.snd B = true)) (hS : S w) (k : wpAnyLast P md ops Q S ds fuel l' a' w) (h1 : ops[i]? = some oi := by rfl) (h2 : oi.dst = N := by rfl) (h3 : takeW T B ds l.toList l'.toList i = true := by kernel_rfl) (h4 : ∀ c a w, Q (.panic c) (a.put oi.dst v) w → Q (.panic c) a w := by exact fun _ _ _ h => h)
    (h5 : YieldsIf P ops S oi v a := by refine Or.inl ⟨by rfl, ?_⟩; rintro w' ⟨s0, s1, s2, s3⟩; go_simp; with_reducible rfl) (h6 : a.put N v = a' := by simp only [Act.put, List.setIfInBounds_toArray, List.set_cons_zero, List.set_cons_succ, i64_w, i32_w]; rfl) : wpAnyLast P md ops Q S ds (fuel + 1) l a w := take_ l' h1 h2 (take_ofW hT.out hB.out h3) h4 h5 hS h6 k
theorem zt5 {P : Program} {ops : Array Oper} {Q : Exit → Act → World → Prop} {md : Region.Mode} {S : World → Prop} {ds : List Nat} {oi : Oper} {v : Value} {fuel : Nat} {l : Array Bool} {a : Act} {w : World} {T : Bool × List (List Nat × List Nat)} {B : List Nat} {a' : Act} (i : Nat) (N : Option Tmp) (l' : Array Bool)
    (hT : Aside0 (rtab md ops = T)) (hB : Aside0 (waitsOk T.snd B = true)) (hS : S w) (k : wpAnyLast P md ops Q S ds fuel l' a' w) (h1 : ops[i]? = some oi := by rfl) (h2 : oi.dst = N := by rfl) (h3 : takeW T B ds l.toList l'.toList i = true := by kernel_rfl) (h4 : ∀ c a w, Q (.panic c) (a.put oi.dst v) w → Q (.panic c) a w := by exact fun _ _ _ h => h)
    (h5 : YieldsIf P ops S oi v a := by refine Or.inl ⟨by rfl, ?_⟩; rintro w' ⟨s0, s1, s2, s3, s4⟩; go_simp; with_reducible rfl) (h6 : a.put N v = a' := by simp only [Act.put, List.setIfInBounds_toArray, List.set_cons_zero, List.set_cons_succ, i64_w, i32_w]; rfl) : wpAnyLast P md ops Q S ds (fuel + 1) l a w := take_ l' h1 h2 (take_ofW hT.out hB.out h3) h4 h5 hS h6 k
theorem zt6 {P : Program} {ops : Array Oper} {Q : Exit → Act → World → Prop} {md : Region.Mode} {S : World → Prop} {ds : List Nat} {oi : Oper} {v : Value} {fuel : Nat} {l : Array Bool} {a : Act} {w : World} {T : Bool × List (List Nat × List Nat)} {B : List Nat} {a' : Act} (i : Nat) (N : Option Tmp) (l' : Array Bool)
    (hT : Aside0 (rtab md ops = T)) (hB : Aside0 (waitsOk T.snd B = true)) (hS : S w) (k : wpAnyLast P md ops Q S ds fuel l' a' w) (h1 : ops[i]? = some oi := by rfl) (h2 : oi.dst = N := by rfl) (h3 : takeW T B ds l.toList l'.toList i = true := by kernel_rfl) (h4 : ∀ c a w, Q (.panic c) (a.put oi.dst v) w → Q (.panic c) a w := by exact fun _ _ _ h => h)
    (h5 : YieldsIf P ops S oi v a := by refine Or.inl ⟨by rfl, ?_⟩; rintro w' ⟨s0, s1, s2, s3, s4, s5⟩; go_simp; with_reducible rfl) (h6 : a.put N v = a' := by simp only [Act.put, List.setIfInBounds_toArray, List.set_cons_zero, List.set_cons_succ, i64_w, i32_w]; rfl) : wpAnyLast P md ops Q S ds (fuel + 1) l a w := take_ l' h1 h2 (take_ofW hT.out hB.out h3) h4 h5 hS h6 k
theorem zt7 {P : Program} {ops : Array Oper} {Q : Exit → Act → World → Prop} {md : Region.Mode} {S : World → Prop} {ds : List Nat} {oi : Oper} {v : Value} {fuel : Nat} {l : Array Bool} {a : Act} {w : World} {T : Bool × List (List Nat × List Nat)} {B : List Nat} {a' : Act} (i : Nat) (N : Option Tmp) (l' : Array Bool)
    (hT : Aside0 (rtab md ops = T)) (hB : Aside0 (waitsOk T.snd B = true)) (hS : S w) (k : wpAnyLast P md ops Q S ds fuel l' a' w) (h1 : ops[i]? = some oi := by rfl) (h2 : oi.dst = N := by rfl) (h3 : takeW T B ds l.toList l'.toList i = true := by kernel_rfl) (h4 : ∀ c a w, Q (.panic c) (a.put oi.dst v) w → Q (.panic c) a w := by exact fun _ _ _ h => h)
    (h5 : YieldsIf P ops S oi v a := by refine Or.inl ⟨by rfl, ?_⟩; rintro w' ⟨s0, s1, s2, s3, s4, s5, s6⟩; go_simp; with_reducible rfl) (h6 : a.put N v = a' := by simp only [Act.put, List.setIfInBounds_toArray, List.set_cons_zero, List.set_cons_succ, i64_w, i32_w]; rfl) : wpAnyLast P md ops Q S ds (fuel + 1) l a w := take_ l' h1 h2 (take_ofW hT.out hB.out h3) h4 h5 hS h6 k
theorem zt8 {P : Program} {ops : Array Oper} {Q : Exit → Act → World → Prop} {md : Region.Mode} {S : World → Prop} {ds : List Nat} {oi : Oper} {v : Value} {fuel : Nat} {l : Array Bool} {a : Act} {w : World} {T : Bool × List (List Nat × List Nat)} {B : List Nat} {a' : Act} (i : Nat) (N : Option Tmp) (l' : Array Bool)
    (hT : Aside0 (rtab md ops = T)) (hB : Aside0 (waitsOk T.snd B = true)) (hS : S w) (k : wpAnyLast P md ops Q S ds fuel l' a' w) (h1 : ops[i]? = some oi := by rfl) (h2 : oi.dst = N := by rfl) (h3 : takeW T B ds l.toList l'.toList i = true := by kernel_rfl) (h4 : ∀ c a w, Q (.panic c) (a.put oi.dst v) w → Q (.panic c) a w := by exact fun _ _ _ h => h)
    (h5 : YieldsIf P ops S oi v a := by refine Or.inl ⟨by rfl, ?_⟩; rintro w' ⟨s0, s1, s2, s3, s4, s5, s6, s7⟩; go_simp; with_reducible rfl) (h6 : a.put N v = a' := by simp only [Act.put, List.setIfInBounds_toArray, List.set_cons_zero, List.set_cons_succ, i64_w, i32_w]; rfl) : wpAnyLast P md ops Q S ds (fuel + 1) l a w := take_ l' h1 h2 (take_ofW hT.out hB.out h3) h4 h5 hS h6 k
theorem zt9 {P : Program} {ops : Array Oper} {Q : Exit → Act → World → Prop} {md : Region.Mode} {S : World → Prop} {ds : List Nat} {oi : Oper} {v : Value} {fuel : Nat} {l : Array Bool} {a : Act} {w : World} {T : Bool × List (List Nat × List Nat)} {B : List Nat} {a' : Act} (i : Nat) (N : Option Tmp) (l' : Array Bool)
    (hT : Aside0 (rtab md ops = T)) (hB : Aside0 (waitsOk T.snd B = true)) (hS : S w) (k : wpAnyLast P md ops Q S ds fuel l' a' w) (h1 : ops[i]? = some oi := by rfl) (h2 : oi.dst = N := by rfl) (h3 : takeW T B ds l.toList l'.toList i = true := by kernel_rfl) (h4 : ∀ c a w, Q (.panic c) (a.put oi.dst v) w → Q (.panic c) a w := by exact fun _ _ _ h => h)
    (h5 : YieldsIf P ops S oi v a := by refine Or.inl ⟨by rfl, ?_⟩; rintro w' ⟨s0, s1, s2, s3, s4, s5, s6, s7, s8⟩; go_simp; with_reducible rfl) (h6 : a.put N v = a' := by simp only [Act.put, List.setIfInBounds_toArray, List.set_cons_zero, List.set_cons_succ, i64_w, i32_w]; rfl) : wpAnyLast P md ops Q S ds (fuel + 1) l a w := take_ l' h1 h2 (take_ofW hT.out hB.out h3) h4 h5 hS h6 k
theorem zt10 {P : Program} {ops : Array Oper} {Q : Exit → Act → World → Prop} {md : Region.Mode} {S : World → Prop} {ds : List Nat} {oi : Oper} {v : Value} {fuel : Nat} {l : Array Bool} {a : Act} {w : World} {T : Bool × List (List Nat × List Nat)} {B : List Nat} {a' : Act} (i : Nat) (N : Option Tmp) (l' : Array Bool)
    (hT : Aside0 (rtab md ops = T)) (hB : Aside0 (waitsOk T.snd B = true)) (hS : S w) (k : wpAnyLast P md ops Q S ds fuel l' a' w) (h1 : ops[i]? = some oi := by rfl) (h2 : oi.dst = N := by rfl) (h3 : takeW T B ds l.toList l'.toList i = true := by kernel_rfl) (h4 : ∀ c a w, Q (.panic c) (a.put oi.dst v) w → Q (.panic c) a w := by exact fun _ _ _ h => h)
    (h5 : YieldsIf P ops S oi v a := by refine Or.inl ⟨by rfl, ?_⟩; rintro w' ⟨s0, s1, s2, s3, s4, s5, s6, s7, s8, s9⟩; go_simp; with_reducible rfl) (h6 : a.put N v = a' := by simp only [Act.put, List.setIfInBounds_toArray, List.set_cons_zero, List.set_cons_succ, i64_w, i32_w]; rfl) : wpAnyLast P md ops Q S ds (fuel + 1) l a w := take_ l' h1 h2 (take_ofW hT.out hB.out h3) h4 h5 hS h6 k
theorem zt11 {P : Program} {ops : Array Oper} {Q : Exit → Act → World → Prop} {md : Region.Mode} {S : World → Prop} {ds : List Nat} {oi : Oper} {v : Value} {fuel : Nat} {l : Array Bool} {a : Act} {w : World} {T : Bool × List (List Nat × List Nat)} {B : List Nat} {a' : Act} (i : Nat) (N : Option Tmp) (l' : Array Bool)
    (hT : Aside0 (rtab md ops = T)) (hB : Aside0 (waitsOk T.snd B = true)) (hS : S w) (k : wpAnyLast P md ops Q S ds fuel l' a' w) (h1 : ops[i]? = some oi := by rfl) (h2 : oi.dst = N := by rfl) (h3 : takeW T B ds l.toList l'.toList i = true := by kernel_rfl) (h4 : ∀ c a w, Q (.panic c) (a.put oi.dst v) w → Q (.panic c) a w := by exact fun _ _ _ h => h)
    (h5 : YieldsIf P ops S oi v a := by refine Or.inl ⟨by rfl, ?_⟩; rintro w' ⟨s0, s1, s2, s3, s4, s5, s6, s7, s8, s9, s10⟩; go_simp; with_reducible rfl) (h6 : a.put N v = a' := by simp only [Act.put, List.setIfInBounds_toArray, List.set_cons_zero, List.set_cons_succ, i64_w, i32_w]; rfl) : wpAnyLast P md ops Q S ds (fuel + 1) l a w := take_ l' h1 h2 (take_ofW hT.out hB.out h3) h4 h5 hS h6 k
theorem zt12 {P : Program} {ops : Array Oper} {Q : Exit → Act → World → Prop} {md : Region.Mode} {S : World → Prop} {ds : List Nat} {oi : Oper} {v : Value} {fuel : Nat} {l : Array Bool} {a : Act} {w : World} {T : Bool × List (List Nat × List Nat)} {B : List Nat} {a' : Act} (i : Nat) (N : Option Tmp) (l' : Array Bool)
    (hT : Aside0 (rtab md ops = T)) (hB : Aside0 (waitsOk T.snd B = true)) (hS : S w) (k : wpAnyLast P md ops Q S ds fuel l' a' w) (h1 : ops[i]? = some oi := by rfl) (h2 : oi.dst = N := by rfl) (h3 : takeW T B ds l.toList l'.toList i = true := by kernel_rfl) (h4 : ∀ c a w, Q (.panic c) (a.put oi.dst v) w → Q (.panic c) a w := by exact fun _ _ _ h => h)
    (h5 : YieldsIf P ops S oi v a := by refine Or.inl ⟨by rfl, ?_⟩; rintro w' ⟨s0, s1, s2, s3, s4, s5, s6, s7, s8, s9, s10, s11⟩; go_simp; with_reducible rfl) (h6 : a.put N v = a' := by simp only [Act.put, List.setIfInBounds_toArray, List.set_cons_zero, List.set_cons_succ, i64_w, i32_w]; rfl) : wpAnyLast P md ops Q S ds (fuel + 1) l a w := take_ l' h1 h2 (take_ofW hT.out hB.out h3) h4 h5 hS h6 k
theorem zM {p : Prop} (h : p) : Aside0 p := ⟨h⟩
theorem zA {p : Prop} (h : Aside0 p) : p := h.out
theorem info3 : (Try.prog.info? 3).map (fun i => (i.zero, i.size, i.bytes)) = some (some (.int .i64 0), 1, 8) := by kernel_rfl
theorem info5 : (Try.prog.info? 5).map (fun i => (i.zero, i.size, i.bytes)) = some (some (.int .u8 0), 1, 1) := by kernel_rfl
theorem info26 : (Try.prog.info? 26).map (fun i => (i.zero, i.size, i.bytes)) = some (some (.agg #[(.int .i64 0), (.int .i64 0)]), 2, 16) := by kernel_rfl
theorem info44 : (Try.prog.info? 44).map (fun i => (i.zero, i.size, i.bytes)) = some (some (.agg #[(.int .i64 0), (.string ⟨#[]⟩)]), 2, 24) := by kernel_rfl
-- the values' own types
/-! #### struct type 26 -/
def k26 : Kd S26 := Kd.iso (Kd.pair (Kd.int .i64) (Kd.int .i64)) (fun x : S26 => (x.f0, x.f1))
theorem k26_open {w : World} {x : S26} {cs : List Value} (h : k26.K w x cs) : cs = [.int .i64 x.f0, .int .i64 x.f1] := by
 obtain ⟨_, _, rfl, rfl, rfl⟩ := h
 exact rfl
theorem k26_openM {w : World} {base : Nat} {ok : Nat → Prop} {x : S26} {cs : List Value} (h : k26.M w base ok x cs) : cs = [.int .i64 x.f0, .int .i64 x.f1] := by
 obtain ⟨_, _, rfl, rfl, rfl⟩ := h
 exact rfl
theorem k26_mk (w : World) (x : S26)  : k26.K w x [.int .i64 x.f0, .int .i64 x.f1] := ⟨[.int .i64 x.f0], [.int .i64 x.f1], rfl, rfl, rfl⟩
theorem k26_mkM (w : World) (base : Nat) (ok : Nat → Prop) (x : S26)  : k26.M w base ok x [.int .i64 x.f0, .int .i64 x.f1] := ⟨[.int .i64 x.f0], [.int .i64 x.f1], rfl, rfl, rfl⟩
theorem at_T26 {w : World} {A : Option Addr} {n : Nat} {xs : List S26} (h : Kd.C k26 w A n xs) (i : Int) (h0 : 0 ≤ i) (h1 : i < n) : ∃ ad , A = some ad ∧ w.cell? (ad.add (i.toNat * 2)) = some (.int .i64 (rd_T26 xs i).f0) ∧ w.cell? ⟨(ad.add (i.toNat * 2)).block, (ad.add (i.toNat * 2)).off + 1, none⟩ = some (.int .i64 (rd_T26 xs i).f1) := by
 obtain ⟨ad, c, e, _, hK, hc0⟩ := Kd.C_get h z26 i h0 h1
 have hc : ∀ j u, c[j]? = some u → w.cell? (ad.add (i.toNat * 2 + j)) = some u := hc0
 obtain rfl := k26_open hK
 exact ⟨ad, e, hc 0 _ rfl, by rw [← add_field _ _ 1 (by omega)]; exact hc 1 _ rfl⟩

/-! #### struct type 37 -/
def k37 : Kd S37 := Kd.iso (Kd.pair (Kd.int .i64) Kd.string) (fun x : S37 => (x.f0, x.f1))
theorem k37_open {w : World} {x : S37} {cs : List Value} (h : k37.K w x cs) : cs = [.int .i64 x.f0, .string x.f1] := by
 obtain ⟨_, _, rfl, rfl, rfl⟩ := h
 exact rfl
theorem k37_openM {w : World} {base : Nat} {ok : Nat → Prop} {x : S37} {cs : List Value} (h : k37.M w base ok x cs) : cs = [.int .i64 x.f0, .string x.f1] := by
 obtain ⟨_, _, rfl, rfl, rfl⟩ := h
 exact rfl
theorem k37_mk (w : World) (x : S37)  : k37.K w x [.int .i64 x.f0, .string x.f1] := ⟨[.int .i64 x.f0], [.string x.f1], rfl, rfl, rfl⟩
theorem k37_mkM (w : World) (base : Nat) (ok : Nat → Prop) (x : S37)  : k37.M w base ok x [.int .i64 x.f0, .string x.f1] := ⟨[.int .i64 x.f0], [.string x.f1], rfl, rfl, rfl⟩
theorem at_T37 {w : World} {A : Option Addr} {n : Nat} {xs : List S37} (h : Kd.C k37 w A n xs) (i : Int) (h0 : 0 ≤ i) (h1 : i < n) : ∃ ad , A = some ad ∧ w.cell? (ad.add (i.toNat * 2)) = some (.int .i64 (rd_T37 xs i).f0) ∧ w.cell? ⟨(ad.add (i.toNat * 2)).block, (ad.add (i.toNat * 2)).off + 1, none⟩ = some (.string (rd_T37 xs i).f1) := by
 obtain ⟨ad, c, e, _, hK, hc0⟩ := Kd.C_get h z37 i h0 h1
 have hc : ∀ j u, c[j]? = some u → w.cell? (ad.add (i.toNat * 2 + j)) = some u := hc0
 obtain rfl := k37_open hK
 exact ⟨ad, e, hc 0 _ rfl, by rw [← add_field _ _ 1 (by omega)]; exact hc 1 _ rfl⟩

/-! #### struct type 44 -/
def k44 : Kd S44 := Kd.iso (Kd.pair (Kd.int .i64) Kd.string) (fun x : S44 => (x.f0, x.f1))
theorem k44_open {w : World} {x : S44} {cs : List Value} (h : k44.K w x cs) : cs = [.int .i64 x.f0, .string x.f1] := by
 obtain ⟨_, _, rfl, rfl, rfl⟩ := h
 exact rfl
theorem k44_openM {w : World} {base : Nat} {ok : Nat → Prop} {x : S44} {cs : List Value} (h : k44.M w base ok x cs) : cs = [.int .i64 x.f0, .string x.f1] := by
 obtain ⟨_, _, rfl, rfl, rfl⟩ := h
 exact rfl
theorem k44_mk (w : World) (x : S44)  : k44.K w x [.int .i64 x.f0, .string x.f1] := ⟨[.int .i64 x.f0], [.string x.f1], rfl, rfl, rfl⟩
theorem k44_mkM (w : World) (base : Nat) (ok : Nat → Prop) (x : S44)  : k44.M w base ok x [.int .i64 x.f0, .string x.f1] := ⟨[.int .i64 x.f0], [.string x.f1], rfl, rfl, rfl⟩
theorem at_T44 {w : World} {A : Option Addr} {n : Nat} {xs : List S44} (h : Kd.C k44 w A n xs) (i : Int) (h0 : 0 ≤ i) (h1 : i < n) : ∃ ad , A = some ad ∧ w.cell? (ad.add (i.toNat * 2)) = some (.int .i64 (rd_T44 xs i).f0) ∧ w.cell? ⟨(ad.add (i.toNat * 2)).block, (ad.add (i.toNat * 2)).off + 1, none⟩ = some (.string (rd_T44 xs i).f1) := by
 obtain ⟨ad, c, e, _, hK, hc0⟩ := Kd.C_get h z44 i h0 h1
 have hc : ∀ j u, c[j]? = some u → w.cell? (ad.add (i.toNat * 2 + j)) = some u := hc0
 obtain rfl := k44_open hK
 exact ⟨ad, e, hc 0 _ rfl, by rw [← add_field _ _ 1 (by omega)]; exact hc 1 _ rfl⟩

end Go.Proofs.Yteahdfibipalkaa.G

namespace Go.Proofs.Yteahdfibipalkaa.G
open Go.RowKit Go.Proofs.YteahdfibipalkaaW.PrintWords Go.Proofs.YteahdfibipalkaaW.PrintLast Go.Proofs.YteahdfibipalkaaW.PrintMore
attribute [local go_sem] max2_int min2_int max_two min_two max_three min_three max_four min_four   -- for this text's walks alone
set_option linter.unusedVariables false
set_option linter.unusedSimpArgs false

/-! ### laws_szPiece: function 19 -/
set_option maxHeartbeats 8000000 in
set_option maxRecDepth 100000 in
theorem laws_szPiece.calls (a0_0 : Int) (a0_1 : ByteArray) (a1 : Int) (r : Int) (w : World) (h : laws_szPiece.f a0_0 a0_1 a1 = some r) :
  Calls Try.prog 19 #[.agg #[.int .i64 a0_0, .string a0_1], .int .i64 a1] w fun e w' => e = .returned (.int .i64 r) ∧ Below w.heap.size w w' := by
 have hu37 := Try.underlying37
 have HB := zM (Below.refl w.heap.size w)
 have H : (if (wrap64 (a1 - (a0_1.size : Int))) < 0 then (some (-1)) else (some (wrap64 (a1 - (a0_1.size : Int))))) = some r := h
 clear h
 by_cases c3 : (wrap64 (a1 - (a0_1.size : Int))) < 0
 ·rw [if_pos c3] at H
  have c3b0 : decide ((wrap64 (a1 - (a0_1.size : Int))) < 0) = true := decide_eq_true c3
  clear c3
  obtain rfl := Option.some.inj H
  go_enter Try.func19, Try.ntmps19
  go_wp2_with (first | ((with_reducible refine gate_dst (N := 2) rfl ?_); refine box_event ?hg (N := 2) ?hd (cs := #[.int .i64 a0_0, .string a0_1]) (t := 37) ?hr ?_; (case hd => rfl); (case hg => rfl); (case hr => first | (go_simp; done) | (go_simp; rfl)); intro gb366 hg w4 hbox hb; have n0_ := zM (below_step (zB HB.out) hb); have n1_ := zM (hbox); have n2_ := zM ((by rw [hg]; exact (below_size (zB HB.out)) : w.heap.size ≤ gb366)); have n3_ := zM ((by rw [hg]; exact (below_size (zB HB.out)) : w.heap.size ≤ gb366)); clear HB; have HB := n0_; have BK366 := n1_; have GW366 := n2_; have GE366 := n3_; clear n0_ n1_ n2_ n3_; clear hb hbox hg; have hcz5_0 : w4.cell? ⟨gb366, 0, none⟩ = some (.int .i64 a0_0) := (blk_cell BK366.out 0).trans rfl; have hcz5_1 : w4.cell? ⟨gb366, 1, none⟩ = some (.string a0_1) := (blk_cell BK366.out 1).trans rfl; have hfz5_0 := blk_frozen BK366.out 0; have hfz5_1 := blk_frozen BK366.out 1))
  go_ret
  exact ⟨zE, (zB1 GE366.out HB.out)⟩
 ·rw [if_neg c3] at H
  have c3b0 : decide ((wrap64 (a1 - (a0_1.size : Int))) < 0) = false := decide_eq_false c3
  clear c3
  obtain rfl := Option.some.inj H
  go_enter Try.func19, Try.ntmps19
  go_wp2_with (first | ((with_reducible refine gate_dst (N := 2) rfl ?_); refine box_event ?hg (N := 2) ?hd (cs := #[.int .i64 a0_0, .string a0_1]) (t := 37) ?hr ?_; (case hd => rfl); (case hg => rfl); (case hr => first | (go_simp; done) | (go_simp; rfl)); intro gb366 hg w6 hbox hb; have n0_ := zM (below_step (zB HB.out) hb); have n1_ := zM (hbox); have n2_ := zM ((by rw [hg]; exact (below_size (zB HB.out)) : w.heap.size ≤ gb366)); have n3_ := zM ((by rw [hg]; exact (below_size (zB HB.out)) : w.heap.size ≤ gb366)); clear HB; have HB := n0_; have BK366 := n1_; have GW366 := n2_; have GE366 := n3_; clear n0_ n1_ n2_ n3_; clear hb hbox hg; have hcz7_0 : w6.cell? ⟨gb366, 0, none⟩ = some (.int .i64 a0_0) := (blk_cell BK366.out 0).trans rfl; have hcz7_1 : w6.cell? ⟨gb366, 1, none⟩ = some (.string a0_1) := (blk_cell BK366.out 1).trans rfl; have hfz7_0 := blk_frozen BK366.out 0; have hfz7_1 := blk_frozen BK366.out 1))
  go_ret
  exact ⟨zE, (zB1 GE366.out HB.out)⟩

end Go.Proofs.Yteahdfibipalkaa.G

namespace Go.Proofs.Yteahdfibipalkaa.G
open Go.RowKit Go.Proofs.YteahdfibipalkaaW.PrintWords Go.Proofs.YteahdfibipalkaaW.PrintLast Go.Proofs.YteahdfibipalkaaW.PrintMore
attribute [local go_sem] max2_int min2_int max_two min_two max_three min_three max_four min_four   -- for this text's walks alone
set_option linter.unusedVariables false
set_option linter.unusedSimpArgs false

/-! ### laws_szPieceS: function 18 -/
set_option maxHeartbeats 8000000 in
set_option maxRecDepth 100000 in
theorem laws_szPieceS.calls (k : Nat) (A0 : Option Addr) (c0 : Nat) (l0 : List (S37)) (a1 : Int) (r : Int) (w : World) (hr0 : Kd.C k37 w A0 l0.length l0) (hc0 : l0.length ≤ c0) (h : laws_szPieceS.f k l0 a1 = some r) :
  Calls Try.prog 18 #[.slice A0 l0.length c0, .int .i64 a1] w fun e w' => e = .returned (.int .i64 r) ∧ Below w.heap.size w w' := by
 have hu37 := Try.underlying37
 have HR0 := zM hr0
 have HC0 := zM hc0
 clear hr0 hc0
 have HB := zM (Below.refl w.heap.size w)
 have H : (if (wrap64 (a1 - (l0.length : Int))) < 0 then (some (-1)) else (laws_szPieceS.l0 k l0 (wrap64 (a1 - (l0.length : Int))) 0)) = some r := h
 clear h
 by_cases c3 : (wrap64 (a1 - (l0.length : Int))) < 0
 ·rw [if_pos c3] at H
  have c3b0 : decide ((wrap64 (a1 - (l0.length : Int))) < 0) = true := decide_eq_true c3
  clear c3
  obtain rfl := Option.some.inj H
  go_enter Try.func18, Try.ntmps18
  go_wp2
  go_ret
  exact ⟨zE, (zB HB.out)⟩
 ·rw [if_neg c3] at H
  have c3b0 : decide ((wrap64 (a1 - (l0.length : Int))) < 0) = false := decide_eq_false c3
  clear c3
  have H' := zM H
  clear H
  go_enter Try.func18, Try.ntmps18
  go_wp2
  go_loopg [1, 5] k (fun kq v1 v5 w' => ∃ (x1_1 : Int) (x5_1 : Int), v1 = .int .i64 x1_1 ∧ v5 = .int .i64 x5_1 ∧ Aside0 (laws_szPieceS.l0 kq l0 x1_1 x5_1 = some r) ∧ Aside0 (kq ≤ k) ∧ Aside0 (Below w.heap.size w w'))
  case atStart => exact ⟨(wrap64 (a1 - (l0.length : Int))), (0), zS, zS, H', ⟨Nat.le_refl _⟩, ⟨(zB HB.out)⟩⟩
  case round =>
   clear H'
   try clear c1
   try clear p2
   try clear c3
   try clear c3b0
   obtain ⟨x1_1, x5_1, rfl, rfl, HA, HK1, HB⟩ := hrel
   cases gk with
   | zero => exact absurd HA.out (by simp [laws_szPieceS.l0])
   | succ k1 =>
    have H := HA.out
    clear HA
    simp only [laws_szPieceS.l0] at H
    by_cases c4 : x5_1 < (l0.length : Int)
    ·rw [if_pos c4] at H
     have c4b0 : decide (x5_1 < (l0.length : Int)) = true := decide_eq_true c4
     clear c4
     by_cases c5 : 0 ≤ x5_1
     ·rw [if_pos c5] at H
      have c5b0 : decide (0 ≤ x5_1) = true := decide_eq_true c5
      clear c5
      replace H := Option.bind_eq_some_iff.mp H
      obtain ⟨t368, A60, H⟩ := H
      try dsimp only at H
      have A6 := zM A60
      clear A60
      by_cases c7 : t368 < 0
      ·rw [if_pos c7] at H
       have c7b0 : decide (t368 < 0) = true := decide_eq_true c7
       clear c7
       obtain rfl := Option.some.inj H
       have p367 : 0 ≤ (x5_1 : Int) := zD
       have q367 : x5_1 < (l0.length : Int) := zD
       obtain ⟨ad367, e367, hx367_0, hx367_1⟩ := at_T37 HR0.out x5_1 p367 q367
       cases e367
       replace hx367_0 := (HB.out.cell (World.block_lt_of_cell? w _ hx367_0)).trans hx367_0
       replace hx367_1 := (HB.out.cell (World.block_lt_of_cell? w _ hx367_1)).trans hx367_1
       replace p367 := eq_true p367
       replace q367 := eq_true q367
       go_wp2_with (first | ((with_reducible refine gate_callee (f := 19) rfl ?_); refine zG (some 23) Try.func19 #[.agg #[.int .i64 ((rd_T37 l0 x5_1).f0), .string ((rd_T37 l0 x5_1).f1)], .int .i64 x1_1] ?_; (with_reducible refine (laws_szPiece.calls ((rd_T37 l0 x5_1).f0) ((rd_T37 l0 x5_1).f1) x1_1 t368 _ A6.out).mono ?_); rintro e w8 ⟨rfl, hb⟩; refine ⟨_, rfl, ?_⟩; have n0_ := zM (below_step (zB HB.out) hb); clear HB; have HB := n0_; clear n0_; (try clear hb); (try clear hb2); (try clear hk); (try clear hi)))
       go_ret
       exact ⟨zE, (zB HB.out)⟩
      ·rw [if_neg c7] at H
       have c7b0 : decide (t368 < 0) = false := decide_eq_false c7
       clear c7
       have H' := zM H
       clear H
       have p367 : 0 ≤ (x5_1 : Int) := zD
       have q367 : x5_1 < (l0.length : Int) := zD
       obtain ⟨ad367, e367, hx367_0, hx367_1⟩ := at_T37 HR0.out x5_1 p367 q367
       cases e367
       replace hx367_0 := (HB.out.cell (World.block_lt_of_cell? w _ hx367_0)).trans hx367_0
       replace hx367_1 := (HB.out.cell (World.block_lt_of_cell? w _ hx367_1)).trans hx367_1
       replace p367 := eq_true p367
       replace q367 := eq_true q367
       go_wp2_with (first | ((with_reducible refine gate_callee (f := 19) rfl ?_); refine zG (some 23) Try.func19 #[.agg #[.int .i64 ((rd_T37 l0 x5_1).f0), .string ((rd_T37 l0 x5_1).f1)], .int .i64 x1_1] ?_; (with_reducible refine (laws_szPiece.calls ((rd_T37 l0 x5_1).f0) ((rd_T37 l0 x5_1).f1) x1_1 t368 _ A6.out).mono ?_); rintro e w9 ⟨rfl, hb⟩; refine ⟨_, rfl, ?_⟩; have n0_ := zM (below_step (zB HB.out) hb); clear HB; have HB := n0_; clear n0_; (try clear hb); (try clear hb2); (try clear hk); (try clear hi)))
       go_roundg k1
       case measure => have := HK1.out; omega
       case rel => exact ⟨(t368), (wrap64 (x5_1 + 1)), zS, zS, H', ⟨by have := HK1.out; omega⟩, ⟨(zB HB.out)⟩⟩
     ·rw [if_neg c5] at H
      exact absurd H (by simp)
    ·rw [if_neg c4] at H
     have c4b0 : decide (x5_1 < (l0.length : Int)) = false := decide_eq_false c4
     clear c4
     obtain rfl := Option.some.inj H
     go_wp2
     go_ret
     exact ⟨zE, (zB HB.out)⟩

end Go.Proofs.Yteahdfibipalkaa.G

namespace Go.Proofs.Yteahdfibipalkaa.G
open Go.RowKit Go.Proofs.YteahdfibipalkaaW.PrintWords Go.Proofs.YteahdfibipalkaaW.PrintLast Go.Proofs.YteahdfibipalkaaW.PrintMore
attribute [local go_sem] max2_int min2_int max_two min_two max_three min_three max_four min_four   -- for this text's walks alone
set_option linter.unusedVariables false
set_option linter.unusedSimpArgs false

/-! ### spec_IsSpanSet: function 11 -/
set_option maxHeartbeats 8000000 in
set_option maxRecDepth 100000 in
theorem spec_IsSpanSet.calls (k : Nat) (A0 : Option Addr) (c0 : Nat) (l0 : List (S26)) (r : Bool) (w : World) (hr0 : Kd.C k26 w A0 l0.length l0) (hc0 : l0.length ≤ c0) (h : spec_IsSpanSet.f k l0 = some r) :
  Calls Try.prog 11 #[.slice A0 l0.length c0] w fun e w' => e = .returned (.bool r) ∧ Drawn0 w w' := by
 have HR0 := zM hr0
 have HC0 := zM hc0
 clear hr0 hc0
 have H : (spec_IsSpanSet.l0 k l0 0) = some r := h
 clear h
 have H' := zM H
 clear H
 go_enter Try.func11, Try.ntmps11
 go_wp2
 repeat (go_quiet (fail); try go_wp2)
 go_loopg [3] k (fun kq v3 w' => ∃ (x3_1 : Int), v3 = .int .i64 x3_1 ∧ Aside0 (spec_IsSpanSet.l0 kq l0 x3_1 = some r) ∧ Aside0 (kq ≤ k) ∧ Drawn0 w w')
 case atStart => exact ⟨(0), zS, H', ⟨Nat.le_refl _⟩, zW⟩
 case round =>
  clear H'
  try clear c1
  obtain ⟨x3_1, rfl, HA, HK1, ⟨m1, rfl⟩⟩ := hrel
  cases gk with
  | zero => exact absurd HA.out (by simp [spec_IsSpanSet.l0])
  | succ k1 =>
   have H := HA.out
   clear HA
   simp only [spec_IsSpanSet.l0] at H
   by_cases c2 : x3_1 < (l0.length : Int)
   ·rw [if_pos c2] at H
    have c2b0 : decide (x3_1 < (l0.length : Int)) = true := decide_eq_true c2
    clear c2
    by_cases c3 : 0 ≤ x3_1
    ·rw [if_pos c3] at H
     have c3b0 : decide (0 ≤ x3_1) = true := decide_eq_true c3
     clear c3
     by_cases c4 : ((rd_T26 l0 x3_1).f0) < 0
     ·rw [if_pos c4] at H
      have c4b0 : decide (((rd_T26 l0 x3_1).f0) < 0) = true := decide_eq_true c4
      clear c4
      obtain rfl := Option.some.inj H
      have p127 : 0 ≤ (x3_1 : Int) := zD
      have q127 : x3_1 < (l0.length : Int) := zD
      obtain ⟨ad127, e127, hx127_0, hx127_1⟩ := at_T26 HR0.out x3_1 p127 q127
      cases e127
      replace p127 := eq_true p127
      replace q127 := eq_true q127
      go_wp2
      repeat (go_quiet (fail); try go_wp2)
      go_ret
      exact ⟨zS, zW⟩
     ·rw [if_neg c4] at H
      have c4b0 : decide (((rd_T26 l0 x3_1).f0) < 0) = false := decide_eq_false c4
      clear c4
      by_cases c5 : ((rd_T26 l0 x3_1).f0) ≥ ((rd_T26 l0 x3_1).f1)
      ·rw [if_pos c5] at H
       have c5b0 : decide (((rd_T26 l0 x3_1).f1) ≤ ((rd_T26 l0 x3_1).f0)) = true := decide_eq_true c5
       clear c5
       obtain rfl := Option.some.inj H
       have p127 : 0 ≤ (x3_1 : Int) := zD
       have q127 : x3_1 < (l0.length : Int) := zD
       obtain ⟨ad127, e127, hx127_0, hx127_1⟩ := at_T26 HR0.out x3_1 p127 q127
       cases e127
       replace p127 := eq_true p127
       replace q127 := eq_true q127
       have p128 : 0 ≤ (x3_1 : Int) := zD
       have q128 : x3_1 < (l0.length : Int) := zD
       obtain ⟨ad128, e128, hx128_0, hx128_1⟩ := at_T26 HR0.out x3_1 p128 q128
       obtain rfl : ad127 = ad128 := (by injection e128)
       replace p128 := eq_true p128
       replace q128 := eq_true q128
       have p129 : 0 ≤ (x3_1 : Int) := zD
       have q129 : x3_1 < (l0.length : Int) := zD
       obtain ⟨ad129, e129, hx129_0, hx129_1⟩ := at_T26 HR0.out x3_1 p129 q129
       obtain rfl : ad127 = ad129 := (by injection e129)
       replace p129 := eq_true p129
       replace q129 := eq_true q129
       go_wp2
       repeat (go_quiet (fail); try go_wp2)
       go_ret
       exact ⟨zS, zW⟩
      ·rw [if_neg c5] at H
       have c5b0 : decide (((rd_T26 l0 x3_1).f1) ≤ ((rd_T26 l0 x3_1).f0)) = false := decide_eq_false c5
       clear c5
       by_cases c6 : ((rd_T26 l0 x3_1).f1) > 1000000000000
       ·rw [if_pos c6] at H
        have c6b0 : decide (1000000000000 < ((rd_T26 l0 x3_1).f1)) = true := decide_eq_true c6
        clear c6
        obtain rfl := Option.some.inj H
        have p127 : 0 ≤ (x3_1 : Int) := zD
        have q127 : x3_1 < (l0.length : Int) := zD
        obtain ⟨ad127, e127, hx127_0, hx127_1⟩ := at_T26 HR0.out x3_1 p127 q127
        cases e127
        replace p127 := eq_true p127
        replace q127 := eq_true q127
        have p128 : 0 ≤ (x3_1 : Int) := zD
        have q128 : x3_1 < (l0.length : Int) := zD
        obtain ⟨ad128, e128, hx128_0, hx128_1⟩ := at_T26 HR0.out x3_1 p128 q128
        obtain rfl : ad127 = ad128 := (by injection e128)
        replace p128 := eq_true p128
        replace q128 := eq_true q128
        have p129 : 0 ≤ (x3_1 : Int) := zD
        have q129 : x3_1 < (l0.length : Int) := zD
        obtain ⟨ad129, e129, hx129_0, hx129_1⟩ := at_T26 HR0.out x3_1 p129 q129
        obtain rfl : ad127 = ad129 := (by injection e129)
        replace p129 := eq_true p129
        replace q129 := eq_true q129
        have p130 : 0 ≤ (x3_1 : Int) := zD
        have q130 : x3_1 < (l0.length : Int) := zD
        obtain ⟨ad130, e130, hx130_0, hx130_1⟩ := at_T26 HR0.out x3_1 p130 q130
        obtain rfl : ad127 = ad130 := (by injection e130)
        replace p130 := eq_true p130
        replace q130 := eq_true q130
        go_wp2
        repeat (go_quiet (fail); try go_wp2)
        go_ret
        exact ⟨zS, zW⟩
       ·rw [if_neg c6] at H
        have c6b0 : decide (1000000000000 < ((rd_T26 l0 x3_1).f1)) = false := decide_eq_false c6
        clear c6
        by_cases c7 : x3_1 > 0
        ·rw [if_pos c7] at H
         have c7b0 : decide (0 < x3_1) = true := decide_eq_true c7
         clear c7
         obtain ⟨ji8, hji8⟩ : ∃ j_ : Int, (wrap64 (x3_1 - 1)) = j_ := ⟨_, rfl⟩
         replace H : (if 0 ≤ (ji8) then (if (ji8) < (l0.length : Int) then (if ((rd_T26 l0 (ji8)).f1) ≥ ((rd_T26 l0 x3_1).f0) then (some false) else (spec_IsSpanSet.l0 k1 l0 (wrap64 (x3_1 + 1)))) else (none)) else (none)) = some r := by first | (rw [hji8] at H; exact H) | (simp only [hji8] at H ⊢; exact H)
         have hji8w : (IntKind.i64.wrap (x3_1 - 1)) = ji8 := (i64_w _).trans hji8
         by_cases c9 : 0 ≤ (ji8)
         ·rw [if_pos c9] at H
          have c9b0 : decide (0 ≤ (ji8)) = true := decide_eq_true c9
          clear c9
          by_cases c10 : (ji8) < (l0.length : Int)
          ·rw [if_pos c10] at H
           have c10b0 : decide ((ji8) < (l0.length : Int)) = true := decide_eq_true c10
           clear c10
           by_cases c11 : ((rd_T26 l0 (ji8)).f1) ≥ ((rd_T26 l0 x3_1).f0)
           ·rw [if_pos c11] at H
            have c11b0 : decide (((rd_T26 l0 x3_1).f0) ≤ ((rd_T26 l0 (ji8)).f1)) = true := decide_eq_true c11
            clear c11
            obtain rfl := Option.some.inj H
            have p127 : 0 ≤ (x3_1 : Int) := zD
            have q127 : x3_1 < (l0.length : Int) := zD
            obtain ⟨ad127, e127, hx127_0, hx127_1⟩ := at_T26 HR0.out x3_1 p127 q127
            cases e127
            replace p127 := eq_true p127
            replace q127 := eq_true q127
            have p128 : 0 ≤ (x3_1 : Int) := zD
            have q128 : x3_1 < (l0.length : Int) := zD
            obtain ⟨ad128, e128, hx128_0, hx128_1⟩ := at_T26 HR0.out x3_1 p128 q128
            obtain rfl : ad127 = ad128 := (by injection e128)
            replace p128 := eq_true p128
            replace q128 := eq_true q128
            have p129 : 0 ≤ (x3_1 : Int) := zD
            have q129 : x3_1 < (l0.length : Int) := zD
            obtain ⟨ad129, e129, hx129_0, hx129_1⟩ := at_T26 HR0.out x3_1 p129 q129
            obtain rfl : ad127 = ad129 := (by injection e129)
            replace p129 := eq_true p129
            replace q129 := eq_true q129
            have p130 : 0 ≤ (x3_1 : Int) := zD
            have q130 : x3_1 < (l0.length : Int) := zD
            obtain ⟨ad130, e130, hx130_0, hx130_1⟩ := at_T26 HR0.out x3_1 p130 q130
            obtain rfl : ad127 = ad130 := (by injection e130)
            replace p130 := eq_true p130
            replace q130 := eq_true q130
            have p131 : 0 ≤ ((ji8) : Int) := zD
            have q131 : (ji8) < (l0.length : Int) := zD
            obtain ⟨ad131, e131, hx131_0, hx131_1⟩ := at_T26 HR0.out (ji8) p131 q131
            obtain rfl : ad127 = ad131 := (by injection e131)
            replace p131 := eq_true p131
            replace q131 := eq_true q131
            have p132 : 0 ≤ (x3_1 : Int) := zD
            have q132 : x3_1 < (l0.length : Int) := zD
            obtain ⟨ad132, e132, hx132_0, hx132_1⟩ := at_T26 HR0.out x3_1 p132 q132
            obtain rfl : ad127 = ad132 := (by injection e132)
            replace p132 := eq_true p132
            replace q132 := eq_true q132
            go_wp2
            repeat (go_quiet (fail); try go_wp2)
            go_ret
            exact ⟨by first | rfl | (simp; done) | (simp only [← hji8] <;> (first | rfl | simp)) | (simp [*]; done), zW⟩
           ·rw [if_neg c11] at H
            have c11b0 : decide (((rd_T26 l0 x3_1).f0) ≤ ((rd_T26 l0 (ji8)).f1)) = false := decide_eq_false c11
            clear c11
            have H' := zM H
            clear H
            have p127 : 0 ≤ (x3_1 : Int) := zD
            have q127 : x3_1 < (l0.length : Int) := zD
            obtain ⟨ad127, e127, hx127_0, hx127_1⟩ := at_T26 HR0.out x3_1 p127 q127
            cases e127
            replace p127 := eq_true p127
            replace q127 := eq_true q127
            have p128 : 0 ≤ (x3_1 : Int) := zD
            have q128 : x3_1 < (l0.length : Int) := zD
            obtain ⟨ad128, e128, hx128_0, hx128_1⟩ := at_T26 HR0.out x3_1 p128 q128
            obtain rfl : ad127 = ad128 := (by injection e128)
            replace p128 := eq_true p128
            replace q128 := eq_true q128
            have p129 : 0 ≤ (x3_1 : Int) := zD
            have q129 : x3_1 < (l0.length : Int) := zD
            obtain ⟨ad129, e129, hx129_0, hx129_1⟩ := at_T26 HR0.out x3_1 p129 q129
            obtain rfl : ad127 = ad129 := (by injection e129)
            replace p129 := eq_true p129
            replace q129 := eq_true q129
            have p130 : 0 ≤ (x3_1 : Int) := zD
            have q130 : x3_1 < (l0.length : Int) := zD
            obtain ⟨ad130, e130, hx130_0, hx130_1⟩ := at_T26 HR0.out x3_1 p130 q130
            obtain rfl : ad127 = ad130 := (by injection e130)
            replace p130 := eq_true p130
            replace q130 := eq_true q130
            have p131 : 0 ≤ ((ji8) : Int) := zD
            have q131 : (ji8) < (l0.length : Int) := zD
            obtain ⟨ad131, e131, hx131_0, hx131_1⟩ := at_T26 HR0.out (ji8) p131 q131
            obtain rfl : ad127 = ad131 := (by injection e131)
            replace p131 := eq_true p131
            replace q131 := eq_true q131
            have p132 : 0 ≤ (x3_1 : Int) := zD
            have q132 : x3_1 < (l0.length : Int) := zD
            obtain ⟨ad132, e132, hx132_0, hx132_1⟩ := at_T26 HR0.out x3_1 p132 q132
            obtain rfl : ad127 = ad132 := (by injection e132)
            replace p132 := eq_true p132
            replace q132 := eq_true q132
            go_wp2
            repeat (go_quiet (fail); try go_wp2)
            go_roundg k1
            case measure => have := HK1.out; omega
            case rel => exact ⟨(wrap64 (x3_1 + 1)), zS, H', ⟨by have := HK1.out; omega⟩, zW⟩
          ·rw [if_neg c10] at H
           exact absurd H (by simp)
         ·rw [if_neg c9] at H
          exact absurd H (by simp)
        ·rw [if_neg c7] at H
         have c7b0 : decide (0 < x3_1) = false := decide_eq_false c7
         clear c7
         have H' := zM H
         clear H
         have p127 : 0 ≤ (x3_1 : Int) := zD
         have q127 : x3_1 < (l0.length : Int) := zD
         obtain ⟨ad127, e127, hx127_0, hx127_1⟩ := at_T26 HR0.out x3_1 p127 q127
         cases e127
         replace p127 := eq_true p127
         replace q127 := eq_true q127
         have p128 : 0 ≤ (x3_1 : Int) := zD
         have q128 : x3_1 < (l0.length : Int) := zD
         obtain ⟨ad128, e128, hx128_0, hx128_1⟩ := at_T26 HR0.out x3_1 p128 q128
         obtain rfl : ad127 = ad128 := (by injection e128)
         replace p128 := eq_true p128
         replace q128 := eq_true q128
         have p129 : 0 ≤ (x3_1 : Int) := zD
         have q129 : x3_1 < (l0.length : Int) := zD
         obtain ⟨ad129, e129, hx129_0, hx129_1⟩ := at_T26 HR0.out x3_1 p129 q129
         obtain rfl : ad127 = ad129 := (by injection e129)
         replace p129 := eq_true p129
         replace q129 := eq_true q129
         have p130 : 0 ≤ (x3_1 : Int) := zD
         have q130 : x3_1 < (l0.length : Int) := zD
         obtain ⟨ad130, e130, hx130_0, hx130_1⟩ := at_T26 HR0.out x3_1 p130 q130
         obtain rfl : ad127 = ad130 := (by injection e130)
         replace p130 := eq_true p130
         replace q130 := eq_true q130
         go_wp2
         repeat (go_quiet (fail); try go_wp2)
         go_roundg k1
         case measure => have := HK1.out; omega
         case rel => exact ⟨(wrap64 (x3_1 + 1)), zS, H', ⟨by have := HK1.out; omega⟩, zW⟩
    ·rw [if_neg c3] at H
     exact absurd H (by simp)
   ·rw [if_neg c2] at H
    have c2b0 : decide (x3_1 < (l0.length : Int)) = false := decide_eq_false c2
    clear c2
    obtain rfl := Option.some.inj H
    go_wp2
    repeat (go_quiet (fail); try go_wp2)
    go_ret
    exact ⟨zS, zW⟩

end Go.Proofs.Yteahdfibipalkaa.G

namespace Go.Proofs.Yteahdfibipalkaa.G
open Go.RowKit Go.Proofs.YteahdfibipalkaaW.PrintWords Go.Proofs.YteahdfibipalkaaW.PrintLast Go.Proofs.YteahdfibipalkaaW.PrintMore
attribute [local go_sem] max2_int min2_int max_two min_two max_three min_three max_four min_four   -- for this text's walks alone
set_option linter.unusedVariables false
set_option linter.unusedSimpArgs false

/-! ### spec_Min: function 55 -/
set_option maxHeartbeats 8000000 in
set_option maxRecDepth 100000 in
theorem spec_Min.calls (a0 : Int) (a1 : Int) (r : Int) (w : World) (h : spec_Min.f a0 a1 = some r) :
  Calls Try.prog 55 #[.int .i64 a0, .int .i64 a1] w fun e w' => e = .returned (.int .i64 r) ∧ Drawn0 w w' := by
 have H : (if a1 < a0 then (some a1) else (some a0)) = some r := h
 clear h
 by_cases c3 : a1 < a0
 ·rw [if_pos c3] at H
  have c3b0 : decide (a1 < a0) = true := decide_eq_true c3
  clear c3
  obtain rfl := Option.some.inj H
  go_enter Try.func55, Try.ntmps55
  go_wp2
  go_ret
  exact ⟨zS, zW⟩
 ·rw [if_neg c3] at H
  have c3b0 : decide (a1 < a0) = false := decide_eq_false c3
  clear c3
  obtain rfl := Option.some.inj H
  go_enter Try.func55, Try.ntmps55
  go_wp2
  go_ret
  exact ⟨zS, zW⟩

end Go.Proofs.Yteahdfibipalkaa.G

namespace Go.Proofs.Yteahdfibipalkaa.G
open Go.RowKit Go.Proofs.YteahdfibipalkaaW.PrintWords Go.Proofs.YteahdfibipalkaaW.PrintLast Go.Proofs.YteahdfibipalkaaW.PrintMore
attribute [local go_sem] max2_int min2_int max_two min_two max_three min_three max_four min_four   -- for this text's walks alone
set_option linter.unusedVariables false
set_option linter.unusedSimpArgs false

/-! ### spec_Max: function 56 -/
set_option maxHeartbeats 8000000 in
set_option maxRecDepth 100000 in
theorem spec_Max.calls (a0 : Int) (a1 : Int) (r : Int) (w : World) (h : spec_Max.f a0 a1 = some r) :
  Calls Try.prog 56 #[.int .i64 a0, .int .i64 a1] w fun e w' => e = .returned (.int .i64 r) ∧ Drawn0 w w' := by
 have H : (if a1 > a0 then (some a1) else (some a0)) = some r := h
 clear h
 by_cases c3 : a1 > a0
 ·rw [if_pos c3] at H
  have c3b0 : decide (a0 < a1) = true := decide_eq_true c3
  clear c3
  obtain rfl := Option.some.inj H
  go_enter Try.func56, Try.ntmps56
  go_wp2
  go_ret
  exact ⟨zS, zW⟩
 ·rw [if_neg c3] at H
  have c3b0 : decide (a0 < a1) = false := decide_eq_false c3
  clear c3
  obtain rfl := Option.some.inj H
  go_enter Try.func56, Try.ntmps56
  go_wp2
  go_ret
  exact ⟨zS, zW⟩

end Go.Proofs.Yteahdfibipalkaa.G

namespace Go.Proofs.Yteahdfibipalkaa.G
open Go.RowKit Go.Proofs.YteahdfibipalkaaW.PrintWords Go.Proofs.YteahdfibipalkaaW.PrintLast Go.Proofs.YteahdfibipalkaaW.PrintMore
attribute [local go_sem] max2_int min2_int max_two min_two max_three min_three max_four min_four   -- for this text's walks alone
set_option linter.unusedVariables false
set_option linter.unusedSimpArgs false

/-! ### spec_AddSpan: function 43 -/
def spec_AddSpan.T7 : Bool × List (List Nat × List Nat) := (true, [([], []), ([], []), ([0, 1], [0, 1]), ([2], [2]), ([3], [3]), ([], []), ([5], [5]), ([4, 6], [4, 6])])
def spec_AddSpan.B7 : List Nat := [0, 0, 3, 7, 15, 0, 32, 127]
theorem spec_AddSpan.tab7 : rtab .any (opsOf Try.f43 7) = spec_AddSpan.T7 := by kernel_rfl
theorem spec_AddSpan.bits7 : waitsOk spec_AddSpan.T7.2 spec_AddSpan.B7 = true := by kernel_rfl
def spec_AddSpan.T12 : Bool × List (List Nat × List Nat) := (true, [([], []), ([], []), ([0, 1], [0, 1]), ([2], [2]), ([3], [3]), ([], []), ([5], [5]), ([4, 6], [4, 6]), ([7], [7]), ([8], [8]), ([8], [8]), ([9, 10, 8], [8, 9, 10]), ([11, 8], [8, 11]), ([12, 8], [8, 12]), ([8], [8]), ([14, 8], [8, 14]), ([13, 15, 8], [8, 13, 15]), ([8, 16], [8, 16])])
def spec_AddSpan.B12 : List Nat := [0, 0, 3, 7, 15, 0, 32, 127, 255, 511, 511, 2047, 4095, 8191, 511, 16895, 65535, 131071]
theorem spec_AddSpan.tab12 : rtab .any (opsOf Try.f43 12) = spec_AddSpan.T12 := by kernel_rfl
theorem spec_AddSpan.bits12 : waitsOk spec_AddSpan.T12.2 spec_AddSpan.B12 = true := by kernel_rfl
def spec_AddSpan.T13 : Bool × List (List Nat × List Nat) := (true, [([], []), ([0], [0]), ([], []), ([], []), ([2, 3], [2, 3]), ([4], [4]), ([5], [5]), ([1, 6], [1, 6]), ([], []), ([8], [8]), ([], []), ([], []), ([10, 11], [10, 11]), ([12], [12]), ([13], [13]), ([9, 14, 7], [9, 14]), ([7, 15], [7, 15]), ([16, 15, 0, 1, 2, 3, 4, 5, 6, 7, 8, 9, 10, 11, 12, 13, 14, 15, 16], [16])])
def spec_AddSpan.B13 : List Nat := [0, 1, 0, 0, 12, 28, 60, 127, 0, 256, 0, 0, 3072, 7168, 15360, 32767, 65535, 131071]
theorem spec_AddSpan.tab13 : rtab .any (opsOf Try.f43 13) = spec_AddSpan.T13 := by kernel_rfl
theorem spec_AddSpan.bits13 : waitsOk spec_AddSpan.T13.2 spec_AddSpan.B13 = true := by kernel_rfl
def spec_AddSpan.T18 : Bool × List (List Nat × List Nat) := (true, [([], []), ([], []), ([0, 1], [0, 1]), ([2], [2]), ([3], [3]), ([], []), ([5], [5]), ([4, 6], [4, 6])])
def spec_AddSpan.B18 : List Nat := [0, 0, 3, 7, 15, 0, 32, 127]
theorem spec_AddSpan.tab18 : rtab .any (opsOf Try.f43 18) = spec_AddSpan.T18 := by kernel_rfl
theorem spec_AddSpan.bits18 : waitsOk spec_AddSpan.T18.2 spec_AddSpan.B18 = true := by kernel_rfl
set_option maxHeartbeats 8000000 in
set_option maxRecDepth 100000 in
theorem spec_AddSpan.calls (k : Nat) (A0 : Option Addr) (c0 : Nat) (l0 : List (S26)) (a1_0 : Int) (a1_1 : Int) (r : List (S26)) (w : World) (hr0 : Kd.C k26 w A0 l0.length l0) (hc0 : l0.length ≤ c0) (h : spec_AddSpan.f k l0 a1_0 a1_1 = some r) :
  Calls Try.prog 43 #[.slice A0 l0.length c0, .agg #[.int .i64 a1_0, .int .i64 a1_1]] w fun e w' => ∃ v0_ : Value, e = .returned (v0_) ∧ Kd.R k26 26 w' w.heap.size (fun _ => True) v0_ r ∧ Below w.heap.size w w' := by
 have hu26 := Try.underlying26
 have HR0 := zM hr0
 have HC0 := zM hc0
 clear hr0 hc0
 have HB := zM (Below.refl w.heap.size w)
 have H : ((spec_IsSpanSet.f k l0).bind fun t134 => (if t134 = true then (if a1_0 < 0 then (spec_AddSpan.j0 k l0 true a1_0 a1_1) else (if a1_0 ≥ a1_1 then (spec_AddSpan.j0 k l0 true a1_0 a1_1) else (spec_AddSpan.j0 k l0 (decide (a1_1 > 1000000000000)) a1_0 a1_1))) else (spec_AddSpan.j0 k l0 true a1_0 a1_1))) = some r := h
 clear h
 have HC3 := zM H
 clear H
 go_enter Try.func43, Try.ntmps43
 go_upto_region 1 with (first | ((with_reducible refine gate_dst (N := 3) rfl ?_); refine box_event ?hg (N := 3) ?hd (cs := #[.int .i64 a1_0, .int .i64 a1_1]) (t := 26) ?hr ?_; (case hd => rfl); (case hg => rfl); (case hr => first | (go_simp; done) | (go_simp; rfl)); intro gb133 hg w4 hbox hb; have n0_ := zM (below_step (zB HB.out) hb); have n1_ := zM (hbox); have n2_ := zM ((by rw [hg]; exact (below_size (zB HB.out)) : w.heap.size ≤ gb133)); have n3_ := zM ((by rw [hg]; exact (below_size (zB HB.out)) : w.heap.size ≤ gb133)); clear HB; have HB := n0_; have BK133 := n1_; have GW133 := n2_; have GE133 := n3_; clear n0_ n1_ n2_ n3_; clear hb hbox hg))
 (try simp only [Act.put, List.setIfInBounds_toArray, List.set_cons_zero, List.set_cons_succ])
 go_cut [28] (fun v28 wc => ∃ (kq : Nat) (x28_2 : Bool), v28 = .bool x28_2 ∧ Aside0 (spec_AddSpan.j0 kq l0 x28_2 a1_0 a1_1 = some r) ∧ Aside0 (kq ≤ k) ∧ Aside0 (wc.heap[gb133]? = some (.cells #[.int .i64 a1_0, .int .i64 a1_1] 26 (0, 0))) ∧ Aside0 (Below w.heap.size w wc))
 case first =>
  have H := HC3.out
  clear HC3
  replace H := Option.bind_eq_some_iff.mp H
  obtain ⟨t134, A50, H⟩ := H
  try dsimp only at H
  have A5 := zM A50
  clear A50
  by_cases c6 : t134 = true
  ·subst c6
   rw [if_pos rfl] at H
   by_cases c7 : a1_0 < 0
   ·rw [if_pos c7] at H
    have c7b0 : decide (a1_0 < 0) = true := decide_eq_true c7
    clear c7
    (first | rw [c7b0] | (simp only [i64_w, i32_w]; rw [c7b0]) | skip)
    have H' := zM H
    clear H
    go_wp2_with (first | ((with_reducible refine gate_callee (f := 11) rfl ?_); refine zG (some 10) Try.func11 #[.slice A0 l0.length c0] ?_; (with_reducible refine (spec_IsSpanSet.calls k _ _ l0 true _ ?side1 ?side2 A5.out).mono ?_); (case side1 => exact (zC (Kd.C_below HR0.out HB.out))); (case side2 => exact HC0.out); rintro e w' ⟨rfl, ⟨nd, rfl⟩⟩; refine ⟨_, rfl, ?_⟩; have hcz8_0 : w4.cell? ⟨gb133, 0, none⟩ = some (.int .i64 a1_0) := (blk_cell BK133.out 0).trans rfl; have hcz8_1 : w4.cell? ⟨gb133, 1, none⟩ = some (.int .i64 a1_1) := (blk_cell BK133.out 1).trans rfl; have hfz8_0 := blk_frozen BK133.out 0; have hfz8_1 := blk_frozen BK133.out 1))
    go_meet
    case rel => exact ⟨_, (true), zS, H', ⟨by first | omega | exact Nat.le_refl _⟩, ⟨(zP BK133.out)⟩, ⟨(zB1 GE133.out HB.out)⟩⟩
   ·rw [if_neg c7] at H
    have c7b0 : decide (a1_0 < 0) = false := decide_eq_false c7
    clear c7
    (first | rw [c7b0] | (simp only [i64_w, i32_w]; rw [c7b0]) | skip)
    by_cases c9 : a1_0 ≥ a1_1
    ·rw [if_pos c9] at H
     have c9b0 : decide (a1_1 ≤ a1_0) = true := decide_eq_true c9
     clear c9
     have H' := zM H
     clear H
     go_wp2_with (first | ((with_reducible refine gate_callee (f := 11) rfl ?_); refine zG (some 10) Try.func11 #[.slice A0 l0.length c0] ?_; (with_reducible refine (spec_IsSpanSet.calls k _ _ l0 true _ ?side1 ?side2 A5.out).mono ?_); (case side1 => exact (zC (Kd.C_below HR0.out HB.out))); (case side2 => exact HC0.out); rintro e w' ⟨rfl, ⟨nd, rfl⟩⟩; refine ⟨_, rfl, ?_⟩; have hcz10_0 : w4.cell? ⟨gb133, 0, none⟩ = some (.int .i64 a1_0) := (blk_cell BK133.out 0).trans rfl; have hcz10_1 : w4.cell? ⟨gb133, 1, none⟩ = some (.int .i64 a1_1) := (blk_cell BK133.out 1).trans rfl; have hfz10_0 := blk_frozen BK133.out 0; have hfz10_1 := blk_frozen BK133.out 1))
     go_meet
     case rel => exact ⟨_, (true), zS, H', ⟨by first | omega | exact Nat.le_refl _⟩, ⟨(zP BK133.out)⟩, ⟨(zB1 GE133.out HB.out)⟩⟩
    ·rw [if_neg c9] at H
     have c9b0 : decide (a1_1 ≤ a1_0) = false := decide_eq_false c9
     clear c9
     have H' := zM H
     clear H
     go_wp2_with (first | ((with_reducible refine gate_callee (f := 11) rfl ?_); refine zG (some 10) Try.func11 #[.slice A0 l0.length c0] ?_; (with_reducible refine (spec_IsSpanSet.calls k _ _ l0 true _ ?side1 ?side2 A5.out).mono ?_); (case side1 => exact (zC (Kd.C_below HR0.out HB.out))); (case side2 => exact HC0.out); rintro e w' ⟨rfl, ⟨nd, rfl⟩⟩; refine ⟨_, rfl, ?_⟩; have hcz11_0 : w4.cell? ⟨gb133, 0, none⟩ = some (.int .i64 a1_0) := (blk_cell BK133.out 0).trans rfl; have hcz11_1 : w4.cell? ⟨gb133, 1, none⟩ = some (.int .i64 a1_1) := (blk_cell BK133.out 1).trans rfl; have hfz11_0 := blk_frozen BK133.out 0; have hfz11_1 := blk_frozen BK133.out 1))
     go_meet
     case rel => exact ⟨_, (decide (a1_1 > 1000000000000)), zS, H', ⟨by first | omega | exact Nat.le_refl _⟩, ⟨(zP BK133.out)⟩, ⟨(zB1 GE133.out HB.out)⟩⟩
  ·replace c6 := Bool.eq_false_iff.mpr c6
   subst c6
   rw [if_neg (show ¬ (false = true) by decide)] at H
   have H' := zM H
   clear H
   go_wp2_with (first | ((with_reducible refine gate_callee (f := 11) rfl ?_); refine zG (some 10) Try.func11 #[.slice A0 l0.length c0] ?_; (with_reducible refine (spec_IsSpanSet.calls k _ _ l0 false _ ?side1 ?side2 A5.out).mono ?_); (case side1 => exact (zC (Kd.C_below HR0.out HB.out))); (case side2 => exact HC0.out); rintro e w' ⟨rfl, ⟨nd, rfl⟩⟩; refine ⟨_, rfl, ?_⟩))
   go_meet
   case rel => exact ⟨_, (true), zS, H', ⟨by first | omega | exact Nat.le_refl _⟩, ⟨(zP BK133.out)⟩, ⟨(zB1 GE133.out HB.out)⟩⟩
 case rest =>
  clear HC3
  try clear c1
  try clear p2
  try clear c4
  try clear c6
  try clear c7
  try clear c7b0
  try clear c9
  try clear c9b0
  try clear c11
  try clear hcz10_0
  try clear hcz10_1
  try clear hcz11_0
  try clear hcz11_1
  try clear hcz8_0
  try clear hcz8_1
  try clear hfz10_0
  try clear hfz10_1
  try clear hfz11_0
  try clear hfz11_1
  try clear hfz8_0
  try clear hfz8_1
  obtain ⟨kq, x28_2, rfl, HA, HJ2, BK133, HB⟩ := hcut
  cases kq with
  | zero => exact absurd HA.out (by simp [spec_AddSpan.j0])
  | succ kj2 =>
   have H := HA.out
   clear HA
   simp only [spec_AddSpan.j0] at H
   by_cases c12 : x28_2 = true
   ·subst c12
    rw [if_pos rfl] at H
    obtain ⟨y135, hy135⟩ : ∃ y_ : List (S26), y_ = (([] : List (S26))) := ⟨_, rfl⟩
    replace H : (if y135.length + l0.length < 8796093022208 then (some (y135 ++ l0)) else (none)) = some r := zH hy135 H
    have Ny135 := zM hy135
    clear hy135
    by_cases c13 : y135.length + l0.length < 8796093022208
    ·rw [if_pos c13] at H
     have LMc13 := zM c13
     clear c13
     obtain ⟨y138, hy138⟩ : ∃ y_ : List (S26), y_ = (y135 ++ l0) := ⟨_, rfl⟩
     replace H : (some y138) = some r := zH hy138 H
     have Ny138 := zM hy138
     clear hy138
     obtain rfl := Option.some.inj H
     go_wp2_with (first | ((with_reducible refine gate_dst (N := 29) rfl ?_); refine Kd.R_lit k26 _ 26 ?hg (N := 29) ?hd (xs := ([] : List (S26))) (inner := []) (ok := fun _ => True) (okp := fun _ => True) ?hr ?hp (fun _ hk => hk) trivial (Below.refl _ _) (Nat.le_refl _) (by simp) ?_; (case hd => rfl); (case hg => rfl); (case hr => first | (go_simp; done) | (go_simp; rfl)); (case hp => exact (Reps.none _ _)); intro v136 w14 ho15 hb hg_ hnew_; clear hg_ hnew_; (first | rw [← Ny135.out] at ho15 | (simp only [Int.reduceToNat] at ho15; rw [← Ny135.out] at ho15)); have n0_ := zM (Kd.R_lower (Kd.R_newB ho15 (g := gb133) (o := .cells #[.int .i64 a1_0, .int .i64 a1_1] 26 (0, 0)) (zP BK133.out)) (below_size (zB1 GE133.out HB.out))); have n1_ := zM (blk_below (g := gb133) (o := .cells #[.int .i64 a1_0, .int .i64 a1_1] 26 (0, 0)) (zP BK133.out) hb); have n2_ := zM (below_step (zB1 GE133.out HB.out) hb); clear BK133; clear HB; have HO137 := n0_; have BK133 := n1_; have HB := n2_; clear n0_ n1_ n2_; clear hb ho15) | ((with_reducible refine gate_builtin (b := .append) (xs := #[.tmp 29, .tmp 30]) rfl ?_); at_builtin; refine Kd.R_append_rows k26 (w0 := w) w.heap.size rfl (.tmp 29) (.tmp 30) 24 26 (.agg #[(.int .i64 0), (.int .i64 0)]) 16 rfl Try.underlying24 info26 rfl (by decide) (by omega) v136 y135 l0 _ _ _ (fun k_ => k_ ≠ gb133) (fun _ => False) rfl rfl ?aO ?aR (fun _ _ h => h) (fun _ h => h.elim) ?aF ?aB ?aS ?aL ?_; (case aR => exact (zC (Kd.C_below HR0.out HB.out))); (case aB => exact (zB1 GE133.out HB.out)); (case aF => exact (fun k_ hk => Kd.freshB (g := gb133) (o := .cells #[.int .i64 a1_0, .int .i64 a1_1] 26 (0, 0)) (zP BK133.out) k_ hk)); (case aO => exact (zRm HO137.out (fun _ hk => hk.2))); (case aS => exact (below_size (zB1 GE133.out HB.out))); (case aL => have := LMc13.out; omega); intro v139 w16 ho hb hg hat; rw [← Ny138.out] at ho; have n0_ := zM (blk_grown (g := gb133) (o := .cells #[.int .i64 a1_0, .int .i64 a1_1] 26 (0, 0)) (zP BK133.out) hg (Kd.R_away HO137.out (fun _ hk => hk.2))); have n1_ := zM (hb); have n2_ := zM (ho); clear BK133; clear HB; clear HO137; have BK133 := n0_; have HB := n1_; have HO140 := n2_; clear n0_ n1_ n2_; clear ho hb hg hat))
     go_ret
     exact ⟨_, zE, (zRm HO140.out (fun _ hk => trivial)), (zB1 GE133.out HB.out)⟩
    ·rw [if_neg c13] at H
     exact absurd H (by simp)
   ·replace c12 := Bool.eq_false_iff.mpr c12
    subst c12
    rw [if_neg (show ¬ (false = true) by decide)] at H
    obtain ⟨y141, hy141⟩ : ∃ y_ : List (S26), y_ = (([] : List (S26))) := ⟨_, rfl⟩
    replace H : (spec_AddSpan.l0 kj2 l0 y141 0 a1_0 a1_1) = some r := zH hy141 H
    have Ny141 := zM hy141
    clear hy141
    have H' := zM H
    clear H
    go_wp2_with (first | ((with_reducible refine gate_dst (N := 32) rfl ?_); refine Kd.R_lit k26 _ 26 ?hg (N := 32) ?hd (xs := ([] : List (S26))) (inner := []) (ok := fun _ => True) (okp := fun _ => True) ?hr ?hp (fun _ hk => hk) trivial (Below.refl _ _) (Nat.le_refl _) (by simp) ?_; (case hd => rfl); (case hg => rfl); (case hr => first | (go_simp; done) | (go_simp; rfl)); (case hp => exact (Reps.none _ _)); intro v142 w17 ho18 hb hg_ hnew_; clear hg_ hnew_; (first | rw [← Ny141.out] at ho18 | (simp only [Int.reduceToNat] at ho18; rw [← Ny141.out] at ho18)); have n0_ := zM (Kd.R_lower (Kd.R_newB ho18 (g := gb133) (o := .cells #[.int .i64 a1_0, .int .i64 a1_1] 26 (0, 0)) (zP BK133.out)) (below_size (zB1 GE133.out HB.out))); have n1_ := zM (blk_below (g := gb133) (o := .cells #[.int .i64 a1_0, .int .i64 a1_1] 26 (0, 0)) (zP BK133.out) hb); have n2_ := zM (below_step (zB1 GE133.out HB.out) hb); clear BK133; clear HB; have HO143 := n0_; have BK133 := n1_; have HB := n2_; clear n0_ n1_ n2_; clear hb ho18))
    go_loopg [5, 6] kj2 (fun kq v5 v6 w' => ∃ (x5_2 : List (S26)) (x6_2 : Int), v6 = .int .i64 x6_2 ∧ Aside0 (spec_AddSpan.l0 kq l0 x5_2 x6_2 a1_0 a1_1 = some r) ∧ Aside0 (kq ≤ kj2) ∧ Aside0 (Kd.R k26 26 w' w.heap.size (fun k_ => k_ ≠ gb133) v5 x5_2) ∧ Aside0 (w'.heap[gb133]? = some (.cells #[.int .i64 a1_0, .int .i64 a1_1] 26 (0, 0))) ∧ Aside0 (Below w.heap.size w w'))
    case atStart => exact ⟨(y141), (0), zS, H', ⟨Nat.le_refl _⟩, ⟨(zRm HO143.out (fun _ hk => hk.2))⟩, ⟨(zP BK133.out)⟩, ⟨(zB1 GE133.out HB.out)⟩⟩
    case round =>
     clear H'
     try clear c1
     try clear p2
     try clear c4
     try clear c6
     try clear c7
     try clear c7b0
     try clear c9
     try clear c9b0
     try clear c11
     try clear c12
     try clear c13
     try clear hcz10_0
     try clear hcz10_1
     try clear hcz11_0
     try clear hcz11_1
     try clear hcz8_0
     try clear hcz8_1
     try clear hfz10_0
     try clear hfz10_1
     try clear hfz11_0
     try clear hfz11_1
     try clear hfz8_0
     try clear hfz8_1
     try clear p2
     obtain ⟨x5_2, x6_2, rfl, HA, HK2, HO_5, BK133, HB⟩ := hrel
     cases gk with
     | zero => exact absurd HA.out (by simp [spec_AddSpan.l0])
     | succ k2 =>
      have H := HA.out
      clear HA
      simp only [spec_AddSpan.l0] at H
      by_cases c19 : x6_2 < (l0.length : Int)
      ·rw [if_pos c19] at H
       have c19b0 : decide (x6_2 < (l0.length : Int)) = true := decide_eq_true c19
       clear c19
       by_cases c20 : 0 ≤ x6_2
       ·rw [if_pos c20] at H
        have c20b0 : decide (0 ≤ x6_2) = true := decide_eq_true c20
        clear c20
        by_cases c21 : ((rd_T26 l0 x6_2).f1) < a1_0
        ·rw [if_pos c21] at H
         have c21b0 : decide (((rd_T26 l0 x6_2).f1) < a1_0) = true := decide_eq_true c21
         clear c21
         by_cases c22 : x5_2.length < 8796093022208
         ·rw [if_pos c22] at H
          have LMc22 := zM c22
          clear c22
          obtain ⟨y146, hy146⟩ : ∃ y_ : List (S26), y_ = (x5_2 ++ [(⟨(rd_T26 l0 x6_2).f0, (rd_T26 l0 x6_2).f1⟩ : S26)]) := ⟨_, rfl⟩
          replace H : (spec_AddSpan.l0 k2 l0 y146 (wrap64 (x6_2 + 1)) a1_0 a1_1) = some r := zH hy146 H
          have Ny146 := zM hy146
          clear hy146
          have H' := zM H
          clear H
          try go_wp2
          have n0_ := zM (Kd.R_drew HO_5.out)
          have n1_ := zM (blk_drew BK133.out)
          have n2_ := zM (below_drew1 HB.out)
          clear HO_5
          clear BK133
          clear HB
          have HO_5 := n0_
          have BK133 := n1_
          have HB := n2_
          clear n0_ n1_ n2_
          have p144 : 0 ≤ (x6_2 : Int) := zD
          have q144 : x6_2 < (l0.length : Int) := zD
          obtain ⟨ad144, e144, hx144_0, hx144_1⟩ := at_T26 HR0.out x6_2 p144 q144
          have hw144_1 := hx144_1
          have hw144_0 := hx144_0
          cases e144
          replace hx144_0 := (HB.out.cell (World.block_lt_of_cell? w _ hx144_0)).trans hx144_0
          replace hx144_1 := (HB.out.cell (World.block_lt_of_cell? w _ hx144_1)).trans hx144_1
          replace p144 := eq_true p144
          replace q144 := eq_true q144
          refine start_ (n := 8) (S := fun w' => w'.cell? ⟨gb133, 0, none⟩ = some (.int .i64 a1_0) ∧ w'.cell? ⟨gb133, 1, none⟩ = some (.int .i64 a1_1) ∧ w'.cell? (ad144.add ((x6_2).toNat * 2)) = some (.int .i64 ((rd_T26 l0 x6_2).f0)) ∧ w'.cell? ⟨(ad144.add ((x6_2).toNat * 2)).block, (ad144.add ((x6_2).toNat * 2)).off + 1, none⟩ = some (.int .i64 ((rd_T26 l0 x6_2).f1))) (ds := []) (ba 8 0).toArray (by kernel_rfl) rfl rfl ⟨(blk_cell BK133.out 0).trans rfl, (blk_cell BK133.out 1).trans rfl, ((HB.out.cell (World.block_lt_of_cell? w _ hw144_0)).trans hw144_0), ((HB.out.cell (World.block_lt_of_cell? w _ hw144_1)).trans hw144_1)⟩ (fun hHeld => ?_); refine with_tabW spec_AddSpan.tab7 spec_AddSpan.bits7 (fun HT_ HW_ => ?_)
          generalize wr.drew = w23 at HO_5 BK133 HB hx144_0 hx144_1 hHeld ⊢
          refine zq 0 (some 39) (ba 8 1).toArray HT_ ?_
          refine zq 1 (some 40) (ba 8 3).toArray HT_ ?_
          refine zq 2 (some 41) (ba 8 7).toArray HT_ ?_
          refine zq 3 (some 42) (ba 8 15).toArray HT_ ?_
          refine zq 5 (some 44) (ba 8 47).toArray HT_ ?_
          refine zt4 4 (some 43) (ba 8 63).toArray HT_ HW_ hHeld ?_
          refine zt4 6 (some 45) (ba 8 127).toArray HT_ HW_ hHeld ?_
          refine zq 7 (some 46) (ba 8 255).toArray HT_ ?_
          refine done_ (done_of HT_.out (by kernel_rfl)) ?_
          have p145 : 0 ≤ (x6_2 : Int) := zD
          have q145 : x6_2 < (l0.length : Int) := zD
          obtain ⟨ad145, e145, hx145_0, hx145_1⟩ := at_T26 HR0.out x6_2 p145 q145
          obtain rfl : ad144 = ad145 := (by injection e145)
          replace hx145_0 := (HB.out.cell (World.block_lt_of_cell? w _ hx145_0)).trans hx145_0
          replace hx145_1 := (HB.out.cell (World.block_lt_of_cell? w _ hx145_1)).trans hx145_1
          replace p145 := eq_true p145
          replace q145 := eq_true q145
          try go_wp2_with (first | ((with_reducible refine gate_builtin (b := .append) (xs := #[.tmp 47, .tmp 52]) rfl ?_); at_builtin; refine Kd.R_append k26 (w0 := w) w.heap.size rfl (.tmp 47) (.tmp 52) 24 26 (.agg #[(.int .i64 0), (.int .i64 0)]) 16 rfl Try.underlying24 info26 rfl (by decide) (by omega) u5 x5_2 (⟨(rd_T26 l0 x6_2).f0, (rd_T26 l0 x6_2).f1⟩ : S26) [.int .i64 ((rd_T26 l0 x6_2).f0), .int .i64 ((rd_T26 l0 x6_2).f1)] (fun k_ => k_ ≠ gb133) (fun _ => False) rfl rfl ?aP (fun _ hk => hk.elim) ?aF ?aO ?aB ?aS ?aL ?_; (case aP => exact k26_mkM _ _ _ (⟨(rd_T26 l0 x6_2).f0, (rd_T26 l0 x6_2).f1⟩ : S26)); (case aB => exact (zB1 GE133.out HB.out)); (case aF => exact (fun k_ hk => Kd.freshB (g := gb133) (o := .cells #[.int .i64 a1_0, .int .i64 a1_1] 26 (0, 0)) (zP BK133.out) k_ hk)); (case aO => exact (zR HO_5.out)); (case aS => exact (below_size (zB1 GE133.out HB.out))); (case aL => have := LMc22.out; omega); intro v147 w24 ho hb hg hat; rw [← Ny146.out] at ho; have n0_ := zM (blk_grown (g := gb133) (o := .cells #[.int .i64 a1_0, .int .i64 a1_1] 26 (0, 0)) (zP BK133.out) hg (Kd.R_away HO_5.out (fun _ hk => hk))); have n1_ := zM (hb); have n2_ := zM (ho); clear BK133; clear HB; clear HO_5; have BK133 := n0_; have HB := n1_; have HO148 := n2_; clear n0_ n1_ n2_; clear ho hb hg hat))
          go_roundg k2
          case measure => have := HJ2.out; have := HK2.out; omega
          case rel => exact ⟨(y146), (wrap64 (x6_2 + 1)), zS, H', ⟨by have := HJ2.out; have := HK2.out; omega⟩, ⟨(zR HO148.out)⟩, ⟨(zP BK133.out)⟩, ⟨(zB1 GE133.out HB.out)⟩⟩
         ·rw [if_neg c22] at H
          exact absurd H (by simp)
        ·rw [if_neg c21] at H
         have c21b0 : decide (((rd_T26 l0 x6_2).f1) < a1_0) = false := decide_eq_false c21
         clear c21
         have H' := zM H
         clear H
         try go_wp2
         have n0_ := zM (Kd.R_drew HO_5.out)
         have n1_ := zM (blk_drew BK133.out)
         have n2_ := zM (below_drew1 HB.out)
         clear HO_5
         clear BK133
         clear HB
         have HO_5 := n0_
         have BK133 := n1_
         have HB := n2_
         clear n0_ n1_ n2_
         have p144 : 0 ≤ (x6_2 : Int) := zD
         have q144 : x6_2 < (l0.length : Int) := zD
         obtain ⟨ad144, e144, hx144_0, hx144_1⟩ := at_T26 HR0.out x6_2 p144 q144
         have hw144_1 := hx144_1
         have hw144_0 := hx144_0
         cases e144
         replace hx144_0 := (HB.out.cell (World.block_lt_of_cell? w _ hx144_0)).trans hx144_0
         replace hx144_1 := (HB.out.cell (World.block_lt_of_cell? w _ hx144_1)).trans hx144_1
         replace p144 := eq_true p144
         replace q144 := eq_true q144
         refine start_ (n := 8) (S := fun w' => w'.cell? ⟨gb133, 0, none⟩ = some (.int .i64 a1_0) ∧ w'.cell? ⟨gb133, 1, none⟩ = some (.int .i64 a1_1) ∧ w'.cell? (ad144.add ((x6_2).toNat * 2)) = some (.int .i64 ((rd_T26 l0 x6_2).f0)) ∧ w'.cell? ⟨(ad144.add ((x6_2).toNat * 2)).block, (ad144.add ((x6_2).toNat * 2)).off + 1, none⟩ = some (.int .i64 ((rd_T26 l0 x6_2).f1))) (ds := []) (ba 8 0).toArray (by kernel_rfl) rfl rfl ⟨(blk_cell BK133.out 0).trans rfl, (blk_cell BK133.out 1).trans rfl, ((HB.out.cell (World.block_lt_of_cell? w _ hw144_0)).trans hw144_0), ((HB.out.cell (World.block_lt_of_cell? w _ hw144_1)).trans hw144_1)⟩ (fun hHeld => ?_); refine with_tabW spec_AddSpan.tab7 spec_AddSpan.bits7 (fun HT_ HW_ => ?_)
         generalize wr.drew = w25 at HO_5 BK133 HB hx144_0 hx144_1 hHeld ⊢
         refine zq 0 (some 39) (ba 8 1).toArray HT_ ?_
         refine zq 1 (some 40) (ba 8 3).toArray HT_ ?_
         refine zq 2 (some 41) (ba 8 7).toArray HT_ ?_
         refine zq 3 (some 42) (ba 8 15).toArray HT_ ?_
         refine zq 5 (some 44) (ba 8 47).toArray HT_ ?_
         refine zt4 4 (some 43) (ba 8 63).toArray HT_ HW_ hHeld ?_
         refine zt4 6 (some 45) (ba 8 127).toArray HT_ HW_ hHeld ?_
         refine zq 7 (some 46) (ba 8 255).toArray HT_ ?_
         refine done_ (done_of HT_.out (by kernel_rfl)) ?_
         try go_wp2
         go_roundg k2
         case measure => have := HJ2.out; have := HK2.out; omega
         case rel => exact ⟨(x5_2), (wrap64 (x6_2 + 1)), zS, H', ⟨by have := HJ2.out; have := HK2.out; omega⟩, ⟨(zR HO_5.out)⟩, ⟨(zP BK133.out)⟩, ⟨(zB1 GE133.out HB.out)⟩⟩
       ·rw [if_neg c20] at H
        exact absurd H (by simp)
      ·rw [if_neg c19] at H
       have c19b0 : decide (x6_2 < (l0.length : Int)) = false := decide_eq_false c19
       clear c19
       have H' := zM H
       clear H
       go_wp2
       go_loopg [7] k2 (fun kq v7 w' => ∃ (x7_3 : Int) (x134000_3 : Int) (x134001_3 : Int), v7 = .int .i64 x7_3 ∧ Aside0 (spec_AddSpan.l1 kq l0 x5_2 x7_3 x134000_3 x134001_3 = some r) ∧ Aside0 (kq ≤ k2) ∧ Aside0 (Kd.R k26 26 w' w.heap.size (fun k_ => k_ ≠ gb133) u5 x5_2) ∧ Aside0 (w'.heap[gb133]? = some (.cells #[.int .i64 x134000_3, .int .i64 x134001_3] 26 (0, 0))) ∧ Aside0 (Below w.heap.size w w'))
       case atStart => exact ⟨(0), (a1_0), (a1_1), zS, H', ⟨Nat.le_refl _⟩, ⟨(zR HO_5.out)⟩, ⟨(zP BK133.out)⟩, ⟨(zB1 GE133.out HB.out)⟩⟩
       case round =>
        clear H'
        try clear c1
        try clear p1
        try clear q1
        try clear hx1
        try clear c2
        try clear p2
        try clear c4
        try clear c6
        try clear p6
        try clear c7
        try clear c7b0
        try clear c9
        try clear c9b0
        try clear c11
        try clear c12
        try clear c13
        try clear p14
        try clear q14
        try clear hx14
        try clear c19
        try clear c19b0
        try clear c20
        try clear c20b0
        try clear c21
        try clear c21b0
        try clear c22
        try clear hcz10_0
        try clear hcz10_1
        try clear hcz11_0
        try clear hcz11_1
        try clear hcz8_0
        try clear hcz8_1
        try clear hfz10_0
        try clear hfz10_1
        try clear hfz11_0
        try clear hfz11_1
        try clear hfz8_0
        try clear hfz8_1
        try clear hx144_0
        try clear hx144_1
        try clear hx145_0
        try clear hx145_1
        try clear p144
        try clear p145
        try clear p2
        try clear q144
        try clear q145
        obtain ⟨x7_3, x134000_3, x134001_3, rfl, HA, HK3, HO_5, BK133, HB⟩ := hrel
        cases gk with
        | zero => exact absurd HA.out (by simp [spec_AddSpan.l1])
        | succ k3 =>
         have H := HA.out
         clear HA
         simp only [spec_AddSpan.l1] at H
         by_cases c26 : x7_3 < (l0.length : Int)
         ·rw [if_pos c26] at H
          have c26b0 : decide (x7_3 < (l0.length : Int)) = true := decide_eq_true c26
          clear c26
          have HC27 := zM H
          clear H
          go_upto_region 12 with (fail)
          go_cut [77] (fun v77 wc => ∃ (kq : Nat) (x77_26 : Bool), v77 = .bool x77_26 ∧ Aside0 (spec_AddSpan.j3 kq l0 x5_2 x7_3 x77_26 x134000_3 x134001_3 = some r) ∧ Aside0 (kq ≤ k3) ∧ Aside0 (Kd.R k26 26 wc w.heap.size (fun k_ => k_ ≠ gb133) u5 x5_2) ∧ Aside0 (wc.heap[gb133]? = some (.cells #[.int .i64 x134000_3, .int .i64 x134001_3] 26 (0, 0))) ∧ Aside0 (Below w.heap.size w wc))
          case first =>
           have H := HC27.out
           clear HC27
           by_cases c28 : 0 ≤ x7_3
           ·rw [if_pos c28] at H
            have c28b0 : decide (0 ≤ x7_3) = true := decide_eq_true c28
            clear c28
            (first | rw [c28b0] | (simp only [i64_w, i32_w]; rw [c28b0]) | skip)
            by_cases c29 : ((rd_T26 l0 x7_3).f1) ≥ x134000_3
            ·rw [if_pos c29] at H
             have c29b0 : decide (x134000_3 ≤ ((rd_T26 l0 x7_3).f1)) = true := decide_eq_true c29
             clear c29
             have H' := zM H
             clear H
             try go_wp2
             have n0_ := zM (Kd.R_drew HO_5.out)
             have n1_ := zM (blk_drew BK133.out)
             have n2_ := zM (below_drew1 HB.out)
             clear HO_5
             clear BK133
             clear HB
             have HO_5 := n0_
             have BK133 := n1_
             have HB := n2_
             clear n0_ n1_ n2_
             have p149 : 0 ≤ (x7_3 : Int) := zD
             have q149 : x7_3 < (l0.length : Int) := zD
             obtain ⟨ad149, e149, hx149_0, hx149_1⟩ := at_T26 HR0.out x7_3 p149 q149
             have hw149_1 := hx149_1
             have hw149_0 := hx149_0
             cases e149
             replace hx149_0 := (HB.out.cell (World.block_lt_of_cell? w _ hx149_0)).trans hx149_0
             replace hx149_1 := (HB.out.cell (World.block_lt_of_cell? w _ hx149_1)).trans hx149_1
             replace p149 := eq_true p149
             replace q149 := eq_true q149
             have p150 : 0 ≤ (x7_3 : Int) := zD
             have q150 : x7_3 < (l0.length : Int) := zD
             obtain ⟨ad150, e150, hx150_0, hx150_1⟩ := at_T26 HR0.out x7_3 p150 q150
             have hw150_1 := hx150_1
             have hw150_0 := hx150_0
             obtain rfl : ad149 = ad150 := (by injection e150)
             replace hx150_0 := (HB.out.cell (World.block_lt_of_cell? w _ hx150_0)).trans hx150_0
             replace hx150_1 := (HB.out.cell (World.block_lt_of_cell? w _ hx150_1)).trans hx150_1
             replace p150 := eq_true p150
             replace q150 := eq_true q150
             refine start_ (n := 18) (S := fun w' => w'.cell? ⟨gb133, 0, none⟩ = some (.int .i64 x134000_3) ∧ w'.cell? ⟨gb133, 1, none⟩ = some (.int .i64 x134001_3) ∧ w'.cell? (ad149.add ((x7_3).toNat * 2)) = some (.int .i64 ((rd_T26 l0 x7_3).f0)) ∧ w'.cell? ⟨(ad149.add ((x7_3).toNat * 2)).block, (ad149.add ((x7_3).toNat * 2)).off + 1, none⟩ = some (.int .i64 ((rd_T26 l0 x7_3).f1)) ∧ w'.cell? (ad149.add ((x7_3).toNat * 2)) = some (.int .i64 ((rd_T26 l0 x7_3).f0)) ∧ w'.cell? ⟨(ad149.add ((x7_3).toNat * 2)).block, (ad149.add ((x7_3).toNat * 2)).off + 1, none⟩ = some (.int .i64 ((rd_T26 l0 x7_3).f1))) (ds := []) (ba 18 0).toArray (by kernel_rfl) rfl rfl ⟨(blk_cell BK133.out 0).trans rfl, (blk_cell BK133.out 1).trans rfl, ((HB.out.cell (World.block_lt_of_cell? w _ hw149_0)).trans hw149_0), ((HB.out.cell (World.block_lt_of_cell? w _ hw149_1)).trans hw149_1), ((HB.out.cell (World.block_lt_of_cell? w _ hw150_0)).trans hw150_0), ((HB.out.cell (World.block_lt_of_cell? w _ hw150_1)).trans hw150_1)⟩ (fun hHeld => ?_); refine with_tabW spec_AddSpan.tab12 spec_AddSpan.bits12 (fun HT_ HW_ => ?_)
             generalize wr.drew = w30 at HO_5 BK133 HB hx149_0 hx149_1 hx150_0 hx150_1 hHeld ⊢
             refine zq 0 (some 60) (ba 18 1).toArray HT_ ?_
             refine zq 1 (some 61) (ba 18 3).toArray HT_ ?_
             refine zq 2 (some 62) (ba 18 7).toArray HT_ ?_
             refine zq 3 (some 63) (ba 18 15).toArray HT_ ?_
             refine zq 5 (some 65) (ba 18 47).toArray HT_ ?_
             refine zt6 4 (some 64) (ba 18 63).toArray HT_ HW_ hHeld ?_
             refine zt6 6 (some 66) (ba 18 127).toArray HT_ HW_ hHeld ?_
             refine zq 7 (some 67) (ba 18 255).toArray HT_ ?_
             refine zq 8 (some 68) (ba 18 511).toArray HT_ ?_
             refine zq 9 (some 69) (ba 18 1023).toArray HT_ ?_
             refine zq 10 (some 70) (ba 18 2047).toArray HT_ ?_
             refine zq 11 (some 71) (ba 18 4095).toArray HT_ ?_
             refine zq 12 (some 72) (ba 18 8191).toArray HT_ ?_
             refine zq 14 (some 74) (ba 18 24575).toArray HT_ ?_
             refine zt6 13 (some 73) (ba 18 32767).toArray HT_ HW_ hHeld ?_
             refine zt6 15 (some 75) (ba 18 65535).toArray HT_ HW_ hHeld ?_
             refine zq 16 (some 76) (ba 18 131071).toArray HT_ ?_
             refine zq 17 (some 77) (ba 18 262143).toArray HT_ ?_
             refine done_ (done_of HT_.out (by kernel_rfl)) ?_
             try go_wp2
             go_meet
             case rel => exact ⟨_, (decide (((rd_T26 l0 x7_3).f0) ≤ x134001_3)), zS, H', ⟨by have := HJ2.out; have := HK2.out; have := HK3.out; first | omega | exact Nat.le_refl _⟩, ⟨(zR HO_5.out)⟩, ⟨(zP BK133.out)⟩, ⟨(zB1 GE133.out HB.out)⟩⟩
            ·rw [if_neg c29] at H
             have c29b0 : decide (x134000_3 ≤ ((rd_T26 l0 x7_3).f1)) = false := decide_eq_false c29
             clear c29
             have H' := zM H
             clear H
             try go_wp2
             have n0_ := zM (Kd.R_drew HO_5.out)
             have n1_ := zM (blk_drew BK133.out)
             have n2_ := zM (below_drew1 HB.out)
             clear HO_5
             clear BK133
             clear HB
             have HO_5 := n0_
             have BK133 := n1_
             have HB := n2_
             clear n0_ n1_ n2_
             have p149 : 0 ≤ (x7_3 : Int) := zD
             have q149 : x7_3 < (l0.length : Int) := zD
             obtain ⟨ad149, e149, hx149_0, hx149_1⟩ := at_T26 HR0.out x7_3 p149 q149
             have hw149_1 := hx149_1
             have hw149_0 := hx149_0
             cases e149
             replace hx149_0 := (HB.out.cell (World.block_lt_of_cell? w _ hx149_0)).trans hx149_0
             replace hx149_1 := (HB.out.cell (World.block_lt_of_cell? w _ hx149_1)).trans hx149_1
             replace p149 := eq_true p149
             replace q149 := eq_true q149
             refine start_ (n := 18) (S := fun w' => w'.cell? ⟨gb133, 0, none⟩ = some (.int .i64 x134000_3) ∧ w'.cell? ⟨gb133, 1, none⟩ = some (.int .i64 x134001_3) ∧ w'.cell? (ad149.add ((x7_3).toNat * 2)) = some (.int .i64 ((rd_T26 l0 x7_3).f0)) ∧ w'.cell? ⟨(ad149.add ((x7_3).toNat * 2)).block, (ad149.add ((x7_3).toNat * 2)).off + 1, none⟩ = some (.int .i64 ((rd_T26 l0 x7_3).f1))) (ds := []) (ba 18 0).toArray (by kernel_rfl) rfl rfl ⟨(blk_cell BK133.out 0).trans rfl, (blk_cell BK133.out 1).trans rfl, ((HB.out.cell (World.block_lt_of_cell? w _ hw149_0)).trans hw149_0), ((HB.out.cell (World.block_lt_of_cell? w _ hw149_1)).trans hw149_1)⟩ (fun hHeld => ?_); refine with_tabW spec_AddSpan.tab12 spec_AddSpan.bits12 (fun HT_ HW_ => ?_)
             generalize wr.drew = w31 at HO_5 BK133 HB hx149_0 hx149_1 hHeld ⊢
             refine zq 0 (some 60) (ba 18 1).toArray HT_ ?_
             refine zq 1 (some 61) (ba 18 3).toArray HT_ ?_
             refine zq 2 (some 62) (ba 18 7).toArray HT_ ?_
             refine zq 3 (some 63) (ba 18 15).toArray HT_ ?_
             refine zq 5 (some 65) (ba 18 47).toArray HT_ ?_
             refine zt4 4 (some 64) (ba 18 63).toArray HT_ HW_ hHeld ?_
             refine zt4 6 (some 66) (ba 18 127).toArray HT_ HW_ hHeld ?_
             refine zq 7 (some 67) (ba 18 255).toArray HT_ ?_
             refine zq 8 (some 68) (ba 18 511).toArray HT_ ?_
             refine zu 9 (some 69) (ba 18 1023).toArray HT_ ?_
             refine zu 10 (some 70) (ba 18 2047).toArray HT_ ?_
             refine zu 11 (some 71) (ba 18 4095).toArray HT_ ?_
             refine zu 12 (some 72) (ba 18 8191).toArray HT_ ?_
             refine zu 13 (some 73) (ba 18 16383).toArray HT_ ?_
             refine zu 14 (some 74) (ba 18 32767).toArray HT_ ?_
             refine zu 15 (some 75) (ba 18 65535).toArray HT_ ?_
             refine zu 16 (some 76) (ba 18 131071).toArray HT_ ?_
             refine zq 17 (some 77) (ba 18 262143).toArray HT_ ?_
             refine done_ (done_of HT_.out (by kernel_rfl)) ?_
             try go_wp2
             go_meet
             case rel => exact ⟨_, (false), zS, H', ⟨by have := HJ2.out; have := HK2.out; have := HK3.out; first | omega | exact Nat.le_refl _⟩, ⟨(zR HO_5.out)⟩, ⟨(zP BK133.out)⟩, ⟨(zB1 GE133.out HB.out)⟩⟩
           ·rw [if_neg c28] at H
            exact absurd H (by simp)
          case rest =>
           clear HC27
           try clear c1
           try clear p1
           try clear q1
           try clear hx1
           try clear c2
           try clear p2
           try clear c4
           try clear c6
           try clear p6
           try clear c7
           try clear c7b0
           try clear c9
           try clear c9b0
           try clear c11
           try clear c12
           try clear c13
           try clear p14
           try clear q14
           try clear hx14
           try clear p15
           try clear q15
           try clear hx15
           try clear c19
           try clear c19b0
           try clear c20
           try clear c20b0
           try clear c21
           try clear c21b0
           try clear c22
           try clear c26
           try clear c26b0
           try clear c28
           try clear c28b0
           try clear c29
           try clear c29b0
           try clear hcz10_0
           try clear hcz10_1
           try clear hcz11_0
           try clear hcz11_1
           try clear hcz8_0
           try clear hcz8_1
           try clear hfz10_0
           try clear hfz10_1
           try clear hfz11_0
           try clear hfz11_1
           try clear hfz8_0
           try clear hfz8_1
           try clear hx144_0
           try clear hx144_1
           try clear hx145_0
           try clear hx145_1
           try clear hx149_0
           try clear hx149_1
           try clear hx150_0
           try clear hx150_1
           try clear p1
           try clear p14
           try clear p144
           try clear p145
           try clear p149
           try clear p150
           try clear p2
           try clear p6
           try clear q1
           try clear q14
           try clear q144
           try clear q145
           try clear q149
           try clear q150
           obtain ⟨kq, x77_26, rfl, HA, HJ26, HO_5, BK133, HB⟩ := hcut
           cases kq with
           | zero => exact absurd HA.out (by simp [spec_AddSpan.j3])
           | succ kj26 =>
            have H := HA.out
            clear HA
            simp only [spec_AddSpan.j3] at H
            by_cases c32 : x77_26 = true
            ·subst c32
             rw [if_pos rfl] at H
             by_cases c33 : 0 ≤ x7_3
             ·rw [if_pos c33] at H
              have c33b0 : decide (0 ≤ x7_3) = true := decide_eq_true c33
              clear c33
              by_cases c34 : x7_3 < (l0.length : Int)
              ·rw [if_pos c34] at H
               have c34b0 : decide (x7_3 < (l0.length : Int)) = true := decide_eq_true c34
               clear c34
               replace H := Option.bind_eq_some_iff.mp H
               obtain ⟨t152, A350, H⟩ := H
               try dsimp only at H
               have A35 := zM A350
               clear A350
               replace H := Option.bind_eq_some_iff.mp H
               obtain ⟨t154, A360, H⟩ := H
               try dsimp only at H
               have A36 := zM A360
               clear A360
               have H' := zM H
               clear H
               try go_wp2
               have n0_ := zM (Kd.R_drew HO_5.out)
               have n1_ := zM (blk_drew BK133.out)
               have n2_ := zM (below_drew1 HB.out)
               clear HO_5
               clear BK133
               clear HB
               have HO_5 := n0_
               have BK133 := n1_
               have HB := n2_
               clear n0_ n1_ n2_
               have p151 : 0 ≤ (x7_3 : Int) := zD
               have q151 : x7_3 < (l0.length : Int) := zD
               obtain ⟨ad151, e151, hx151_0, hx151_1⟩ := at_T26 HR0.out x7_3 p151 q151
               have hw151_1 := hx151_1
               have hw151_0 := hx151_0
               cases e151
               replace hx151_0 := (HB.out.cell (World.block_lt_of_cell? w _ hx151_0)).trans hx151_0
               replace hx151_1 := (HB.out.cell (World.block_lt_of_cell? w _ hx151_1)).trans hx151_1
               replace p151 := eq_true p151
               replace q151 := eq_true q151
               have p153 : 0 ≤ (x7_3 : Int) := zD
               have q153 : x7_3 < (l0.length : Int) := zD
               obtain ⟨ad153, e153, hx153_0, hx153_1⟩ := at_T26 HR0.out x7_3 p153 q153
               have hw153_1 := hx153_1
               have hw153_0 := hx153_0
               obtain rfl : ad151 = ad153 := (by injection e153)
               replace hx153_0 := (HB.out.cell (World.block_lt_of_cell? w _ hx153_0)).trans hx153_0
               replace hx153_1 := (HB.out.cell (World.block_lt_of_cell? w _ hx153_1)).trans hx153_1
               replace p153 := eq_true p153
               replace q153 := eq_true q153
               refine start_ (n := 18) (S := fun w' => w'.cell? ⟨gb133, 0, none⟩ = some (.int .i64 x134000_3) ∧ w'.cell? ⟨gb133, 1, none⟩ = some (.int .i64 x134001_3) ∧ w'.cell? (ad151.add ((x7_3).toNat * 2)) = some (.int .i64 ((rd_T26 l0 x7_3).f0)) ∧ w'.cell? ⟨(ad151.add ((x7_3).toNat * 2)).block, (ad151.add ((x7_3).toNat * 2)).off + 1, none⟩ = some (.int .i64 ((rd_T26 l0 x7_3).f1)) ∧ w'.cell? (ad151.add ((x7_3).toNat * 2)) = some (.int .i64 ((rd_T26 l0 x7_3).f0)) ∧ w'.cell? ⟨(ad151.add ((x7_3).toNat * 2)).block, (ad151.add ((x7_3).toNat * 2)).off + 1, none⟩ = some (.int .i64 ((rd_T26 l0 x7_3).f1))) (ds := [17]) (ba 18 0).toArray (by kernel_rfl) rfl rfl ⟨(blk_cell BK133.out 0).trans rfl, (blk_cell BK133.out 1).trans rfl, ((HB.out.cell (World.block_lt_of_cell? w _ hw151_0)).trans hw151_0), ((HB.out.cell (World.block_lt_of_cell? w _ hw151_1)).trans hw151_1), ((HB.out.cell (World.block_lt_of_cell? w _ hw153_0)).trans hw153_0), ((HB.out.cell (World.block_lt_of_cell? w _ hw153_1)).trans hw153_1)⟩ (fun hHeld => ?_); refine with_tabW spec_AddSpan.tab13 spec_AddSpan.bits13 (fun HT_ HW_ => ?_)
               generalize wc.drew = w37 at HO_5 BK133 HB hx151_0 hx151_1 hx153_0 hx153_1 hHeld ⊢
               refine zq 0 (some 78) (ba 18 1).toArray HT_ ?_
               refine zq 2 (some 80) (ba 18 5).toArray HT_ ?_
               refine zq 3 (some 81) (ba 18 13).toArray HT_ ?_
               refine zq 4 (some 82) (ba 18 29).toArray HT_ ?_
               refine zq 5 (some 83) (ba 18 61).toArray HT_ ?_
               refine zq 8 (some 86) (ba 18 317).toArray HT_ ?_
               refine zq 10 (some 88) (ba 18 1341).toArray HT_ ?_
               refine zq 11 (some 89) (ba 18 3389).toArray HT_ ?_
               refine zq 12 (some 90) (ba 18 7485).toArray HT_ ?_
               refine zq 13 (some 91) (ba 18 15677).toArray HT_ ?_
               refine zt6 1 (some 79) (ba 18 15679).toArray HT_ HW_ hHeld ?_
               refine zt6 6 (some 84) (ba 18 15743).toArray HT_ HW_ hHeld ?_
               refine zt6 9 (some 87) (ba 18 16255).toArray HT_ HW_ hHeld ?_
               refine zt6 14 (some 92) (ba 18 32639).toArray HT_ HW_ hHeld ?_
               refine one_ (i := 7) (N := some 85) (ba 18 32767).toArray rfl rfl (one_of HT_.out (by kernel_rfl)) (by decide) (fun K hK => ?_)
               refine goes_ Try.func55 (by kernel_rfl) rfl #[.int .i64 x134000_3, .int .i64 ((rd_T26 l0 x7_3).f0)] (by rfl) rfl rfl (by (try simp only [List.map_toArray, List.map_cons, List.map_nil]); first | done | rfl | (simp only [List.length_drop, List.length_take]; rfl)) ?_
               with_reducible refine (spec_Min.calls x134000_3 ((rd_T26 l0 x7_3).f0) t152 _ A35.out).mono ?_
               rintro e w' ⟨rfl, ⟨nd, rfl⟩⟩
               refine ⟨_, rfl, ?_⟩
               refine hK.out _ _ ⟨(blk_cell BK133.out 0).trans rfl, (blk_cell BK133.out 1).trans rfl, ((HB.out.cell (World.block_lt_of_cell? w _ hw151_0)).trans hw151_0), ((HB.out.cell (World.block_lt_of_cell? w _ hw151_1)).trans hw151_1), ((HB.out.cell (World.block_lt_of_cell? w _ hw153_0)).trans hw153_0), ((HB.out.cell (World.block_lt_of_cell? w _ hw153_1)).trans hw153_1)⟩ (fun hHeld => ?_)
               clear hK K
               refine norm_ (a' := ?_) ?_ ?_
               rotate_left
               ·show Act.put _ (some 85) _ = _
                simp only [Act.put, List.setIfInBounds_toArray, List.set_cons_zero, List.set_cons_succ, i64_w, i32_w]
                rfl
               refine one_ (i := 15) (N := some 93) (ba 18 65535).toArray rfl rfl (one_of HT_.out (by kernel_rfl)) (by decide) (fun K hK => ?_)
               refine goes_ Try.func56 (by kernel_rfl) rfl #[.int .i64 x134001_3, .int .i64 ((rd_T26 l0 x7_3).f1)] (by rfl) rfl rfl (by (try simp only [List.map_toArray, List.map_cons, List.map_nil]); first | done | rfl | (simp only [List.length_drop, List.length_take]; rfl)) ?_
               with_reducible refine (spec_Max.calls x134001_3 ((rd_T26 l0 x7_3).f1) t154 _ A36.out).mono ?_
               rintro e w' ⟨rfl, ⟨nd, rfl⟩⟩
               refine ⟨_, rfl, ?_⟩
               refine hK.out _ _ ⟨(blk_cell BK133.out 0).trans rfl, (blk_cell BK133.out 1).trans rfl, ((HB.out.cell (World.block_lt_of_cell? w _ hw151_0)).trans hw151_0), ((HB.out.cell (World.block_lt_of_cell? w _ hw151_1)).trans hw151_1), ((HB.out.cell (World.block_lt_of_cell? w _ hw153_0)).trans hw153_0), ((HB.out.cell (World.block_lt_of_cell? w _ hw153_1)).trans hw153_1)⟩ (fun hHeld => ?_)
               clear hK K
               refine norm_ (a' := ?_) ?_ ?_
               rotate_left
               ·show Act.put _ (some 93) _ = _
                simp only [Act.put, List.setIfInBounds_toArray, List.set_cons_zero, List.set_cons_succ, i64_w, i32_w]
                rfl
               refine zq 16 (some 94) (ba 18 131071).toArray HT_ ?_
               refine last_ (i := 17) (N := none) (ba 18 262143).toArray rfl rfl (one_of HT_.out (by kernel_rfl)) (by decide) (fun K hK => ?_)
               have hs38 : w37.cell? ⟨gb133, 0, none⟩ = some (.int .i64 x134000_3) := (blk_cell BK133.out 0).trans rfl
               have hfs38 := blk_frozen BK133.out 0
               have hs39 : w37.cell? ⟨gb133, 1, none⟩ = some (.int .i64 x134001_3) := (blk_cell BK133.out 1).trans rfl
               have hfs39 := blk_frozen BK133.out 1
               refine skip_ (w1 := ?_) (by rfl) rfl ?_ ?_
               rotate_left
               ·go_simp
                rfl
               refine hK.out _ _ ?_
               clear hK K
               refine done_ (done_of HT_.out (by kernel_rfl)) ?_
               try go_wp2
               go_roundg kj26
               case measure => have := HJ2.out; have := HK2.out; have := HK3.out; have := HJ26.out; omega
               case rel => exact ⟨(wrap64 (x7_3 + 1)), (t152), (t154), zS, H', ⟨by have := HJ2.out; have := HK2.out; have := HK3.out; have := HJ26.out; omega⟩, ⟨by (with_reducible repeat (first | apply Kd.R_alloc | apply Kd.R_drewN | apply Kd.R_drew)); exact Kd.R_mono (Kd.R_far (p := ⟨gb133, 1, none⟩) (Kd.R_far (p := ⟨gb133, 0, none⟩) (Kd.R_mono HO_5.out (fun k_ hk => (⟨hk, hk⟩ : _ ∧ k_ ≠ gb133))) (fun _ hk => hk.2) (.int .i64 t152)) (fun _ hk => hk.2) (.int .i64 t154)) (fun _ hk => hk.1)⟩, ⟨by (with_reducible repeat (first | refine blk_drewN ?_ _ | refine blk_drew ?_ | refine blk_alloc ?_ _)); refine blk_put (cs := #[.int .i64 t152, .int .i64 x134001_3]) ?_ 1 _ rfl; (with_reducible repeat (first | refine blk_drewN ?_ _ | refine blk_drew ?_ | refine blk_alloc ?_ _)); refine blk_put (cs := #[.int .i64 x134000_3, .int .i64 x134001_3]) ?_ 0 _ rfl; (with_reducible repeat (first | refine blk_drewN ?_ _ | refine blk_drew ?_ | refine blk_alloc ?_ _)); exact BK133.out⟩, ⟨(zB1 GE133.out HB.out)⟩⟩
              ·rw [if_neg c34] at H
               exact absurd H (by simp)
             ·rw [if_neg c33] at H
              exact absurd H (by simp)
            ·replace c32 := Bool.eq_false_iff.mpr c32
             subst c32
             rw [if_neg (show ¬ (false = true) by decide)] at H
             have H' := zM H
             clear H
             go_wp2
             go_roundg kj26
             case measure => have := HJ2.out; have := HK2.out; have := HK3.out; have := HJ26.out; omega
             case rel => exact ⟨(wrap64 (x7_3 + 1)), (x134000_3), (x134001_3), zS, H', ⟨by have := HJ2.out; have := HK2.out; have := HK3.out; have := HJ26.out; omega⟩, ⟨(zR HO_5.out)⟩, ⟨(zP BK133.out)⟩, ⟨(zB1 GE133.out HB.out)⟩⟩
         ·rw [if_neg c26] at H
          have c26b0 : decide (x7_3 < (l0.length : Int)) = false := decide_eq_false c26
          clear c26
          by_cases c40 : x5_2.length < 8796093022208
          ·rw [if_pos c40] at H
           have LMc40 := zM c40
           clear c40
           obtain ⟨y155, hy155⟩ : ∃ y_ : List (S26), y_ = (x5_2 ++ [(⟨x134000_3, x134001_3⟩ : S26)]) := ⟨_, rfl⟩
           replace H : (spec_AddSpan.l2 k3 l0 y155 0 x134000_3 x134001_3) = some r := zH hy155 H
           have Ny155 := zM hy155
           clear hy155
           have H' := zM H
           clear H
           have hcz41_0 : wr.cell? ⟨gb133, 0, none⟩ = some (.int .i64 x134000_3) := (blk_cell BK133.out 0).trans rfl
           have hcz41_1 : wr.cell? ⟨gb133, 1, none⟩ = some (.int .i64 x134001_3) := (blk_cell BK133.out 1).trans rfl
           have hfz41_0 := blk_frozen BK133.out 0
           have hfz41_1 := blk_frozen BK133.out 1
           go_wp2_with (first | ((with_reducible refine gate_builtin (b := .append) (xs := #[.tmp 95, .tmp 97]) rfl ?_); at_builtin; refine Kd.R_append k26 (w0 := w) w.heap.size rfl (.tmp 95) (.tmp 97) 24 26 (.agg #[(.int .i64 0), (.int .i64 0)]) 16 rfl Try.underlying24 info26 rfl (by decide) (by omega) u5 x5_2 (⟨x134000_3, x134001_3⟩ : S26) [.int .i64 x134000_3, .int .i64 x134001_3] (fun k_ => k_ ≠ gb133) (fun _ => False) rfl rfl ?aP (fun _ hk => hk.elim) ?aF ?aO ?aB ?aS ?aL ?_; (case aP => exact k26_mkM _ _ _ (⟨x134000_3, x134001_3⟩ : S26)); (case aB => exact (zB1 GE133.out HB.out)); (case aF => exact (fun k_ hk => Kd.freshB (g := gb133) (o := .cells #[.int .i64 x134000_3, .int .i64 x134001_3] 26 (0, 0)) (zP BK133.out) k_ hk)); (case aO => exact (zR HO_5.out)); (case aS => exact (below_size (zB1 GE133.out HB.out))); (case aL => have := LMc40.out; omega); intro v156 w42 ho hb hg hat; rw [← Ny155.out] at ho; have n0_ := zM (blk_grown (g := gb133) (o := .cells #[.int .i64 x134000_3, .int .i64 x134001_3] 26 (0, 0)) (zP BK133.out) hg (Kd.R_away HO_5.out (fun _ hk => hk))); have n1_ := zM (hb); have n2_ := zM (ho); clear BK133; clear HB; clear HO_5; have BK133 := n0_; have HB := n1_; have HO157 := n2_; clear n0_ n1_ n2_; clear ho hb hg hat))
           go_loopg [5, 8] k3 (fun kq v5 v8 w' => ∃ (x5_4 : List (S26)) (x8_4 : Int), v8 = .int .i64 x8_4 ∧ Aside0 (spec_AddSpan.l2 kq l0 x5_4 x8_4 x134000_3 x134001_3 = some r) ∧ Aside0 (kq ≤ k3) ∧ Aside0 (Kd.R k26 26 w' w.heap.size (fun k_ => k_ ≠ gb133) v5 x5_4) ∧ Aside0 (w'.heap[gb133]? = some (.cells #[.int .i64 x134000_3, .int .i64 x134001_3] 26 (0, 0))) ∧ Aside0 (Below w.heap.size w w'))
           case atStart => exact ⟨(y155), (0), zS, H', ⟨Nat.le_refl _⟩, ⟨(zR HO157.out)⟩, ⟨(zP BK133.out)⟩, ⟨(zB1 GE133.out HB.out)⟩⟩
           case round =>
            clear H'
            try clear c1
            try clear p1
            try clear q1
            try clear hx1
            try clear c2
            try clear p2
            try clear c3
            try clear c4
            try clear c5
            try clear c6
            try clear p6
            try clear c7
            try clear c7b0
            try clear c9
            try clear c9b0
            try clear c11
            try clear c12
            try clear c13
            try clear p14
            try clear q14
            try clear hx14
            try clear p15
            try clear q15
            try clear hx15
            try clear c19
            try clear c19b0
            try clear c20
            try clear c20b0
            try clear c21
            try clear c21b0
            try clear c22
            try clear c26
            try clear c26b0
            try clear c28
            try clear c28b0
            try clear c29
            try clear c29b0
            try clear c32
            try clear c33
            try clear c33b0
            try clear c34
            try clear c34b0
            try clear c40
            try clear hcz10_0
            try clear hcz10_1
            try clear hcz11_0
            try clear hcz11_1
            try clear hcz41_0
            try clear hcz41_1
            try clear hcz8_0
            try clear hcz8_1
            try clear hfz10_0
            try clear hfz10_1
            try clear hfz11_0
            try clear hfz11_1
            try clear hfz41_0
            try clear hfz41_1
            try clear hfz8_0
            try clear hfz8_1
            try clear hx144_0
            try clear hx144_1
            try clear hx145_0
            try clear hx145_1
            try clear hx149_0
            try clear hx149_1
            try clear hx150_0
            try clear hx150_1
            try clear hx151_0
            try clear hx151_1
            try clear hx153_0
            try clear hx153_1
            try clear p1
            try clear p14
            try clear p144
            try clear p145
            try clear p149
            try clear p15
            try clear p150
            try clear p151
            try clear p153
            try clear p2
            try clear p6
            try clear q1
            try clear q14
            try clear q144
            try clear q145
            try clear q149
            try clear q15
            try clear q150
            try clear q151
            try clear q153
            obtain ⟨x5_4, x8_4, rfl, HA, HK4, HO_5, BK133, HB⟩ := hrel
            cases gk with
            | zero => exact absurd HA.out (by simp [spec_AddSpan.l2])
            | succ k4 =>
             have H := HA.out
             clear HA
             simp only [spec_AddSpan.l2] at H
             by_cases c43 : x8_4 < (l0.length : Int)
             ·rw [if_pos c43] at H
              have c43b0 : decide (x8_4 < (l0.length : Int)) = true := decide_eq_true c43
              clear c43
              by_cases c44 : 0 ≤ x8_4
              ·rw [if_pos c44] at H
               have c44b0 : decide (0 ≤ x8_4) = true := decide_eq_true c44
               clear c44
               by_cases c45 : ((rd_T26 l0 x8_4).f0) > x134001_3
               ·rw [if_pos c45] at H
                have c45b0 : decide (x134001_3 < ((rd_T26 l0 x8_4).f0)) = true := decide_eq_true c45
                clear c45
                by_cases c46 : x5_4.length < 8796093022208
                ·rw [if_pos c46] at H
                 have LMc46 := zM c46
                 clear c46
                 obtain ⟨y160, hy160⟩ : ∃ y_ : List (S26), y_ = (x5_4 ++ [(⟨(rd_T26 l0 x8_4).f0, (rd_T26 l0 x8_4).f1⟩ : S26)]) := ⟨_, rfl⟩
                 replace H : (spec_AddSpan.l2 k4 l0 y160 (wrap64 (x8_4 + 1)) x134000_3 x134001_3) = some r := zH hy160 H
                 have Ny160 := zM hy160
                 clear hy160
                 have H' := zM H
                 clear H
                 try go_wp2
                 have n0_ := zM (Kd.R_drew HO_5.out)
                 have n1_ := zM (blk_drew BK133.out)
                 have n2_ := zM (below_drew1 HB.out)
                 clear HO_5
                 clear BK133
                 clear HB
                 have HO_5 := n0_
                 have BK133 := n1_
                 have HB := n2_
                 clear n0_ n1_ n2_
                 have p158 : 0 ≤ (x8_4 : Int) := zD
                 have q158 : x8_4 < (l0.length : Int) := zD
                 obtain ⟨ad158, e158, hx158_0, hx158_1⟩ := at_T26 HR0.out x8_4 p158 q158
                 have hw158_1 := hx158_1
                 have hw158_0 := hx158_0
                 cases e158
                 replace hx158_0 := (HB.out.cell (World.block_lt_of_cell? w _ hx158_0)).trans hx158_0
                 replace hx158_1 := (HB.out.cell (World.block_lt_of_cell? w _ hx158_1)).trans hx158_1
                 replace p158 := eq_true p158
                 replace q158 := eq_true q158
                 refine start_ (n := 8) (S := fun w' => w'.cell? ⟨gb133, 0, none⟩ = some (.int .i64 x134000_3) ∧ w'.cell? ⟨gb133, 1, none⟩ = some (.int .i64 x134001_3) ∧ w'.cell? (ad158.add ((x8_4).toNat * 2)) = some (.int .i64 ((rd_T26 l0 x8_4).f0)) ∧ w'.cell? ⟨(ad158.add ((x8_4).toNat * 2)).block, (ad158.add ((x8_4).toNat * 2)).off + 1, none⟩ = some (.int .i64 ((rd_T26 l0 x8_4).f1))) (ds := []) (ba 8 0).toArray (by kernel_rfl) rfl rfl ⟨(blk_cell BK133.out 0).trans rfl, (blk_cell BK133.out 1).trans rfl, ((HB.out.cell (World.block_lt_of_cell? w _ hw158_0)).trans hw158_0), ((HB.out.cell (World.block_lt_of_cell? w _ hw158_1)).trans hw158_1)⟩ (fun hHeld => ?_); refine with_tabW spec_AddSpan.tab18 spec_AddSpan.bits18 (fun HT_ HW_ => ?_)
                 generalize wr.drew = w47 at HO_5 BK133 HB hx158_0 hx158_1 hHeld ⊢
                 refine zq 0 (some 105) (ba 8 1).toArray HT_ ?_
                 refine zq 1 (some 106) (ba 8 3).toArray HT_ ?_
                 refine zq 2 (some 107) (ba 8 7).toArray HT_ ?_
                 refine zq 3 (some 108) (ba 8 15).toArray HT_ ?_
                 refine zq 5 (some 110) (ba 8 47).toArray HT_ ?_
                 refine zt4 4 (some 109) (ba 8 63).toArray HT_ HW_ hHeld ?_
                 refine zt4 6 (some 111) (ba 8 127).toArray HT_ HW_ hHeld ?_
                 refine zq 7 (some 112) (ba 8 255).toArray HT_ ?_
                 refine done_ (done_of HT_.out (by kernel_rfl)) ?_
                 have p159 : 0 ≤ (x8_4 : Int) := zD
                 have q159 : x8_4 < (l0.length : Int) := zD
                 obtain ⟨ad159, e159, hx159_0, hx159_1⟩ := at_T26 HR0.out x8_4 p159 q159
                 obtain rfl : ad158 = ad159 := (by injection e159)
                 replace hx159_0 := (HB.out.cell (World.block_lt_of_cell? w _ hx159_0)).trans hx159_0
                 replace hx159_1 := (HB.out.cell (World.block_lt_of_cell? w _ hx159_1)).trans hx159_1
                 replace p159 := eq_true p159
                 replace q159 := eq_true q159
                 try go_wp2_with (first | ((with_reducible refine gate_builtin (b := .append) (xs := #[.tmp 113, .tmp 118]) rfl ?_); at_builtin; refine Kd.R_append k26 (w0 := w) w.heap.size rfl (.tmp 113) (.tmp 118) 24 26 (.agg #[(.int .i64 0), (.int .i64 0)]) 16 rfl Try.underlying24 info26 rfl (by decide) (by omega) u5 x5_4 (⟨(rd_T26 l0 x8_4).f0, (rd_T26 l0 x8_4).f1⟩ : S26) [.int .i64 ((rd_T26 l0 x8_4).f0), .int .i64 ((rd_T26 l0 x8_4).f1)] (fun k_ => k_ ≠ gb133) (fun _ => False) rfl rfl ?aP (fun _ hk => hk.elim) ?aF ?aO ?aB ?aS ?aL ?_; (case aP => exact k26_mkM _ _ _ (⟨(rd_T26 l0 x8_4).f0, (rd_T26 l0 x8_4).f1⟩ : S26)); (case aB => exact (zB1 GE133.out HB.out)); (case aF => exact (fun k_ hk => Kd.freshB (g := gb133) (o := .cells #[.int .i64 x134000_3, .int .i64 x134001_3] 26 (0, 0)) (zP BK133.out) k_ hk)); (case aO => exact (zR HO_5.out)); (case aS => exact (below_size (zB1 GE133.out HB.out))); (case aL => have := LMc46.out; omega); intro v161 w48 ho hb hg hat; rw [← Ny160.out] at ho; have n0_ := zM (blk_grown (g := gb133) (o := .cells #[.int .i64 x134000_3, .int .i64 x134001_3] 26 (0, 0)) (zP BK133.out) hg (Kd.R_away HO_5.out (fun _ hk => hk))); have n1_ := zM (hb); have n2_ := zM (ho); clear BK133; clear HB; clear HO_5; have BK133 := n0_; have HB := n1_; have HO162 := n2_; clear n0_ n1_ n2_; clear ho hb hg hat))
                 go_roundg k4
                 case measure => have := HJ2.out; have := HK2.out; have := HK3.out; have := HK4.out; omega
                 case rel => exact ⟨(y160), (wrap64 (x8_4 + 1)), zS, H', ⟨by have := HJ2.out; have := HK2.out; have := HK3.out; have := HK4.out; omega⟩, ⟨(zR HO162.out)⟩, ⟨(zP BK133.out)⟩, ⟨(zB1 GE133.out HB.out)⟩⟩
                ·rw [if_neg c46] at H
                 exact absurd H (by simp)
               ·rw [if_neg c45] at H
                have c45b0 : decide (x134001_3 < ((rd_T26 l0 x8_4).f0)) = false := decide_eq_false c45
                clear c45
                have H' := zM H
                clear H
                try go_wp2
                have n0_ := zM (Kd.R_drew HO_5.out)
                have n1_ := zM (blk_drew BK133.out)
                have n2_ := zM (below_drew1 HB.out)
                clear HO_5
                clear BK133
                clear HB
                have HO_5 := n0_
                have BK133 := n1_
                have HB := n2_
                clear n0_ n1_ n2_
                have p158 : 0 ≤ (x8_4 : Int) := zD
                have q158 : x8_4 < (l0.length : Int) := zD
                obtain ⟨ad158, e158, hx158_0, hx158_1⟩ := at_T26 HR0.out x8_4 p158 q158
                have hw158_1 := hx158_1
                have hw158_0 := hx158_0
                cases e158
                replace hx158_0 := (HB.out.cell (World.block_lt_of_cell? w _ hx158_0)).trans hx158_0
                replace hx158_1 := (HB.out.cell (World.block_lt_of_cell? w _ hx158_1)).trans hx158_1
                replace p158 := eq_true p158
                replace q158 := eq_true q158
                refine start_ (n := 8) (S := fun w' => w'.cell? ⟨gb133, 0, none⟩ = some (.int .i64 x134000_3) ∧ w'.cell? ⟨gb133, 1, none⟩ = some (.int .i64 x134001_3) ∧ w'.cell? (ad158.add ((x8_4).toNat * 2)) = some (.int .i64 ((rd_T26 l0 x8_4).f0)) ∧ w'.cell? ⟨(ad158.add ((x8_4).toNat * 2)).block, (ad158.add ((x8_4).toNat * 2)).off + 1, none⟩ = some (.int .i64 ((rd_T26 l0 x8_4).f1))) (ds := []) (ba 8 0).toArray (by kernel_rfl) rfl rfl ⟨(blk_cell BK133.out 0).trans rfl, (blk_cell BK133.out 1).trans rfl, ((HB.out.cell (World.block_lt_of_cell? w _ hw158_0)).trans hw158_0), ((HB.out.cell (World.block_lt_of_cell? w _ hw158_1)).trans hw158_1)⟩ (fun hHeld => ?_); refine with_tabW spec_AddSpan.tab18 spec_AddSpan.bits18 (fun HT_ HW_ => ?_)
                generalize wr.drew = w49 at HO_5 BK133 HB hx158_0 hx158_1 hHeld ⊢
                refine zq 0 (some 105) (ba 8 1).toArray HT_ ?_
                refine zq 1 (some 106) (ba 8 3).toArray HT_ ?_
                refine zq 2 (some 107) (ba 8 7).toArray HT_ ?_
                refine zq 3 (some 108) (ba 8 15).toArray HT_ ?_
                refine zq 5 (some 110) (ba 8 47).toArray HT_ ?_
                refine zt4 4 (some 109) (ba 8 63).toArray HT_ HW_ hHeld ?_
                refine zt4 6 (some 111) (ba 8 127).toArray HT_ HW_ hHeld ?_
                refine zq 7 (some 112) (ba 8 255).toArray HT_ ?_
                refine done_ (done_of HT_.out (by kernel_rfl)) ?_
                try go_wp2
                go_roundg k4
                case measure => have := HJ2.out; have := HK2.out; have := HK3.out; have := HK4.out; omega
                case rel => exact ⟨(x5_4), (wrap64 (x8_4 + 1)), zS, H', ⟨by have := HJ2.out; have := HK2.out; have := HK3.out; have := HK4.out; omega⟩, ⟨(zR HO_5.out)⟩, ⟨(zP BK133.out)⟩, ⟨(zB1 GE133.out HB.out)⟩⟩
              ·rw [if_neg c44] at H
               exact absurd H (by simp)
             ·rw [if_neg c43] at H
              have c43b0 : decide (x8_4 < (l0.length : Int)) = false := decide_eq_false c43
              clear c43
              obtain rfl := Option.some.inj H
              go_wp2
              go_ret
              exact ⟨_, zE, (zRm HO_5.out (fun _ hk => trivial)), (zB1 GE133.out HB.out)⟩
          ·rw [if_neg c40] at H
           exact absurd H (by simp)

end Go.Proofs.Yteahdfibipalkaa.G

namespace Go.Proofs.Yteahdfibipalkaa.G
open Go.RowKit Go.Proofs.YteahdfibipalkaaW.PrintWords Go.Proofs.YteahdfibipalkaaW.PrintLast Go.Proofs.YteahdfibipalkaaW.PrintMore
attribute [local go_sem] max2_int min2_int max_two min_two max_three min_three max_four min_four   -- for this text's walks alone
set_option linter.unusedVariables false
set_option linter.unusedSimpArgs false

/-! ### spec_SpansOf: function 44 -/
def spec_SpansOf.T5 : Bool × List (List Nat × List Nat) := (true, [([], []), ([], []), ([], []), ([1, 2], [1, 2]), ([3], [3]), ([4], [4]), ([], []), ([], []), ([6, 7], [6, 7]), ([8], [8]), ([9], [9]), ([], []), ([], []), ([11, 12], [11, 12]), ([13], [13]), ([14], [14]), ([15], [15]), ([10, 16], [10, 16]), ([5, 17], [5, 17]), ([18], [18]), ([0, 19], [0, 19]), ([20, 20, 0, 1, 2, 3, 4, 5, 6, 7, 8, 9, 10, 11, 12, 13, 14, 15, 16, 17, 18, 19, 20], [0, 20])])
def spec_SpansOf.B5 : List Nat := [0, 0, 0, 6, 14, 30, 0, 0, 192, 448, 960, 0, 0, 6144, 14336, 30720, 63488, 131008, 262142, 524286, 1048575, 2097151]
theorem spec_SpansOf.tab5 : rtab .any (opsOf Try.f44 5) = spec_SpansOf.T5 := by kernel_rfl
theorem spec_SpansOf.bits5 : waitsOk spec_SpansOf.T5.2 spec_SpansOf.B5 = true := by kernel_rfl
set_option maxHeartbeats 8000000 in
set_option maxRecDepth 100000 in
theorem spec_SpansOf.calls (k : Nat) (A0 : Option Addr) (c0 : Nat) (l0 : List (S44)) (r : List (S26)) (w : World) (hr0 : Kd.C k44 w A0 l0.length l0) (hc0 : l0.length ≤ c0) (h : spec_SpansOf.f k l0 = some r) :
  Calls Try.prog 44 #[.slice A0 l0.length c0] w fun e w' => ∃ v0_ : Value, e = .returned (v0_) ∧ Kd.R k26 26 w' w.heap.size (fun _ => True) v0_ r ∧ Below w.heap.size w w' := by
 have hu26 := Try.underlying26
 have HR0 := zM hr0
 have HC0 := zM hc0
 clear hr0 hc0
 have HB := zM (Below.refl w.heap.size w)
 have H : (spec_SpansOf.l0 k l0 (([] : List (S26))) 0) = some r := h
 clear h
 obtain ⟨y369, hy369⟩ : ∃ y_ : List (S26), y_ = (([] : List (S26))) := ⟨_, rfl⟩
 replace H : (spec_SpansOf.l0 k l0 y369 0) = some r := zH hy369 H
 have Ny369 := zM hy369
 clear hy369
 have H' := zM H
 clear H
 go_enter Try.func44, Try.ntmps44
 go_wp2_with (first | ((with_reducible refine gate_dst (N := 5) rfl ?_); refine Kd.R_lit k26 _ 26 ?hg (N := 5) ?hd (xs := ([] : List (S26))) (inner := []) (ok := fun _ => True) (okp := fun _ => True) ?hr ?hp (fun _ hk => hk) trivial (Below.refl _ _) (Nat.le_refl _) (by simp) ?_; (case hd => rfl); (case hg => rfl); (case hr => first | (go_simp; done) | (go_simp; rfl)); (case hp => exact (Reps.none _ _)); intro v370 w2 ho3 hb hg_ hnew_; clear hg_ hnew_; (first | rw [← Ny369.out] at ho3 | (simp only [Int.reduceToNat] at ho3; rw [← Ny369.out] at ho3)); have n0_ := zM (Kd.R_lower ho3 (below_size (zB HB.out))); have n1_ := zM (below_step (zB HB.out) hb); clear HB; have HO371 := n0_; have HB := n1_; clear n0_ n1_; clear hb ho3))
 go_loopg [3, 4] k (fun kq v3 v4 w' => ∃ (x3_1 : List (S26)) (x4_1 : Int), v4 = .int .i64 x4_1 ∧ Aside0 (spec_SpansOf.l0 kq l0 x3_1 x4_1 = some r) ∧ Aside0 (kq ≤ k) ∧ Aside0 (Kd.R k26 26 w' w.heap.size (fun _ => True) v3 x3_1) ∧ Aside0 (Below w.heap.size w w'))
 case atStart => exact ⟨(y369), (0), zS, H', ⟨Nat.le_refl _⟩, ⟨(zR HO371.out)⟩, ⟨(zB HB.out)⟩⟩
 case round =>
  clear H'
  try clear p2
  obtain ⟨x3_1, x4_1, rfl, HA, HK1, HO_3, HB⟩ := hrel
  cases gk with
  | zero => exact absurd HA.out (by simp [spec_SpansOf.l0])
  | succ k1 =>
   have H := HA.out
   clear HA
   simp only [spec_SpansOf.l0] at H
   by_cases c4 : x4_1 < (l0.length : Int)
   ·rw [if_pos c4] at H
    have c4b0 : decide (x4_1 < (l0.length : Int)) = true := decide_eq_true c4
    clear c4
    by_cases c5 : 0 ≤ x4_1
    ·rw [if_pos c5] at H
     have c5b0 : decide (0 ≤ x4_1) = true := decide_eq_true c5
     clear c5
     by_cases c6 : x3_1.length < 8796093022208
     ·rw [if_pos c6] at H
      have LMc6 := zM c6
      clear c6
      obtain ⟨y375, hy375⟩ : ∃ y_ : List (S26), y_ = (x3_1 ++ [(⟨(rd_T44 l0 x4_1).f0, wrap64 (((rd_T44 l0 x4_1).f0) + (((rd_T44 l0 x4_1).f1).size : Int))⟩ : S26)]) := ⟨_, rfl⟩
      replace H : (spec_SpansOf.l0 k1 l0 y375 (wrap64 (x4_1 + 1))) = some r := zH hy375 H
      have Ny375 := zM hy375
      clear hy375
      have H' := zM H
      clear H
      try go_wp2
      have n0_ := zM (Kd.R_drew HO_3.out)
      have n1_ := zM (below_drew1 HB.out)
      clear HO_3
      clear HB
      have HO_3 := n0_
      have HB := n1_
      clear n0_ n1_
      have p372 : 0 ≤ (x4_1 : Int) := zD
      have q372 : x4_1 < (l0.length : Int) := zD
      obtain ⟨ad372, e372, hx372_0, hx372_1⟩ := at_T44 HR0.out x4_1 p372 q372
      have hw372_1 := hx372_1
      have hw372_0 := hx372_0
      cases e372
      replace hx372_0 := (HB.out.cell (World.block_lt_of_cell? w _ hx372_0)).trans hx372_0
      replace hx372_1 := (HB.out.cell (World.block_lt_of_cell? w _ hx372_1)).trans hx372_1
      replace p372 := eq_true p372
      replace q372 := eq_true q372
      have p373 : 0 ≤ (x4_1 : Int) := zD
      have q373 : x4_1 < (l0.length : Int) := zD
      obtain ⟨ad373, e373, hx373_0, hx373_1⟩ := at_T44 HR0.out x4_1 p373 q373
      have hw373_1 := hx373_1
      have hw373_0 := hx373_0
      obtain rfl : ad372 = ad373 := (by injection e373)
      replace hx373_0 := (HB.out.cell (World.block_lt_of_cell? w _ hx373_0)).trans hx373_0
      replace hx373_1 := (HB.out.cell (World.block_lt_of_cell? w _ hx373_1)).trans hx373_1
      replace p373 := eq_true p373
      replace q373 := eq_true q373
      have p374 : 0 ≤ (x4_1 : Int) := zD
      have q374 : x4_1 < (l0.length : Int) := zD
      obtain ⟨ad374, e374, hx374_0, hx374_1⟩ := at_T44 HR0.out x4_1 p374 q374
      have hw374_1 := hx374_1
      have hw374_0 := hx374_0
      obtain rfl : ad372 = ad374 := (by injection e374)
      replace hx374_0 := (HB.out.cell (World.block_lt_of_cell? w _ hx374_0)).trans hx374_0
      replace hx374_1 := (HB.out.cell (World.block_lt_of_cell? w _ hx374_1)).trans hx374_1
      replace p374 := eq_true p374
      replace q374 := eq_true q374
      refine start_ (n := 22) (S := fun w' => w'.cell? (ad372.add ((x4_1).toNat * 2)) = some (.int .i64 ((rd_T44 l0 x4_1).f0)) ∧ w'.cell? ⟨(ad372.add ((x4_1).toNat * 2)).block, (ad372.add ((x4_1).toNat * 2)).off + 1, none⟩ = some (.string ((rd_T44 l0 x4_1).f1)) ∧ w'.cell? (ad372.add ((x4_1).toNat * 2)) = some (.int .i64 ((rd_T44 l0 x4_1).f0)) ∧ w'.cell? ⟨(ad372.add ((x4_1).toNat * 2)).block, (ad372.add ((x4_1).toNat * 2)).off + 1, none⟩ = some (.string ((rd_T44 l0 x4_1).f1)) ∧ w'.cell? (ad372.add ((x4_1).toNat * 2)) = some (.int .i64 ((rd_T44 l0 x4_1).f0)) ∧ w'.cell? ⟨(ad372.add ((x4_1).toNat * 2)).block, (ad372.add ((x4_1).toNat * 2)).off + 1, none⟩ = some (.string ((rd_T44 l0 x4_1).f1))) (ds := []) (ba 22 0).toArray (by kernel_rfl) rfl rfl ⟨((HB.out.cell (World.block_lt_of_cell? w _ hw372_0)).trans hw372_0), ((HB.out.cell (World.block_lt_of_cell? w _ hw372_1)).trans hw372_1), ((HB.out.cell (World.block_lt_of_cell? w _ hw373_0)).trans hw373_0), ((HB.out.cell (World.block_lt_of_cell? w _ hw373_1)).trans hw373_1), ((HB.out.cell (World.block_lt_of_cell? w _ hw374_0)).trans hw374_0), ((HB.out.cell (World.block_lt_of_cell? w _ hw374_1)).trans hw374_1)⟩ (fun hHeld => ?_); refine with_tabW spec_SpansOf.tab5 spec_SpansOf.bits5 (fun HT_ HW_ => ?_)
      generalize wr.drew = w7 at HO_3 HB hx372_0 hx372_1 hx373_0 hx373_1 hx374_0 hx374_1 hHeld ⊢
      refine zq 0 (some 12) (ba 22 1).toArray HT_ ?_
      refine zq 1 (some 13) (ba 22 3).toArray HT_ ?_
      refine zq 2 (some 14) (ba 22 7).toArray HT_ ?_
      refine zq 3 (some 15) (ba 22 15).toArray HT_ ?_
      refine zq 4 (some 16) (ba 22 31).toArray HT_ ?_
      refine zq 6 (some 18) (ba 22 95).toArray HT_ ?_
      refine zq 7 (some 19) (ba 22 223).toArray HT_ ?_
      refine zq 8 (some 20) (ba 22 479).toArray HT_ ?_
      refine zq 9 (some 21) (ba 22 991).toArray HT_ ?_
      refine zq 11 (some 23) (ba 22 3039).toArray HT_ ?_
      refine zq 12 (some 24) (ba 22 7135).toArray HT_ ?_
      refine zq 13 (some 25) (ba 22 15327).toArray HT_ ?_
      refine zq 14 (some 26) (ba 22 31711).toArray HT_ ?_
      refine zt6 5 (some 17) (ba 22 31743).toArray HT_ HW_ hHeld ?_
      refine zt6 10 (some 22) (ba 22 32767).toArray HT_ HW_ hHeld ?_
      refine zt6 15 (some 27) (ba 22 65535).toArray HT_ HW_ hHeld ?_
      refine zq 16 (some 28) (ba 22 131071).toArray HT_ ?_
      refine zq 17 (some 29) (ba 22 262143).toArray HT_ ?_
      refine zq 18 (some 30) (ba 22 524287).toArray HT_ ?_
      refine one_ (i := 19) (N := some 31) (ba 22 1048575).toArray rfl rfl (one_of HT_.out (by kernel_rfl)) (by decide) (fun K hK => ?_)
      refine value_ (w1 := ?_) (v := ?_) (by rfl) rfl ?_ ?_
      rotate_left 2
      ·go_simp
       constructor
       ·rfl
       ·rfl
      refine hK.out _ _ ⟨(World.cell?_alloc_lt _ _ _ (World.block_lt_of_cell? _ _ (((HB.out.cell (World.block_lt_of_cell? w _ hw372_0)).trans hw372_0)))).trans (((HB.out.cell (World.block_lt_of_cell? w _ hw372_0)).trans hw372_0)), (World.cell?_alloc_lt _ _ _ (World.block_lt_of_cell? _ _ (((HB.out.cell (World.block_lt_of_cell? w _ hw372_1)).trans hw372_1)))).trans (((HB.out.cell (World.block_lt_of_cell? w _ hw372_1)).trans hw372_1)), (World.cell?_alloc_lt _ _ _ (World.block_lt_of_cell? _ _ (((HB.out.cell (World.block_lt_of_cell? w _ hw373_0)).trans hw373_0)))).trans (((HB.out.cell (World.block_lt_of_cell? w _ hw373_0)).trans hw373_0)), (World.cell?_alloc_lt _ _ _ (World.block_lt_of_cell? _ _ (((HB.out.cell (World.block_lt_of_cell? w _ hw373_1)).trans hw373_1)))).trans (((HB.out.cell (World.block_lt_of_cell? w _ hw373_1)).trans hw373_1)), (World.cell?_alloc_lt _ _ _ (World.block_lt_of_cell? _ _ (((HB.out.cell (World.block_lt_of_cell? w _ hw374_0)).trans hw374_0)))).trans (((HB.out.cell (World.block_lt_of_cell? w _ hw374_0)).trans hw374_0)), (World.cell?_alloc_lt _ _ _ (World.block_lt_of_cell? _ _ (((HB.out.cell (World.block_lt_of_cell? w _ hw374_1)).trans hw374_1)))).trans (((HB.out.cell (World.block_lt_of_cell? w _ hw374_1)).trans hw374_1))⟩ (fun hHeld => ?_)
      clear hK K
      refine norm_ (a' := ?_) ?_ ?_
      rotate_left
      ·show Act.put _ (some 31) _ = _
       simp only [Act.put, List.setIfInBounds_toArray, List.set_cons_zero, List.set_cons_succ, i64_w, i32_w]
       rfl
      refine one_ (i := 20) (N := some 32) (ba 22 2097151).toArray rfl rfl (one_of HT_.out (by kernel_rfl)) (by decide) (fun K hK => ?_)
      refine Kd.R_append_step k26 (w0 := w) w.heap.size (by rfl) (.tmp 12) (.tmp 31) 24 26 (.agg #[(.int .i64 0), (.int .i64 0)]) 16 rfl Try.underlying24 info26 rfl (by decide) (by omega) u3 x3_1 (⟨(rd_T44 l0 x4_1).f0, wrap64 (((rd_T44 l0 x4_1).f0) + (((rd_T44 l0 x4_1).f1).size : Int))⟩ : S26) [.int .i64 ((rd_T44 l0 x4_1).f0), .int .i64 (wrap64 (((rd_T44 l0 x4_1).f0) + (((rd_T44 l0 x4_1).f1).size : Int)))] (fun _ => True) (fun _ => False) rfl rfl ?aP (fun _ hk => hk.elim) ?aF ?aO ?aB ?aS ?aL ?_
      (case aP => exact k26_mkM _ _ _ (⟨(rd_T44 l0 x4_1).f0, wrap64 (((rd_T44 l0 x4_1).f0) + (((rd_T44 l0 x4_1).f1).size : Int))⟩ : S26))
      (case aB => exact (zB HB.out))
      (case aF => exact (fun _ _ => trivial))
      (case aO => exact (zR HO_3.out))
      (case aS => exact (below_size (zB HB.out)))
      (case aL => have := LMc6.out; omega)
      intro v376 w8 ho hb hg hat
      rw [← Ny375.out] at ho
      have n0_ := zM (hb)
      have n1_ := zM (ho)
      clear HB
      clear HO_3
      have HB := n0_
      have HO377 := n1_
      clear n0_ n1_
      clear ho hb hg hat
      refine hK.out _ _ ⟨((HB.out.cell (World.block_lt_of_cell? w _ hw372_0)).trans hw372_0), ((HB.out.cell (World.block_lt_of_cell? w _ hw372_1)).trans hw372_1), ((HB.out.cell (World.block_lt_of_cell? w _ hw373_0)).trans hw373_0), ((HB.out.cell (World.block_lt_of_cell? w _ hw373_1)).trans hw373_1), ((HB.out.cell (World.block_lt_of_cell? w _ hw374_0)).trans hw374_0), ((HB.out.cell (World.block_lt_of_cell? w _ hw374_1)).trans hw374_1)⟩ (fun hHeld => ?_)
      clear hK K
      refine norm_ (a' := ?_) ?_ ?_
      rotate_left
      ·show Act.put _ (some 32) _ = _
       simp only [Act.put, List.setIfInBounds_toArray, List.set_cons_zero, List.set_cons_succ, i64_w, i32_w]
       rfl
      refine zq 21 (some 3) (ba 22 4194303).toArray HT_ ?_
      refine done_ (done_of HT_.out (by kernel_rfl)) ?_
      try go_wp2
      go_roundg k1
      case measure => have := HK1.out; omega
      case rel => exact ⟨(y375), (wrap64 (x4_1 + 1)), zS, H', ⟨by have := HK1.out; omega⟩, ⟨(zR HO377.out)⟩, ⟨(zB HB.out)⟩⟩
     ·rw [if_neg c6] at H
      exact absurd H (by simp)
    ·rw [if_neg c5] at H
     exact absurd H (by simp)
   ·rw [if_neg c4] at H
    have c4b0 : decide (x4_1 < (l0.length : Int)) = false := decide_eq_false c4
    clear c4
    obtain rfl := Option.some.inj H
    go_wp2
    go_ret
    exact ⟨_, zE, (zR HO_3.out), (zB HB.out)⟩

end Go.Proofs.Yteahdfibipalkaa.G

namespace Go.Proofs.Yteahdfibipalkaa.G
open Go.RowKit Go.Proofs.YteahdfibipalkaaW.PrintWords Go.Proofs.YteahdfibipalkaaW.PrintLast Go.Proofs.YteahdfibipalkaaW.PrintMore
attribute [local go_sem] max2_int min2_int max_two min_two max_three min_three max_four min_four   -- for this text's walks alone
set_option linter.unusedVariables false
set_option linter.unusedSimpArgs false

/-! ### spec_l1In: function 52 -/
set_option maxHeartbeats 8000000 in
set_option maxRecDepth 100000 in
theorem spec_l1In.calls (a0 : Int) (a1 : Int) (a2 : Int) (r : Bool) (w : World) (h : spec_l1In.f a0 a1 a2 = some r) :
  Calls Try.prog 52 #[.int .i64 a0, .int .i64 a1, .int .i64 a2] w fun e w' => e = .returned (.bool r) ∧ Drawn0 w w' := by
 have H : (if a0 ≥ a1 then (some (decide (a0 ≤ a2))) else (some false)) = some r := h
 clear h
 by_cases c4 : a0 ≥ a1
 ·rw [if_pos c4] at H
  have c4b0 : decide (a1 ≤ a0) = true := decide_eq_true c4
  clear c4
  obtain rfl := Option.some.inj H
  go_enter Try.func52, Try.ntmps52
  go_wp2
  go_ret
  exact ⟨zS, zW⟩
 ·rw [if_neg c4] at H
  have c4b0 : decide (a1 ≤ a0) = false := decide_eq_false c4
  clear c4
  obtain rfl := Option.some.inj H
  go_enter Try.func52, Try.ntmps52
  go_wp2
  go_ret
  exact ⟨zS, zW⟩

end Go.Proofs.Yteahdfibipalkaa.G

namespace Go.Proofs.Yteahdfibipalkaa.G
open Go.RowKit Go.Proofs.YteahdfibipalkaaW.PrintWords Go.Proofs.YteahdfibipalkaaW.PrintLast Go.Proofs.YteahdfibipalkaaW.PrintMore
attribute [local go_sem] max2_int min2_int max_two min_two max_three min_three max_four min_four   -- for this text's walks alone
set_option linter.unusedVariables false
set_option linter.unusedSimpArgs false

/-! ### spec_ArePieces: function 29 -/
set_option maxHeartbeats 8000000 in
set_option maxRecDepth 100000 in
theorem spec_ArePieces.calls (k : Nat) (A0 : Option Addr) (c0 : Nat) (l0 : List (S44)) (a1 : Int) (r : Bool) (w : World) (hr0 : Kd.C k44 w A0 l0.length l0) (hc0 : l0.length ≤ c0) (h : spec_ArePieces.f k l0 a1 = some r) :
  Calls Try.prog 29 #[.slice A0 l0.length c0, .int .i64 a1] w fun e w' => e = .returned (.bool r) ∧ Below w.heap.size w w' := by
 have HR0 := zM hr0
 have HC0 := zM hc0
 clear hr0 hc0
 have HB := zM (Below.refl w.heap.size w)
 have H : ((spec_SpansOf.f k l0).bind fun t378 => ((spec_l1In.f a1 0 600).bind fun t381 => (if t381 = true then (if (l0.length : Int) ≤ 8 then ((spec_IsSpanSet.f k t378).bind fun t382 => (if t382 = true then (if (t378.length : Int) = 0 then (some true) else (if 0 ≤ (wrap64 ((t378.length : Int) - 1)) then (if (wrap64 ((t378.length : Int) - 1)) < (t378.length : Int) then (some (decide (((rd_T26 t378 (wrap64 ((t378.length : Int) - 1))).f1) ≤ a1))) else (none)) else (none))) else (some false))) else (some false)) else (some false)))) = some r := h
 clear h
 replace H := Option.bind_eq_some_iff.mp H
 obtain ⟨t378, A30, H⟩ := H
 try dsimp only at H
 have A3 := zM A30
 clear A30
 replace H := Option.bind_eq_some_iff.mp H
 obtain ⟨t381, A40, H⟩ := H
 try dsimp only at H
 have A4 := zM A40
 clear A40
 by_cases c5 : t381 = true
 ·subst c5
  rw [if_pos rfl] at H
  by_cases c6 : (l0.length : Int) ≤ 8
  ·rw [if_pos c6] at H
   have c6b0 : decide ((l0.length : Int) ≤ 8) = true := decide_eq_true c6
   have c6b1 : decide (l0.length ≤ 8) = true := decide_eq_true (by omega)
   clear c6
   replace H := Option.bind_eq_some_iff.mp H
   obtain ⟨t382, A70, H⟩ := H
   try dsimp only at H
   have A7 := zM A70
   clear A70
   by_cases c8 : t382 = true
   ·subst c8
    rw [if_pos rfl] at H
    by_cases c9 : (t378.length : Int) = 0
    ·rw [if_pos c9] at H
     have c9b0 : ((t378.length : Int) == 0) = true := beq_iff_eq.mpr c9
     have c9b1 : ((t378.length : Int) != 0) = false := bne_eq_false_iff_eq.mpr c9
     clear c9
     obtain rfl := Option.some.inj H
     go_enter Try.func29, Try.ntmps29
     go_wp2_with (first | ((with_reducible refine gate_callee (f := 44) rfl ?_); refine zG (some 7) Try.func44 #[.slice A0 l0.length c0] ?_; (with_reducible refine (spec_SpansOf.calls k _ _ l0 t378 _ ?side1 ?side2 A3.out).mono ?_); (case side1 => exact (zC HR0.out)); (case side2 => exact HC0.out); rintro e w10 ⟨v379, rfl, ho0, hb⟩; refine ⟨_, rfl, ?_⟩; have n0_ := zM (Kd.R_lower ho0 (below_size (zB HB.out))); have n1_ := zM (below_step (zB HB.out) hb); clear HB; have HO380 := n0_; have HB := n1_; clear n0_ n1_; (try clear hb); (try clear hb2); (try clear hk); (try clear hi); (try clear ho0)) | ((with_reducible refine gate_callee (f := 52) rfl ?_); refine zG (some 9) Try.func52 #[.int .i64 a1, .int .i64 0, .int .i64 600] ?_; (with_reducible refine (spec_l1In.calls a1 0 600 true _ A4.out).mono ?_); rintro e w' ⟨rfl, ⟨nd, rfl⟩⟩; refine ⟨_, rfl, ?_⟩; obtain ⟨Ao11, co11, eo11⟩ := Kd.R_slice HO380.out; subst eo11) | (go_at_call 11; (with_reducible refine (spec_IsSpanSet.calls k _ _ t378 true _ ?side1 ?side2 A7.out).mono ?_); (case side1 => exact (zC ((Kd.R_reads' HO380.out).2.2))); (case side2 => exact (Kd.R_reads' HO380.out).2.1); rintro e w' ⟨rfl, ⟨nd, rfl⟩⟩))
     go_ret
     exact ⟨zE, (zB HB.out)⟩
    ·rw [if_neg c9] at H
     have c9b0 : ((t378.length : Int) == 0) = false := beq_eq_false_iff_ne.mpr c9
     have c9b1 : ((t378.length : Int) != 0) = true := bne_iff_ne.mpr c9
     have c9b2 : ¬ (t378 = []) := fun h_ => c9 (by rw [h_]; rfl)
     obtain ⟨ji12, hji12⟩ : ∃ j_ : Int, (wrap64 ((t378.length : Int) - 1)) = j_ := ⟨_, rfl⟩
     replace H : (if 0 ≤ (ji12) then (if (ji12) < (t378.length : Int) then (some (decide (((rd_T26 t378 (ji12)).f1) ≤ a1))) else (none)) else (none)) = some r := by first | (rw [hji12] at H; exact H) | (simp only [hji12] at H ⊢; exact H)
     (try rw [hji12] at A3)
     (try rw [hji12] at A4)
     (try rw [hji12] at A7)
     have hji12w : (IntKind.i64.wrap ((t378.length : Int) - 1)) = ji12 := (i64_w _).trans hji12
     by_cases c13 : 0 ≤ (ji12)
     ·rw [if_pos c13] at H
      have c13b0 : decide (0 ≤ (ji12)) = true := decide_eq_true c13
      clear c13
      by_cases c14 : (ji12) < (t378.length : Int)
      ·rw [if_pos c14] at H
       have c14b0 : decide ((ji12) < (t378.length : Int)) = true := decide_eq_true c14
       clear c14
       obtain rfl := Option.some.inj H
       go_enter Try.func29, Try.ntmps29
       go_wp2_with (first | ((with_reducible refine gate_callee (f := 44) rfl ?_); refine zG (some 7) Try.func44 #[.slice A0 l0.length c0] ?_; (with_reducible refine (spec_SpansOf.calls k _ _ l0 t378 _ ?side1 ?side2 A3.out).mono ?_); (case side1 => exact (zC HR0.out)); (case side2 => exact HC0.out); rintro e w15 ⟨v379, rfl, ho0, hb⟩; refine ⟨_, rfl, ?_⟩; have n0_ := zM (Kd.R_lower ho0 (below_size (zB HB.out))); have n1_ := zM (below_step (zB HB.out) hb); clear HB; have HO380 := n0_; have HB := n1_; clear n0_ n1_; (try clear hb); (try clear hb2); (try clear hk); (try clear hi); (try clear ho0)) | ((with_reducible refine gate_callee (f := 52) rfl ?_); refine zG (some 9) Try.func52 #[.int .i64 a1, .int .i64 0, .int .i64 600] ?_; (with_reducible refine (spec_l1In.calls a1 0 600 true _ A4.out).mono ?_); rintro e w' ⟨rfl, ⟨nd, rfl⟩⟩; refine ⟨_, rfl, ?_⟩; obtain ⟨Ao16, co16, eo16⟩ := Kd.R_slice HO380.out; subst eo16) | (go_at_call 11; (with_reducible refine (spec_IsSpanSet.calls k _ _ t378 true _ ?side1 ?side2 A7.out).mono ?_); (case side1 => exact (zC ((Kd.R_reads' HO380.out).2.2))); (case side2 => exact (Kd.R_reads' HO380.out).2.1); rintro e w' ⟨rfl, ⟨nd, rfl⟩⟩; have p383 : 0 ≤ ((ji12) : Int) := zD; have q383 : (ji12) < (t378.length : Int) := zD; obtain ⟨ad383, e383, hx383_0, hx383_1⟩ := at_T26 (Kd.R_reads' HO380.out).2.2 (ji12) p383 q383; cases e383; replace p383 := eq_true p383; replace q383 := eq_true q383))
       go_ret
       exact ⟨by first | rfl | (simp [errW_none, errW_some] <;> rfl) | (simp only [← hji12]; first | rfl | (simp [errW_none, errW_some] <;> rfl)) | (simp [*, errW_none, errW_some] <;> rfl), (zB HB.out)⟩
      ·rw [if_neg c14] at H
       exact absurd H (by simp)
     ·rw [if_neg c13] at H
      exact absurd H (by simp)
   ·replace c8 := Bool.eq_false_iff.mpr c8
    subst c8
    rw [if_neg (show ¬ (false = true) by decide)] at H
    obtain rfl := Option.some.inj H
    go_enter Try.func29, Try.ntmps29
    go_wp2_with (first | ((with_reducible refine gate_callee (f := 44) rfl ?_); refine zG (some 7) Try.func44 #[.slice A0 l0.length c0] ?_; (with_reducible refine (spec_SpansOf.calls k _ _ l0 t378 _ ?side1 ?side2 A3.out).mono ?_); (case side1 => exact (zC HR0.out)); (case side2 => exact HC0.out); rintro e w17 ⟨v379, rfl, ho0, hb⟩; refine ⟨_, rfl, ?_⟩; have n0_ := zM (Kd.R_lower ho0 (below_size (zB HB.out))); have n1_ := zM (below_step (zB HB.out) hb); clear HB; have HO380 := n0_; have HB := n1_; clear n0_ n1_; (try clear hb); (try clear hb2); (try clear hk); (try clear hi); (try clear ho0)) | ((with_reducible refine gate_callee (f := 52) rfl ?_); refine zG (some 9) Try.func52 #[.int .i64 a1, .int .i64 0, .int .i64 600] ?_; (with_reducible refine (spec_l1In.calls a1 0 600 true _ A4.out).mono ?_); rintro e w' ⟨rfl, ⟨nd, rfl⟩⟩; refine ⟨_, rfl, ?_⟩; obtain ⟨Ao18, co18, eo18⟩ := Kd.R_slice HO380.out; subst eo18) | (go_at_call 11; (with_reducible refine (spec_IsSpanSet.calls k _ _ t378 false _ ?side1 ?side2 A7.out).mono ?_); (case side1 => exact (zC ((Kd.R_reads' HO380.out).2.2))); (case side2 => exact (Kd.R_reads' HO380.out).2.1); rintro e w' ⟨rfl, ⟨nd, rfl⟩⟩))
    go_ret
    exact ⟨zE, (zB HB.out)⟩
  ·rw [if_neg c6] at H
   have c6b0 : decide ((l0.length : Int) ≤ 8) = false := decide_eq_false c6
   have c6b1 : decide (l0.length ≤ 8) = false := decide_eq_false (by omega)
   clear c6
   obtain rfl := Option.some.inj H
   go_enter Try.func29, Try.ntmps29
   go_wp2_with (first | ((with_reducible refine gate_callee (f := 44) rfl ?_); refine zG (some 7) Try.func44 #[.slice A0 l0.length c0] ?_; (with_reducible refine (spec_SpansOf.calls k _ _ l0 t378 _ ?side1 ?side2 A3.out).mono ?_); (case side1 => exact (zC HR0.out)); (case side2 => exact HC0.out); rintro e w19 ⟨v379, rfl, ho0, hb⟩; refine ⟨_, rfl, ?_⟩; have n0_ := zM (Kd.R_lower ho0 (below_size (zB HB.out))); have n1_ := zM (below_step (zB HB.out) hb); clear HB; have HO380 := n0_; have HB := n1_; clear n0_ n1_; (try clear hb); (try clear hb2); (try clear hk); (try clear hi); (try clear ho0)) | ((with_reducible refine gate_callee (f := 52) rfl ?_); refine zG (some 9) Try.func52 #[.int .i64 a1, .int .i64 0, .int .i64 600] ?_; (with_reducible refine (spec_l1In.calls a1 0 600 true _ A4.out).mono ?_); rintro e w' ⟨rfl, ⟨nd, rfl⟩⟩; refine ⟨_, rfl, ?_⟩))
   go_ret
   exact ⟨zE, (zB HB.out)⟩
 ·replace c5 := Bool.eq_false_iff.mpr c5
  subst c5
  rw [if_neg (show ¬ (false = true) by decide)] at H
  obtain rfl := Option.some.inj H
  go_enter Try.func29, Try.ntmps29
  go_wp2_with (first | ((with_reducible refine gate_callee (f := 44) rfl ?_); refine zG (some 7) Try.func44 #[.slice A0 l0.length c0] ?_; (with_reducible refine (spec_SpansOf.calls k _ _ l0 t378 _ ?side1 ?side2 A3.out).mono ?_); (case side1 => exact (zC HR0.out)); (case side2 => exact HC0.out); rintro e w20 ⟨v379, rfl, ho0, hb⟩; refine ⟨_, rfl, ?_⟩; have n0_ := zM (Kd.R_lower ho0 (below_size (zB HB.out))); have n1_ := zM (below_step (zB HB.out) hb); clear HB; have HO380 := n0_; have HB := n1_; clear n0_ n1_; (try clear hb); (try clear hb2); (try clear hk); (try clear hi); (try clear ho0)) | ((with_reducible refine gate_callee (f := 52) rfl ?_); refine zG (some 9) Try.func52 #[.int .i64 a1, .int .i64 0, .int .i64 600] ?_; (with_reducible refine (spec_l1In.calls a1 0 600 false _ A4.out).mono ?_); rintro e w' ⟨rfl, ⟨nd, rfl⟩⟩; refine ⟨_, rfl, ?_⟩))
  go_ret
  exact ⟨zE, (zB HB.out)⟩

end Go.Proofs.Yteahdfibipalkaa.G

namespace Go.Proofs.Yteahdfibipalkaa.G
open Go.RowKit Go.Proofs.YteahdfibipalkaaW.PrintWords Go.Proofs.YteahdfibipalkaaW.PrintLast Go.Proofs.YteahdfibipalkaaW.PrintMore
attribute [local go_sem] max2_int min2_int max_two min_two max_three min_three max_four min_four   -- for this text's walks alone
set_option linter.unusedVariables false
set_option linter.unusedSimpArgs false

/-! ### spec_l10Byte: function 42 -/
set_option maxHeartbeats 8000000 in
set_option maxRecDepth 100000 in
theorem spec_l10Byte.calls (k : Nat) (A0 : Option Addr) (c0 : Nat) (l0 : List (S44)) (a1 : Int) (r : Int) (w : World) (hr0 : Kd.C k44 w A0 l0.length l0) (hc0 : l0.length ≤ c0) (h : spec_l10Byte.f k l0 a1 = some r) :
  Calls Try.prog 42 #[.slice A0 l0.length c0, .int .i64 a1] w fun e w' => e = .returned (.int .i64 r) ∧ Drawn0 w w' := by
 have HR0 := zM hr0
 have HC0 := zM hc0
 clear hr0 hc0
 have H : (spec_l10Byte.l0 k l0 a1 0) = some r := h
 clear h
 have H' := zM H
 clear H
 go_enter Try.func42, Try.ntmps42
 go_wp2
 repeat (go_quiet (fail); try go_wp2)
 go_loopg [5] k (fun kq v5 w' => ∃ (x5_1 : Int), v5 = .int .i64 x5_1 ∧ Aside0 (spec_l10Byte.l0 kq l0 a1 x5_1 = some r) ∧ Aside0 (kq ≤ k) ∧ Drawn0 w w')
 case atStart => exact ⟨(0), zS, H', ⟨Nat.le_refl _⟩, zW⟩
 case round =>
  clear H'
  try clear p2
  obtain ⟨x5_1, rfl, HA, HK1, ⟨m1, rfl⟩⟩ := hrel
  cases gk with
  | zero => exact absurd HA.out (by simp [spec_l10Byte.l0])
  | succ k1 =>
   have H := HA.out
   clear HA
   simp only [spec_l10Byte.l0] at H
   by_cases c3 : x5_1 < (l0.length : Int)
   ·rw [if_pos c3] at H
    have c3b0 : decide (x5_1 < (l0.length : Int)) = true := decide_eq_true c3
    clear c3
    by_cases c4 : 0 ≤ x5_1
    ·rw [if_pos c4] at H
     have c4b0 : decide (0 ≤ x5_1) = true := decide_eq_true c4
     clear c4
     by_cases c5 : ((rd_T44 l0 x5_1).f0) ≤ a1
     ·rw [if_pos c5] at H
      have c5b0 : decide (((rd_T44 l0 x5_1).f0) ≤ a1) = true := decide_eq_true c5
      clear c5
      by_cases c6 : a1 < (wrap64 (((rd_T44 l0 x5_1).f0) + (((rd_T44 l0 x5_1).f1).size : Int)))
      ·rw [if_pos c6] at H
       have c6b0 : decide (a1 < (wrap64 (((rd_T44 l0 x5_1).f0) + (((rd_T44 l0 x5_1).f1).size : Int)))) = true := decide_eq_true c6
       clear c6
       obtain ⟨ji7, hji7⟩ : ∃ j_ : Int, (wrap64 (a1 - ((rd_T44 l0 x5_1).f0))) = j_ := ⟨_, rfl⟩
       replace H : (if 0 ≤ (ji7) then (if (ji7) < (((rd_T44 l0 x5_1).f1).size : Int) then (some (wrap64 (bt ((rd_T44 l0 x5_1).f1) (ji7)))) else (none)) else (none)) = some r := by first | (rw [hji7] at H; exact H) | (simp only [hji7] at H ⊢; exact H)
       have hji7w : (IntKind.i64.wrap (a1 - ((rd_T44 l0 x5_1).f0))) = ji7 := (i64_w _).trans hji7
       by_cases c8 : 0 ≤ (ji7)
       ·rw [if_pos c8] at H
        have c8b0 : decide (0 ≤ (ji7)) = true := decide_eq_true c8
        clear c8
        by_cases c9 : (ji7) < (((rd_T44 l0 x5_1).f1).size : Int)
        ·rw [if_pos c9] at H
         have c9b0 : decide ((ji7) < (((rd_T44 l0 x5_1).f1).size : Int)) = true := decide_eq_true c9
         clear c9
         obtain rfl := Option.some.inj H
         have p384 : 0 ≤ (x5_1 : Int) := zD
         have q384 : x5_1 < (l0.length : Int) := zD
         obtain ⟨ad384, e384, hx384_0, hx384_1⟩ := at_T44 HR0.out x5_1 p384 q384
         cases e384
         replace p384 := eq_true p384
         replace q384 := eq_true q384
         have p385 : 0 ≤ (x5_1 : Int) := zD
         have q385 : x5_1 < (l0.length : Int) := zD
         obtain ⟨ad385, e385, hx385_0, hx385_1⟩ := at_T44 HR0.out x5_1 p385 q385
         obtain rfl : ad384 = ad385 := (by injection e385)
         replace p385 := eq_true p385
         replace q385 := eq_true q385
         have p386 : 0 ≤ (x5_1 : Int) := zD
         have q386 : x5_1 < (l0.length : Int) := zD
         obtain ⟨ad386, e386, hx386_0, hx386_1⟩ := at_T44 HR0.out x5_1 p386 q386
         obtain rfl : ad384 = ad386 := (by injection e386)
         replace p386 := eq_true p386
         replace q386 := eq_true q386
         have p387 : 0 ≤ (x5_1 : Int) := zD
         have q387 : x5_1 < (l0.length : Int) := zD
         obtain ⟨ad387, e387, hx387_0, hx387_1⟩ := at_T44 HR0.out x5_1 p387 q387
         obtain rfl : ad384 = ad387 := (by injection e387)
         replace p387 := eq_true p387
         replace q387 := eq_true q387
         have p388 : 0 ≤ (x5_1 : Int) := zD
         have q388 : x5_1 < (l0.length : Int) := zD
         obtain ⟨ad388, e388, hx388_0, hx388_1⟩ := at_T44 HR0.out x5_1 p388 q388
         obtain rfl : ad384 = ad388 := (by injection e388)
         replace p388 := eq_true p388
         replace q388 := eq_true q388
         have p10 : 0 ≤ ((ji7) : Int) := zD
         have q10 : (ji7) < (((rd_T44 l0 x5_1).f1).size : Int) := zD
         have hx10 := bt_at ((rd_T44 l0 x5_1).f1) (ji7)
         replace p10 := eq_true p10
         replace q10 := eq_true q10
         go_wp2
         repeat (go_quiet (fail); try go_wp2)
         go_ret
         exact ⟨by first | rfl | (simp; done) | (simp only [← hji7] <;> (first | rfl | simp)) | (simp [*]; done), zW⟩
        ·rw [if_neg c9] at H
         exact absurd H (by simp)
       ·rw [if_neg c8] at H
        exact absurd H (by simp)
      ·rw [if_neg c6] at H
       have c6b0 : decide (a1 < (wrap64 (((rd_T44 l0 x5_1).f0) + (((rd_T44 l0 x5_1).f1).size : Int)))) = false := decide_eq_false c6
       clear c6
       have H' := zM H
       clear H
       have p384 : 0 ≤ (x5_1 : Int) := zD
       have q384 : x5_1 < (l0.length : Int) := zD
       obtain ⟨ad384, e384, hx384_0, hx384_1⟩ := at_T44 HR0.out x5_1 p384 q384
       cases e384
       replace p384 := eq_true p384
       replace q384 := eq_true q384
       have p385 : 0 ≤ (x5_1 : Int) := zD
       have q385 : x5_1 < (l0.length : Int) := zD
       obtain ⟨ad385, e385, hx385_0, hx385_1⟩ := at_T44 HR0.out x5_1 p385 q385
       obtain rfl : ad384 = ad385 := (by injection e385)
       replace p385 := eq_true p385
       replace q385 := eq_true q385
       have p386 : 0 ≤ (x5_1 : Int) := zD
       have q386 : x5_1 < (l0.length : Int) := zD
       obtain ⟨ad386, e386, hx386_0, hx386_1⟩ := at_T44 HR0.out x5_1 p386 q386
       obtain rfl : ad384 = ad386 := (by injection e386)
       replace p386 := eq_true p386
       replace q386 := eq_true q386
       go_wp2
       repeat (go_quiet (fail); try go_wp2)
       go_roundg k1
       case measure => have := HK1.out; omega
       case rel => exact ⟨(wrap64 (x5_1 + 1)), zS, H', ⟨by have := HK1.out; omega⟩, zW⟩
     ·rw [if_neg c5] at H
      have c5b0 : decide (((rd_T44 l0 x5_1).f0) ≤ a1) = false := decide_eq_false c5
      clear c5
      have H' := zM H
      clear H
      have p384 : 0 ≤ (x5_1 : Int) := zD
      have q384 : x5_1 < (l0.length : Int) := zD
      obtain ⟨ad384, e384, hx384_0, hx384_1⟩ := at_T44 HR0.out x5_1 p384 q384
      cases e384
      replace p384 := eq_true p384
      replace q384 := eq_true q384
      go_wp2
      repeat (go_quiet (fail); try go_wp2)
      go_roundg k1
      case measure => have := HK1.out; omega
      case rel => exact ⟨(wrap64 (x5_1 + 1)), zS, H', ⟨by have := HK1.out; omega⟩, zW⟩
    ·rw [if_neg c4] at H
     exact absurd H (by simp)
   ·rw [if_neg c3] at H
    have c3b0 : decide (x5_1 < (l0.length : Int)) = false := decide_eq_false c3
    clear c3
    obtain rfl := Option.some.inj H
    go_wp2
    repeat (go_quiet (fail); try go_wp2)
    go_ret
    exact ⟨zS, zW⟩

end Go.Proofs.Yteahdfibipalkaa.G

namespace Go.Proofs.Yteahdfibipalkaa.G
open Go.RowKit Go.Proofs.YteahdfibipalkaaW.PrintWords Go.Proofs.YteahdfibipalkaaW.PrintLast Go.Proofs.YteahdfibipalkaaW.PrintMore
attribute [local go_sem] max2_int min2_int max_two min_two max_three min_three max_four min_four   -- for this text's walks alone
set_option linter.unusedVariables false
set_option linter.unusedSimpArgs false

/-! ### spec_AddPiece: function 20 -/
def spec_AddPiece.T11 : Bool × List (List Nat × List Nat) := (true, [([], []), ([0], [0]), ([], []), ([2], [2]), ([], []), ([3, 4], [3, 4]), ([1, 5, 1], [1, 5]), ([6, 6, 0, 1, 2, 3, 4, 5, 6], [6])])
def spec_AddPiece.B11 : List Nat := [0, 1, 0, 4, 0, 28, 63, 127]
theorem spec_AddPiece.tab11 : rtab .any (opsOf Try.f20 11) = spec_AddPiece.T11 := by kernel_rfl
theorem spec_AddPiece.bits11 : waitsOk spec_AddPiece.T11.2 spec_AddPiece.B11 = true := by kernel_rfl
def spec_AddPiece.T26 : Bool × List (List Nat × List Nat) := (true, [([], []), ([], []), ([], []), ([1, 2], [1, 2]), ([3], [3]), ([4], [4]), ([], []), ([6], [6]), ([5, 7], [5, 7]), ([8], [8]), ([0, 9], [0, 9]), ([10, 10, 0, 1, 2, 3, 4, 5, 6, 7, 8, 9, 10], [0, 10])])
def spec_AddPiece.B26 : List Nat := [0, 0, 0, 6, 14, 30, 0, 64, 254, 510, 1023, 2047]
theorem spec_AddPiece.tab26 : rtab .any (opsOf Try.f20 26) = spec_AddPiece.T26 := by kernel_rfl
theorem spec_AddPiece.bits26 : waitsOk spec_AddPiece.T26.2 spec_AddPiece.B26 = true := by kernel_rfl
set_option maxHeartbeats 8000000 in
set_option maxRecDepth 100000 in
theorem spec_AddPiece.calls (k : Nat) (A0 : Option Addr) (c0 : Nat) (l0 : List (S44)) (a1 : Int) (a2_0 : Int) (a2_1 : ByteArray) (r1 : List (S44)) (r2 : Bool) (w : World) (hr0 : Kd.C k44 w A0 l0.length l0) (hc0 : l0.length ≤ c0) (h : spec_AddPiece.f k l0 a1 a2_0 a2_1 = some (r1, r2)) :
  Calls Try.prog 20 #[.slice A0 l0.length c0, .int .i64 a1, .agg #[.int .i64 a2_0, .string a2_1]] w fun e w' => ∃ v0_ : Value, e = .returned (.tuple #[v0_, .bool r2]) ∧ Kd.R k44 44 w' w.heap.size (fun _ => True) v0_ r1 ∧ Below w.heap.size w w' := by
 have hu44 := Try.underlying44
 have hu26 := Try.underlying26
 have HR0 := zM hr0
 have HC0 := zM hc0
 clear hr0 hc0
 have HB := zM (Below.refl w.heap.size w)
 have H : ((some (([] : List (S44)) : List (S44))).bind fun y390 => (if y390.length + l0.length < 5864062014805 then ((some (y390 ++ l0 : List (S44))).bind fun y393 => ((spec_ArePieces.f k l0 a1).bind fun t396 => (if t396 = true then (if a2_0 < 0 then (spec_AddPiece.j0 k l0 y393 (wrap64 (a2_0 + (a2_1.size : Int))) true a2_0 a2_1) else (if (a2_1.size : Int) = 0 then (spec_AddPiece.j0 k l0 y393 (wrap64 (a2_0 + (a2_1.size : Int))) true a2_0 a2_1) else (if (a2_1.size : Int) > a1 then (spec_AddPiece.j0 k l0 y393 (wrap64 (a2_0 + (a2_1.size : Int))) true a2_0 a2_1) else (spec_AddPiece.j0 k l0 y393 (wrap64 (a2_0 + (a2_1.size : Int))) (decide (a2_0 > (wrap64 (a1 - (a2_1.size : Int))))) a2_0 a2_1)))) else (spec_AddPiece.j0 k l0 y393 (wrap64 (a2_0 + (a2_1.size : Int))) true a2_0 a2_1)))) else (none))) = some (r1, r2) := h
 clear h
 obtain ⟨y390, hy390⟩ : ∃ y_ : List (S44), y_ = (([] : List (S44))) := ⟨_, rfl⟩
 replace H : (if y390.length + l0.length < 5864062014805 then ((some (y390 ++ l0 : List (S44))).bind fun y393 => ((spec_ArePieces.f k l0 a1).bind fun t396 => (if t396 = true then (if a2_0 < 0 then (spec_AddPiece.j0 k l0 y393 (wrap64 (a2_0 + (a2_1.size : Int))) true a2_0 a2_1) else (if (a2_1.size : Int) = 0 then (spec_AddPiece.j0 k l0 y393 (wrap64 (a2_0 + (a2_1.size : Int))) true a2_0 a2_1) else (if (a2_1.size : Int) > a1 then (spec_AddPiece.j0 k l0 y393 (wrap64 (a2_0 + (a2_1.size : Int))) true a2_0 a2_1) else (spec_AddPiece.j0 k l0 y393 (wrap64 (a2_0 + (a2_1.size : Int))) (decide (a2_0 > (wrap64 (a1 - (a2_1.size : Int))))) a2_0 a2_1)))) else (spec_AddPiece.j0 k l0 y393 (wrap64 (a2_0 + (a2_1.size : Int))) true a2_0 a2_1)))) else (none)) = some (r1, r2) := zH hy390 H
 have Ny390 := zM hy390
 clear hy390
 by_cases c4 : y390.length + l0.length < 5864062014805
 ·rw [if_pos c4] at H
  have LMc4 := zM c4
  clear c4
  obtain ⟨y393, hy393⟩ : ∃ y_ : List (S44), y_ = (y390 ++ l0) := ⟨_, rfl⟩
  replace H : ((spec_ArePieces.f k l0 a1).bind fun t396 => (if t396 = true then (if a2_0 < 0 then (spec_AddPiece.j0 k l0 y393 (wrap64 (a2_0 + (a2_1.size : Int))) true a2_0 a2_1) else (if (a2_1.size : Int) = 0 then (spec_AddPiece.j0 k l0 y393 (wrap64 (a2_0 + (a2_1.size : Int))) true a2_0 a2_1) else (if (a2_1.size : Int) > a1 then (spec_AddPiece.j0 k l0 y393 (wrap64 (a2_0 + (a2_1.size : Int))) true a2_0 a2_1) else (spec_AddPiece.j0 k l0 y393 (wrap64 (a2_0 + (a2_1.size : Int))) (decide (a2_0 > (wrap64 (a1 - (a2_1.size : Int))))) a2_0 a2_1)))) else (spec_AddPiece.j0 k l0 y393 (wrap64 (a2_0 + (a2_1.size : Int))) true a2_0 a2_1))) = some (r1, r2) := zH hy393 H
  have Ny393 := zM hy393
  clear hy393
  have HC5 := zM H
  clear H
  go_enter Try.func20, Try.ntmps20
  go_upto_region 3 with (first | ((with_reducible refine gate_dst (N := 5) rfl ?_); (try (refine gate_guard (by rfl) ?_; dsimp only)); refine box_event ?hg (N := 5) ?hd (cs := #[.int .i64 a2_0, .string a2_1]) (t := 44) ?hr ?_; (case hd => rfl); (case hg => rfl); (case hr => first | (go_simp; done) | (go_simp; rfl)); intro gb389 hg w6 hbox hb; have n0_ := zM (below_step (zB HB.out) hb); have n1_ := zM (hbox); have n2_ := zM ((by rw [hg]; exact (below_size (zB HB.out)) : w.heap.size ≤ gb389)); have n3_ := zM ((by rw [hg]; exact (below_size (zB HB.out)) : w.heap.size ≤ gb389)); clear HB; have HB := n0_; have BK389 := n1_; have GW389 := n2_; have GE389 := n3_; clear n0_ n1_ n2_ n3_; clear hb hbox hg) | ((with_reducible refine gate_dst (N := 18) rfl ?_); (try (refine gate_guard (by rfl) ?_; dsimp only)); refine Kd.R_lit k44 _ 44 ?hg (N := 18) ?hd (xs := ([] : List (S44))) (inner := []) (ok := fun _ => True) (okp := fun _ => True) ?hr ?hp (fun _ hk => hk) trivial (Below.refl _ _) (Nat.le_refl _) (by simp) ?_; (case hd => rfl); (case hg => rfl); (case hr => first | (go_simp; done) | (go_simp; rfl)); (case hp => exact (Reps.none _ _)); intro v391 w7 ho8 hb hg_ hnew_; clear hg_ hnew_; (first | rw [← Ny390.out] at ho8 | (simp only [Int.reduceToNat] at ho8; rw [← Ny390.out] at ho8)); have n0_ := zM (Kd.R_lower (Kd.R_newB ho8 (g := gb389) (o := .cells #[.int .i64 a2_0, .string a2_1] 44 (0, 0)) (zP BK389.out)) (below_size (zB1 GE389.out HB.out))); have n1_ := zM (blk_below (g := gb389) (o := .cells #[.int .i64 a2_0, .string a2_1] 44 (0, 0)) (zP BK389.out) hb); have n2_ := zM (below_step (zB1 GE389.out HB.out) hb); clear BK389; clear HB; have HO392 := n0_; have BK389 := n1_; have HB := n2_; clear n0_ n1_ n2_; clear hb ho8) | ((with_reducible refine gate_builtin (b := .append) (xs := #[.tmp 18, .tmp 19]) rfl ?_); (try (refine gate_guard (by rfl) ?_; dsimp only)); at_builtin; refine Kd.R_append_rows k44 (w0 := w) w.heap.size rfl (.tmp 18) (.tmp 19) 40 44 (.agg #[(.int .i64 0), (.string ⟨#[]⟩)]) 24 rfl Try.underlying40 info44 rfl (by decide) (by omega) v391 y390 l0 _ _ _ (fun k_ => k_ ≠ gb389) (fun _ => False) rfl rfl ?aO ?aR (fun _ _ h => h) (fun _ h => h.elim) ?aF ?aB ?aS ?aL ?_; (case aR => exact (zC (Kd.C_below HR0.out HB.out))); (case aB => exact (zB1 GE389.out HB.out)); (case aF => exact (fun k_ hk => Kd.freshB (g := gb389) (o := .cells #[.int .i64 a2_0, .string a2_1] 44 (0, 0)) (zP BK389.out) k_ hk)); (case aO => exact (zRm HO392.out (fun _ hk => hk.2))); (case aS => exact (below_size (zB1 GE389.out HB.out))); (case aL => have := LMc4.out; omega); intro v394 w9 ho hb hg hat; rw [← Ny393.out] at ho; have n0_ := zM (blk_grown (g := gb389) (o := .cells #[.int .i64 a2_0, .string a2_1] 44 (0, 0)) (zP BK389.out) hg (Kd.R_away HO392.out (fun _ hk => hk.2))); have n1_ := zM (hb); have n2_ := zM (ho); clear BK389; clear HB; clear HO392; have BK389 := n0_; have HB := n1_; have HO395 := n2_; clear n0_ n1_ n2_; clear ho hb hg hat; have hcz10_0 : w9.cell? ⟨gb389, 0, none⟩ = some (.int .i64 a2_0) := (blk_cell BK389.out 0).trans rfl; have hcz10_1 : w9.cell? ⟨gb389, 1, none⟩ = some (.string a2_1) := (blk_cell BK389.out 1).trans rfl; have hfz10_0 := blk_frozen BK389.out 0; have hfz10_1 := blk_frozen BK389.out 1))
  (try simp only [Act.put, List.setIfInBounds_toArray, List.set_cons_zero, List.set_cons_succ])
  go_cut [58] (fun v58 wc => ∃ (kq : Nat) (x58_4 : Bool), v58 = .bool x58_4 ∧ Aside0 (spec_AddPiece.j0 kq l0 y393 (wrap64 (a2_0 + (a2_1.size : Int))) x58_4 a2_0 a2_1 = some (r1, r2)) ∧ Aside0 (kq ≤ k) ∧ Aside0 (Kd.R k44 44 wc w.heap.size (fun k_ => k_ ≠ gb389) v394 y393) ∧ Aside0 (wc.heap[gb389]? = some (.cells #[.int .i64 a2_0, .string a2_1] 44 (0, 0))) ∧ Aside0 (Below w.heap.size w wc))
  case first =>
   have H := HC5.out
   clear HC5
   replace H := Option.bind_eq_some_iff.mp H
   obtain ⟨t396, A110, H⟩ := H
   try dsimp only at H
   have A11 := zM A110
   clear A110
   by_cases c12 : t396 = true
   ·subst c12
    rw [if_pos rfl] at H
    by_cases c13 : a2_0 < 0
    ·rw [if_pos c13] at H
     have c13b0 : decide (a2_0 < 0) = true := decide_eq_true c13
     clear c13
     (first | rw [c13b0] | (simp only [i64_w, i32_w]; rw [c13b0]) | skip)
     have H' := zM H
     clear H
     go_wp2_with (first | ((with_reducible refine gate_callee (f := 29) rfl ?_); refine zG (some 29) Try.func29 #[.slice A0 l0.length c0, .int .i64 a1] ?_; (with_reducible refine (spec_ArePieces.calls k _ _ l0 a1 true _ ?side1 ?side2 A11.out).mono ?_); (case side1 => exact (zC (Kd.C_below HR0.out HB.out))); (case side2 => exact HC0.out); rintro e w14 ⟨rfl, hb⟩; refine ⟨_, rfl, ?_⟩; have n0_ := zM (Kd.R_below (zR HO395.out) hb); have n1_ := zM (blk_below (g := gb389) (o := .cells #[.int .i64 a2_0, .string a2_1] 44 (0, 0)) (zP BK389.out) hb); have n2_ := zM (below_step (zB1 GE389.out HB.out) hb); clear HO395; clear BK389; clear HB; have HO395 := n0_; have BK389 := n1_; have HB := n2_; clear n0_ n1_ n2_; (try clear hb); (try clear hb2); (try clear hk); (try clear hi); have hcz15_0 : w14.cell? ⟨gb389, 0, none⟩ = some (.int .i64 a2_0) := (blk_cell BK389.out 0).trans rfl; have hcz15_1 : w14.cell? ⟨gb389, 1, none⟩ = some (.string a2_1) := (blk_cell BK389.out 1).trans rfl; have hfz15_0 := blk_frozen BK389.out 0; have hfz15_1 := blk_frozen BK389.out 1))
     go_meet
     case rel => exact ⟨_, (true), zS, H', ⟨by first | omega | exact Nat.le_refl _⟩, ⟨(zR HO395.out)⟩, ⟨(zP BK389.out)⟩, ⟨(zB1 GE389.out HB.out)⟩⟩
    ·rw [if_neg c13] at H
     have c13b0 : decide (a2_0 < 0) = false := decide_eq_false c13
     clear c13
     (first | rw [c13b0] | (simp only [i64_w, i32_w]; rw [c13b0]) | skip)
     by_cases c16 : (a2_1.size : Int) = 0
     ·rw [if_pos c16] at H
      have c16b0 : ((a2_1.size : Int) == 0) = true := beq_iff_eq.mpr c16
      have c16b1 : ((a2_1.size : Int) != 0) = false := bne_eq_false_iff_eq.mpr c16
      clear c16
      have H' := zM H
      clear H
      go_wp2_with (first | ((with_reducible refine gate_callee (f := 29) rfl ?_); refine zG (some 29) Try.func29 #[.slice A0 l0.length c0, .int .i64 a1] ?_; (with_reducible refine (spec_ArePieces.calls k _ _ l0 a1 true _ ?side1 ?side2 A11.out).mono ?_); (case side1 => exact (zC (Kd.C_below HR0.out HB.out))); (case side2 => exact HC0.out); rintro e w17 ⟨rfl, hb⟩; refine ⟨_, rfl, ?_⟩; have n0_ := zM (Kd.R_below (zR HO395.out) hb); have n1_ := zM (blk_below (g := gb389) (o := .cells #[.int .i64 a2_0, .string a2_1] 44 (0, 0)) (zP BK389.out) hb); have n2_ := zM (below_step (zB1 GE389.out HB.out) hb); clear HO395; clear BK389; clear HB; have HO395 := n0_; have BK389 := n1_; have HB := n2_; clear n0_ n1_ n2_; (try clear hb); (try clear hb2); (try clear hk); (try clear hi); have hcz18_0 : w17.cell? ⟨gb389, 0, none⟩ = some (.int .i64 a2_0) := (blk_cell BK389.out 0).trans rfl; have hcz18_1 : w17.cell? ⟨gb389, 1, none⟩ = some (.string a2_1) := (blk_cell BK389.out 1).trans rfl; have hfz18_0 := blk_frozen BK389.out 0; have hfz18_1 := blk_frozen BK389.out 1))
      go_meet
      case rel => exact ⟨_, (true), zS, H', ⟨by first | omega | exact Nat.le_refl _⟩, ⟨(zR HO395.out)⟩, ⟨(zP BK389.out)⟩, ⟨(zB1 GE389.out HB.out)⟩⟩
     ·rw [if_neg c16] at H
      have c16b0 : ((a2_1.size : Int) == 0) = false := beq_eq_false_iff_ne.mpr c16
      have c16b1 : ((a2_1.size : Int) != 0) = true := bne_iff_ne.mpr c16
      by_cases c19 : (a2_1.size : Int) > a1
      ·rw [if_pos c19] at H
       have c19b0 : decide (a1 < (a2_1.size : Int)) = true := decide_eq_true c19
       clear c19
       have H' := zM H
       clear H
       go_wp2_with (first | ((with_reducible refine gate_callee (f := 29) rfl ?_); refine zG (some 29) Try.func29 #[.slice A0 l0.length c0, .int .i64 a1] ?_; (with_reducible refine (spec_ArePieces.calls k _ _ l0 a1 true _ ?side1 ?side2 A11.out).mono ?_); (case side1 => exact (zC (Kd.C_below HR0.out HB.out))); (case side2 => exact HC0.out); rintro e w20 ⟨rfl, hb⟩; refine ⟨_, rfl, ?_⟩; have n0_ := zM (Kd.R_below (zR HO395.out) hb); have n1_ := zM (blk_below (g := gb389) (o := .cells #[.int .i64 a2_0, .string a2_1] 44 (0, 0)) (zP BK389.out) hb); have n2_ := zM (below_step (zB1 GE389.out HB.out) hb); clear HO395; clear BK389; clear HB; have HO395 := n0_; have BK389 := n1_; have HB := n2_; clear n0_ n1_ n2_; (try clear hb); (try clear hb2); (try clear hk); (try clear hi); have hcz21_0 : w20.cell? ⟨gb389, 0, none⟩ = some (.int .i64 a2_0) := (blk_cell BK389.out 0).trans rfl; have hcz21_1 : w20.cell? ⟨gb389, 1, none⟩ = some (.string a2_1) := (blk_cell BK389.out 1).trans rfl; have hfz21_0 := blk_frozen BK389.out 0; have hfz21_1 := blk_frozen BK389.out 1))
       go_meet
       case rel => exact ⟨_, (true), zS, H', ⟨by first | omega | exact Nat.le_refl _⟩, ⟨(zR HO395.out)⟩, ⟨(zP BK389.out)⟩, ⟨(zB1 GE389.out HB.out)⟩⟩
      ·rw [if_neg c19] at H
       have c19b0 : decide (a1 < (a2_1.size : Int)) = false := decide_eq_false c19
       clear c19
       have H' := zM H
       clear H
       go_wp2_with (first | ((with_reducible refine gate_callee (f := 29) rfl ?_); refine zG (some 29) Try.func29 #[.slice A0 l0.length c0, .int .i64 a1] ?_; (with_reducible refine (spec_ArePieces.calls k _ _ l0 a1 true _ ?side1 ?side2 A11.out).mono ?_); (case side1 => exact (zC (Kd.C_below HR0.out HB.out))); (case side2 => exact HC0.out); rintro e w22 ⟨rfl, hb⟩; refine ⟨_, rfl, ?_⟩; have n0_ := zM (Kd.R_below (zR HO395.out) hb); have n1_ := zM (blk_below (g := gb389) (o := .cells #[.int .i64 a2_0, .string a2_1] 44 (0, 0)) (zP BK389.out) hb); have n2_ := zM (below_step (zB1 GE389.out HB.out) hb); clear HO395; clear BK389; clear HB; have HO395 := n0_; have BK389 := n1_; have HB := n2_; clear n0_ n1_ n2_; (try clear hb); (try clear hb2); (try clear hk); (try clear hi); have hcz23_0 : w22.cell? ⟨gb389, 0, none⟩ = some (.int .i64 a2_0) := (blk_cell BK389.out 0).trans rfl; have hcz23_1 : w22.cell? ⟨gb389, 1, none⟩ = some (.string a2_1) := (blk_cell BK389.out 1).trans rfl; have hfz23_0 := blk_frozen BK389.out 0; have hfz23_1 := blk_frozen BK389.out 1))
       go_meet
       case rel => exact ⟨_, (decide (a2_0 > (wrap64 (a1 - (a2_1.size : Int))))), zS, H', ⟨by first | omega | exact Nat.le_refl _⟩, ⟨(zR HO395.out)⟩, ⟨(zP BK389.out)⟩, ⟨(zB1 GE389.out HB.out)⟩⟩
   ·replace c12 := Bool.eq_false_iff.mpr c12
    subst c12
    rw [if_neg (show ¬ (false = true) by decide)] at H
    have H' := zM H
    clear H
    go_wp2_with (first | ((with_reducible refine gate_callee (f := 29) rfl ?_); refine zG (some 29) Try.func29 #[.slice A0 l0.length c0, .int .i64 a1] ?_; (with_reducible refine (spec_ArePieces.calls k _ _ l0 a1 false _ ?side1 ?side2 A11.out).mono ?_); (case side1 => exact (zC (Kd.C_below HR0.out HB.out))); (case side2 => exact HC0.out); rintro e w24 ⟨rfl, hb⟩; refine ⟨_, rfl, ?_⟩; have n0_ := zM (Kd.R_below (zR HO395.out) hb); have n1_ := zM (blk_below (g := gb389) (o := .cells #[.int .i64 a2_0, .string a2_1] 44 (0, 0)) (zP BK389.out) hb); have n2_ := zM (below_step (zB1 GE389.out HB.out) hb); clear HO395; clear BK389; clear HB; have HO395 := n0_; have BK389 := n1_; have HB := n2_; clear n0_ n1_ n2_; (try clear hb); (try clear hb2); (try clear hk); (try clear hi)))
    go_meet
    case rel => exact ⟨_, (true), zS, H', ⟨by first | omega | exact Nat.le_refl _⟩, ⟨(zR HO395.out)⟩, ⟨(zP BK389.out)⟩, ⟨(zB1 GE389.out HB.out)⟩⟩
  case rest =>
   clear HC5
   try clear c1
   try clear c2
   try clear p2
   try clear c4
   try clear p6
   try clear c12
   try clear c13
   try clear c13b0
   try clear c16
   try clear c16b0
   try clear c16b1
   try clear c19
   try clear c19b0
   try clear c20
   try clear hcz10_0
   try clear hcz10_1
   try clear hcz15_0
   try clear hcz15_1
   try clear hcz18_0
   try clear hcz18_1
   try clear hcz21_0
   try clear hcz21_1
   try clear hcz23_0
   try clear hcz23_1
   try clear hfz10_0
   try clear hfz10_1
   try clear hfz15_0
   try clear hfz15_1
   try clear hfz18_0
   try clear hfz18_1
   try clear hfz21_0
   try clear hfz21_1
   try clear hfz23_0
   try clear hfz23_1
   obtain ⟨kq, x58_4, rfl, HA, HJ4, HO_8, BK389, HB⟩ := hcut
   cases kq with
   | zero => exact absurd HA.out (by simp [spec_AddPiece.j0])
   | succ kj4 =>
    have H := HA.out
    clear HA
    simp only [spec_AddPiece.j0] at H
    by_cases c25 : x58_4 = true
    ·subst c25
     rw [if_pos rfl] at H
     simp only [Option.some.injEq, Prod.mk.injEq] at H
     obtain ⟨rfl, rfl⟩ := H
     go_wp2
     go_ret2
     exact ⟨_, zE, (zRm HO_8.out (fun _ hk => trivial)), (zB1 GE389.out HB.out)⟩
    ·replace c25 := Bool.eq_false_iff.mpr c25
     subst c25
     rw [if_neg (show ¬ (false = true) by decide)] at H
     have H' := zM H
     clear H
     have hcz26_0 : wc.cell? ⟨gb389, 0, none⟩ = some (.int .i64 a2_0) := (blk_cell BK389.out 0).trans rfl
     have hcz26_1 : wc.cell? ⟨gb389, 1, none⟩ = some (.string a2_1) := (blk_cell BK389.out 1).trans rfl
     have hfz26_0 := blk_frozen BK389.out 0
     have hfz26_1 := blk_frozen BK389.out 1
     go_wp2
     go_loopg [10] kj4 (fun kq v10 w' => ∃ (x10_2 : Int), v10 = .int .i64 x10_2 ∧ Aside0 (spec_AddPiece.l0 kq l0 y393 (wrap64 (a2_0 + (a2_1.size : Int))) x10_2 a2_0 a2_1 = some (r1, r2)) ∧ Aside0 (kq ≤ kj4) ∧ Aside0 (Kd.R k44 44 w' w.heap.size (fun k_ => k_ ≠ gb389) v394 y393) ∧ Aside0 (w'.heap[gb389]? = some (.cells #[.int .i64 a2_0, .string a2_1] 44 (0, 0))) ∧ Aside0 (Below w.heap.size w w'))
     case atStart => exact ⟨(a2_0), zS, H', ⟨Nat.le_refl _⟩, ⟨(zR HO_8.out)⟩, ⟨(zP BK389.out)⟩, ⟨(zB1 GE389.out HB.out)⟩⟩
     case round =>
      clear H'
      try clear c1
      try clear c2
      try clear p2
      try clear c4
      try clear p6
      try clear c12
      try clear c13
      try clear c13b0
      try clear c16
      try clear c16b0
      try clear c16b1
      try clear c19
      try clear c19b0
      try clear c20
      try clear c25
      try clear hcz10_0
      try clear hcz10_1
      try clear hcz15_0
      try clear hcz15_1
      try clear hcz18_0
      try clear hcz18_1
      try clear hcz21_0
      try clear hcz21_1
      try clear hcz23_0
      try clear hcz23_1
      try clear hcz26_0
      try clear hcz26_1
      try clear hfz10_0
      try clear hfz10_1
      try clear hfz15_0
      try clear hfz15_1
      try clear hfz18_0
      try clear hfz18_1
      try clear hfz21_0
      try clear hfz21_1
      try clear hfz23_0
      try clear hfz23_1
      try clear hfz26_0
      try clear hfz26_1
      try clear p2
      try clear p6
      obtain ⟨x10_2, rfl, HA, HK2, HO_8, BK389, HB⟩ := hrel
      cases gk with
      | zero => exact absurd HA.out (by simp [spec_AddPiece.l0])
      | succ k2 =>
       have H := HA.out
       clear HA
       simp only [spec_AddPiece.l0] at H
       by_cases c27 : x10_2 < (wrap64 (a2_0 + (a2_1.size : Int)))
       ·rw [if_pos c27] at H
        have c27b0 : decide (x10_2 < (wrap64 (a2_0 + (a2_1.size : Int)))) = true := decide_eq_true c27
        clear c27
        replace H := Option.bind_eq_some_iff.mp H
        obtain ⟨t397, A280, H⟩ := H
        try dsimp only at H
        have A28 := zM A280
        clear A280
        by_cases c29 : t397 ≥ 0
        ·rw [if_pos c29] at H
         have c29b0 : decide (0 ≤ t397) = true := decide_eq_true c29
         clear c29
         obtain ⟨ji30, hji30⟩ : ∃ j_ : Int, (wrap64 (x10_2 - a2_0)) = j_ := ⟨_, rfl⟩
         replace H : (if 0 ≤ (ji30) then (if (ji30) < (a2_1.size : Int) then (if t397 = (wrap64 (bt a2_1 (ji30))) then (spec_AddPiece.l0 k2 l0 y393 (wrap64 (a2_0 + (a2_1.size : Int))) (wrap64 (x10_2 + 1)) a2_0 a2_1) else (some (y393, false))) else (none)) else (none)) = some (r1, r2) := by first | (rw [hji30] at H; exact H) | (simp only [hji30] at H ⊢; exact H)
         (try rw [hji30] at A28)
         have hji30w : (IntKind.i64.wrap (x10_2 - a2_0)) = ji30 := (i64_w _).trans hji30
         by_cases c31 : 0 ≤ (ji30)
         ·rw [if_pos c31] at H
          have c31b0 : decide (0 ≤ (ji30)) = true := decide_eq_true c31
          clear c31
          by_cases c32 : (ji30) < (a2_1.size : Int)
          ·rw [if_pos c32] at H
           have c32b0 : decide ((ji30) < (a2_1.size : Int)) = true := decide_eq_true c32
           clear c32
           by_cases c34 : t397 = (wrap64 (bt a2_1 (ji30)))
           ·rw [if_pos c34] at H
            have c34b0 : (t397 == (wrap64 (bt a2_1 (ji30)))) = true := beq_iff_eq.mpr c34
            have c34b1 : (t397 != (wrap64 (bt a2_1 (ji30)))) = false := bne_eq_false_iff_eq.mpr c34
            clear c34
            have H' := zM H
            clear H
            go_wp2_with (first | ((with_reducible refine gate_callee (f := 42) rfl ?_); refine zG (some 69) Try.func42 #[.slice A0 l0.length c0, .int .i64 x10_2] ?_; (with_reducible refine (spec_l10Byte.calls k2 _ _ l0 x10_2 t397 _ ?side1 ?side2 A28.out).mono ?_); (case side1 => exact (zC (Kd.C_below HR0.out HB.out))); (case side2 => exact HC0.out); rintro e w' ⟨rfl, ⟨nd, rfl⟩⟩; refine ⟨_, rfl, ?_⟩; have hcz35_0 : wr.cell? ⟨gb389, 0, none⟩ = some (.int .i64 a2_0) := (blk_cell BK389.out 0).trans rfl; have hcz35_1 : wr.cell? ⟨gb389, 1, none⟩ = some (.string a2_1) := (blk_cell BK389.out 1).trans rfl; have hfz35_0 := blk_frozen BK389.out 0; have hfz35_1 := blk_frozen BK389.out 1; have p33 : 0 ≤ ((ji30) : Int) := zD; have q33 : (ji30) < (a2_1.size : Int) := zD; have hx33 := bt_at a2_1 (ji30); replace p33 := eq_true p33; replace q33 := eq_true q33))
            go_roundg k2
            case measure => have := HJ4.out; have := HK2.out; omega
            case rel => exact ⟨(wrap64 (x10_2 + 1)), zS, H', ⟨by have := HJ4.out; have := HK2.out; omega⟩, ⟨(zR HO_8.out)⟩, ⟨(zP BK389.out)⟩, ⟨(zB1 GE389.out HB.out)⟩⟩
           ·rw [if_neg c34] at H
            have c34b0 : (t397 == (wrap64 (bt a2_1 (ji30)))) = false := beq_eq_false_iff_ne.mpr c34
            have c34b1 : (t397 != (wrap64 (bt a2_1 (ji30)))) = true := bne_iff_ne.mpr c34
            simp only [Option.some.injEq, Prod.mk.injEq] at H
            obtain ⟨rfl, rfl⟩ := H
            go_wp2_with (first | ((with_reducible refine gate_callee (f := 42) rfl ?_); refine zG (some 69) Try.func42 #[.slice A0 l0.length c0, .int .i64 x10_2] ?_; (with_reducible refine (spec_l10Byte.calls k2 _ _ l0 x10_2 t397 _ ?side1 ?side2 A28.out).mono ?_); (case side1 => exact (zC (Kd.C_below HR0.out HB.out))); (case side2 => exact HC0.out); rintro e w' ⟨rfl, ⟨nd, rfl⟩⟩; refine ⟨_, rfl, ?_⟩; have hcz36_0 : wr.cell? ⟨gb389, 0, none⟩ = some (.int .i64 a2_0) := (blk_cell BK389.out 0).trans rfl; have hcz36_1 : wr.cell? ⟨gb389, 1, none⟩ = some (.string a2_1) := (blk_cell BK389.out 1).trans rfl; have hfz36_0 := blk_frozen BK389.out 0; have hfz36_1 := blk_frozen BK389.out 1; have p33 : 0 ≤ ((ji30) : Int) := zD; have q33 : (ji30) < (a2_1.size : Int) := zD; have hx33 := bt_at a2_1 (ji30); replace p33 := eq_true p33; replace q33 := eq_true q33))
            go_ret2
            exact ⟨_, by first | rfl | (simp [errW_none, errW_some] <;> rfl) | (simp only [← hji30]; first | rfl | (simp [errW_none, errW_some] <;> rfl)) | (simp [*, errW_none, errW_some] <;> rfl), (zRm HO_8.out (fun _ hk => trivial)), (zB1 GE389.out HB.out)⟩
          ·rw [if_neg c32] at H
           exact absurd H (by simp)
         ·rw [if_neg c31] at H
          exact absurd H (by simp)
        ·rw [if_neg c29] at H
         have c29b0 : decide (0 ≤ t397) = false := decide_eq_false c29
         clear c29
         have H' := zM H
         clear H
         go_wp2_with (first | ((with_reducible refine gate_callee (f := 42) rfl ?_); refine zG (some 69) Try.func42 #[.slice A0 l0.length c0, .int .i64 x10_2] ?_; (with_reducible refine (spec_l10Byte.calls k2 _ _ l0 x10_2 t397 _ ?side1 ?side2 A28.out).mono ?_); (case side1 => exact (zC (Kd.C_below HR0.out HB.out))); (case side2 => exact HC0.out); rintro e w' ⟨rfl, ⟨nd, rfl⟩⟩; refine ⟨_, rfl, ?_⟩))
         go_roundg k2
         case measure => have := HJ4.out; have := HK2.out; omega
         case rel => exact ⟨(wrap64 (x10_2 + 1)), zS, H', ⟨by have := HJ4.out; have := HK2.out; omega⟩, ⟨(zR HO_8.out)⟩, ⟨(zP BK389.out)⟩, ⟨(zB1 GE389.out HB.out)⟩⟩
       ·rw [if_neg c27] at H
        have c27b0 : decide (x10_2 < (wrap64 (a2_0 + (a2_1.size : Int)))) = false := decide_eq_false c27
        clear c27
        replace H := Option.bind_eq_some_iff.mp H
        obtain ⟨t398, A370, H⟩ := H
        try dsimp only at H
        have A37 := zM A370
        clear A370
        replace H := Option.bind_eq_some_iff.mp H
        obtain ⟨t401, A380, H⟩ := H
        try dsimp only at H
        have A38 := zM A380
        clear A380
        by_cases c39 : (t401.length : Int) > 8
        ·rw [if_pos c39] at H
         have c39b0 : decide (8 < (t401.length : Int)) = true := decide_eq_true c39
         have c39b1 : decide (8 < t401.length) = true := decide_eq_true (by omega)
         clear c39
         simp only [Option.some.injEq, Prod.mk.injEq] at H
         obtain ⟨rfl, rfl⟩ := H
         try go_wp2
         have n0_ := zM (Kd.R_drew HO_8.out)
         have n1_ := zM (blk_drew BK389.out)
         have n2_ := zM (below_drew1 HB.out)
         clear HO_8
         clear BK389
         clear HB
         have HO_8 := n0_
         have BK389 := n1_
         have HB := n2_
         clear n0_ n1_ n2_
         refine start_ (n := 8) (S := fun w' => w'.cell? ⟨gb389, 0, none⟩ = some (.int .i64 a2_0) ∧ w'.cell? ⟨gb389, 1, none⟩ = some (.string a2_1)) (ds := []) (ba 8 0).toArray (by kernel_rfl) rfl rfl ⟨(blk_cell BK389.out 0).trans rfl, (blk_cell BK389.out 1).trans rfl⟩ (fun hHeld => ?_); refine with_tabW spec_AddPiece.tab11 spec_AddPiece.bits11 (fun HT_ HW_ => ?_)
         generalize wr.drew = w40 at HO_8 BK389 HB hHeld ⊢
         refine zq 0 (some 85) (ba 8 1).toArray HT_ ?_
         refine zq 2 (some 87) (ba 8 5).toArray HT_ ?_
         refine zq 4 (some 89) (ba 8 21).toArray HT_ ?_
         refine zt2 3 (some 88) (ba 8 29).toArray HT_ HW_ hHeld ?_
         refine zq 5 (some 90) (ba 8 61).toArray HT_ ?_
         refine one_ (i := 1) (N := some 86) (ba 8 63).toArray rfl rfl (one_of HT_.out (by kernel_rfl)) (by decide) (fun K hK => ?_)
         refine goes_ Try.func44 (by kernel_rfl) rfl #[.slice A0 l0.length c0] (by rfl) rfl rfl (by (try simp only [List.map_toArray, List.map_cons, List.map_nil]); first | done | rfl | (simp only [List.length_drop, List.length_take]; rfl)) ?_
         with_reducible refine (spec_SpansOf.calls k2 _ _ l0 t398 _ ?side1 ?side2 A37.out).mono ?_
         (case side1 => exact (zC (Kd.C_below HR0.out HB.out)))
         (case side2 => exact HC0.out)
         rintro e w41 ⟨v399, rfl, ho0, hb⟩
         refine ⟨_, rfl, ?_⟩
         have n0_ := zM (Kd.R_below (zR HO_8.out) hb)
         have n1_ := zM (Kd.R_lower ho0 (below_size (zB1 GE389.out HB.out)))
         have n2_ := zM (blk_below (g := gb389) (o := .cells #[.int .i64 a2_0, .string a2_1] 44 (0, 0)) (zP BK389.out) hb)
         have n3_ := zM (below_step (zB1 GE389.out HB.out) hb)
         clear HO_8
         clear BK389
         clear HB
         have HO_8 := n0_
         have HO400 := n1_
         have BK389 := n2_
         have HB := n3_
         clear n0_ n1_ n2_ n3_
         (try clear hb)
         (try clear hb2)
         (try clear hk)
         (try clear hi)
         (try clear ho0)
         obtain ⟨Ao42, co42, eo42⟩ := Kd.R_slice HO400.out
         (first | subst eo42 | (injection eo42 with f1_ f2_ f3_; have f4_ := f1_.symm; have f5_ := f3_.symm; clear f1_ f2_ f3_; subst f4_; subst f5_))
         refine hK.out _ _ ⟨(blk_cell BK389.out 0).trans rfl, (blk_cell BK389.out 1).trans rfl⟩ (fun hHeld => ?_)
         clear hK K
         refine norm_ (a' := ?_) ?_ ?_
         rotate_left
         ·show Act.put _ (some 86) _ = _
          simp only [Act.put, List.setIfInBounds_toArray, List.set_cons_zero, List.set_cons_succ, i64_w, i32_w]
          rfl
         refine one_ (i := 6) (N := some 91) (ba 8 127).toArray rfl rfl (one_of HT_.out (by kernel_rfl)) (by decide) (fun K hK => ?_)
         refine goes_ Try.func43 (by kernel_rfl) rfl #[.slice Ao42 t398.length co42, .agg #[.int .i64 a2_0, .int .i64 (wrap64 (a2_0 + (a2_1.size : Int)))]] (by rfl) rfl rfl (by (try simp only [List.map_toArray, List.map_cons, List.map_nil]); first | done | rfl | (simp only [List.length_drop, List.length_take]; rfl)) ?_
         with_reducible refine (spec_AddSpan.calls k2 _ _ t398 a2_0 (wrap64 (a2_0 + (a2_1.size : Int))) t401 _ ?side1 ?side2 A38.out).mono ?_
         (case side1 => exact (zC ((Kd.R_reads' HO400.out).2.2)))
         (case side2 => exact (Kd.R_reads' HO400.out).2.1)
         rintro e w43 ⟨v402, rfl, ho0, hb⟩
         refine ⟨_, rfl, ?_⟩
         have n0_ := zM (Kd.R_below (zR HO_8.out) hb)
         have n1_ := zM (Kd.R_elder' (zR HO400.out) (Kd.R_base ho0) hb)
         have n2_ := zM (Kd.R_lower (Kd.R_new' ho0 (Kd.R_lt (zR HO400.out))) (below_size (zB1 GE389.out HB.out)))
         have n3_ := zM (blk_below (g := gb389) (o := .cells #[.int .i64 a2_0, .string a2_1] 44 (0, 0)) (zP BK389.out) hb)
         have n4_ := zM (below_step (zB1 GE389.out HB.out) hb)
         clear HO_8
         clear HO400
         clear BK389
         clear HB
         have HO_8 := n0_
         have HO400 := n1_
         have HO403 := n2_
         have BK389 := n3_
         have HB := n4_
         clear n0_ n1_ n2_ n3_ n4_
         (try clear hb)
         (try clear hb2)
         (try clear hk)
         (try clear hi)
         (try clear ho0)
         refine hK.out _ _ ⟨(blk_cell BK389.out 0).trans rfl, (blk_cell BK389.out 1).trans rfl⟩ (fun hHeld => ?_)
         clear hK K
         refine norm_ (a' := ?_) ?_ ?_
         rotate_left
         ·show Act.put _ (some 91) _ = _
          simp only [Act.put, List.setIfInBounds_toArray, List.set_cons_zero, List.set_cons_succ, i64_w, i32_w]
          rfl
         refine zq 7 (some 12) (ba 8 255).toArray HT_ ?_
         refine done_ (done_of HT_.out (by kernel_rfl)) ?_
         obtain ⟨Ao44, co44, eo44⟩ := Kd.R_slice HO403.out
         subst eo44
         try go_wp2
         go_ret2
         exact ⟨_, zE, (zRm HO_8.out (fun _ hk => trivial)), (zB1 GE389.out HB.out)⟩
        ·rw [if_neg c39] at H
         have c39b0 : decide (8 < (t401.length : Int)) = false := decide_eq_false c39
         have c39b1 : decide (8 < t401.length) = false := decide_eq_false (by omega)
         clear c39
         obtain ⟨y404, hy404⟩ : ∃ y_ : List (S44), y_ = (([] : List (S44))) := ⟨_, rfl⟩
         replace H : (spec_AddPiece.l1 k2 l0 t401 y404 0 a2_0 a2_1) = some (r1, r2) := zH hy404 H
         have Ny404 := zM hy404
         clear hy404
         have H' := zM H
         clear H
         try go_wp2
         have n0_ := zM (Kd.R_drew HO_8.out)
         have n1_ := zM (blk_drew BK389.out)
         have n2_ := zM (below_drew1 HB.out)
         clear HO_8
         clear BK389
         clear HB
         have HO_8 := n0_
         have BK389 := n1_
         have HB := n2_
         clear n0_ n1_ n2_
         refine start_ (n := 8) (S := fun w' => w'.cell? ⟨gb389, 0, none⟩ = some (.int .i64 a2_0) ∧ w'.cell? ⟨gb389, 1, none⟩ = some (.string a2_1)) (ds := []) (ba 8 0).toArray (by kernel_rfl) rfl rfl ⟨(blk_cell BK389.out 0).trans rfl, (blk_cell BK389.out 1).trans rfl⟩ (fun hHeld => ?_); refine with_tabW spec_AddPiece.tab11 spec_AddPiece.bits11 (fun HT_ HW_ => ?_)
         generalize wr.drew = w45 at HO_8 BK389 HB hHeld ⊢
         refine zq 0 (some 85) (ba 8 1).toArray HT_ ?_
         refine zq 2 (some 87) (ba 8 5).toArray HT_ ?_
         refine zq 4 (some 89) (ba 8 21).toArray HT_ ?_
         refine zt2 3 (some 88) (ba 8 29).toArray HT_ HW_ hHeld ?_
         refine zq 5 (some 90) (ba 8 61).toArray HT_ ?_
         refine one_ (i := 1) (N := some 86) (ba 8 63).toArray rfl rfl (one_of HT_.out (by kernel_rfl)) (by decide) (fun K hK => ?_)
         refine goes_ Try.func44 (by kernel_rfl) rfl #[.slice A0 l0.length c0] (by rfl) rfl rfl (by (try simp only [List.map_toArray, List.map_cons, List.map_nil]); first | done | rfl | (simp only [List.length_drop, List.length_take]; rfl)) ?_
         with_reducible refine (spec_SpansOf.calls k2 _ _ l0 t398 _ ?side1 ?side2 A37.out).mono ?_
         (case side1 => exact (zC (Kd.C_below HR0.out HB.out)))
         (case side2 => exact HC0.out)
         rintro e w46 ⟨v399, rfl, ho0, hb⟩
         refine ⟨_, rfl, ?_⟩
         have n0_ := zM (Kd.R_below (zR HO_8.out) hb)
         have n1_ := zM (Kd.R_lower ho0 (below_size (zB1 GE389.out HB.out)))
         have n2_ := zM (blk_below (g := gb389) (o := .cells #[.int .i64 a2_0, .string a2_1] 44 (0, 0)) (zP BK389.out) hb)
         have n3_ := zM (below_step (zB1 GE389.out HB.out) hb)
         clear HO_8
         clear BK389
         clear HB
         have HO_8 := n0_
         have HO400 := n1_
         have BK389 := n2_
         have HB := n3_
         clear n0_ n1_ n2_ n3_
         (try clear hb)
         (try clear hb2)
         (try clear hk)
         (try clear hi)
         (try clear ho0)
         obtain ⟨Ao47, co47, eo47⟩ := Kd.R_slice HO400.out
         (first | subst eo47 | (injection eo47 with f1_ f2_ f3_; have f4_ := f1_.symm; have f5_ := f3_.symm; clear f1_ f2_ f3_; subst f4_; subst f5_))
         refine hK.out _ _ ⟨(blk_cell BK389.out 0).trans rfl, (blk_cell BK389.out 1).trans rfl⟩ (fun hHeld => ?_)
         clear hK K
         refine norm_ (a' := ?_) ?_ ?_
         rotate_left
         ·show Act.put _ (some 86) _ = _
          simp only [Act.put, List.setIfInBounds_toArray, List.set_cons_zero, List.set_cons_succ, i64_w, i32_w]
          rfl
         refine one_ (i := 6) (N := some 91) (ba 8 127).toArray rfl rfl (one_of HT_.out (by kernel_rfl)) (by decide) (fun K hK => ?_)
         refine goes_ Try.func43 (by kernel_rfl) rfl #[.slice Ao47 t398.length co47, .agg #[.int .i64 a2_0, .int .i64 (wrap64 (a2_0 + (a2_1.size : Int)))]] (by rfl) rfl rfl (by (try simp only [List.map_toArray, List.map_cons, List.map_nil]); first | done | rfl | (simp only [List.length_drop, List.length_take]; rfl)) ?_
         with_reducible refine (spec_AddSpan.calls k2 _ _ t398 a2_0 (wrap64 (a2_0 + (a2_1.size : Int))) t401 _ ?side1 ?side2 A38.out).mono ?_
         (case side1 => exact (zC ((Kd.R_reads' HO400.out).2.2)))
         (case side2 => exact (Kd.R_reads' HO400.out).2.1)
         rintro e w48 ⟨v402, rfl, ho0, hb⟩
         refine ⟨_, rfl, ?_⟩
         have n0_ := zM (Kd.R_below (zR HO_8.out) hb)
         have n1_ := zM (Kd.R_elder' (zR HO400.out) (Kd.R_base ho0) hb)
         have n2_ := zM (Kd.R_lower (Kd.R_new' ho0 (Kd.R_lt (zR HO400.out))) (below_size (zB1 GE389.out HB.out)))
         have n3_ := zM (blk_below (g := gb389) (o := .cells #[.int .i64 a2_0, .string a2_1] 44 (0, 0)) (zP BK389.out) hb)
         have n4_ := zM (below_step (zB1 GE389.out HB.out) hb)
         clear HO_8
         clear HO400
         clear BK389
         clear HB
         have HO_8 := n0_
         have HO400 := n1_
         have HO403 := n2_
         have BK389 := n3_
         have HB := n4_
         clear n0_ n1_ n2_ n3_ n4_
         (try clear hb)
         (try clear hb2)
         (try clear hk)
         (try clear hi)
         (try clear ho0)
         refine hK.out _ _ ⟨(blk_cell BK389.out 0).trans rfl, (blk_cell BK389.out 1).trans rfl⟩ (fun hHeld => ?_)
         clear hK K
         refine norm_ (a' := ?_) ?_ ?_
         rotate_left
         ·show Act.put _ (some 91) _ = _
          simp only [Act.put, List.setIfInBounds_toArray, List.set_cons_zero, List.set_cons_succ, i64_w, i32_w]
          rfl
         refine zq 7 (some 12) (ba 8 255).toArray HT_ ?_
         refine done_ (done_of HT_.out (by kernel_rfl)) ?_
         obtain ⟨Ao49, co49, eo49⟩ := Kd.R_slice HO403.out
         subst eo49
         try go_wp2_with (first | ((with_reducible refine gate_dst (N := 96) rfl ?_); (try (refine gate_guard (by rfl) ?_; dsimp only)); refine Kd.R_lit k44 _ 44 ?hg (N := 96) ?hd (xs := ([] : List (S44))) (inner := []) (ok := fun _ => True) (okp := fun _ => True) ?hr ?hp (fun _ hk => hk) trivial (Below.refl _ _) (Nat.le_refl _) (by simp) ?_; (case hd => rfl); (case hg => rfl); (case hr => first | (go_simp; done) | (go_simp; rfl)); (case hp => exact (Reps.none _ _)); intro v405 w50 ho51 hb hg_ hnew_; clear hg_ hnew_; (first | rw [← Ny404.out] at ho51 | (simp only [Int.reduceToNat] at ho51; rw [← Ny404.out] at ho51)); have n0_ := zM (Kd.R_elder' (zR HO_8.out) (Kd.R_base ho51) hb); have n1_ := zM (Kd.R_below (zR HO400.out) hb); have n2_ := zM (Kd.R_below (zR HO403.out) hb); have n3_ := zM (Kd.R_lower (Kd.R_newB (Kd.R_new' ho51 (Kd.R_lt (zR HO_8.out))) (g := gb389) (o := .cells #[.int .i64 a2_0, .string a2_1] 44 (0, 0)) (zP BK389.out)) (below_size (zB1 GE389.out HB.out))); have n4_ := zM (blk_below (g := gb389) (o := .cells #[.int .i64 a2_0, .string a2_1] 44 (0, 0)) (zP BK389.out) hb); have n5_ := zM (below_step (zB1 GE389.out HB.out) hb); clear HO_8; clear HO400; clear HO403; clear BK389; clear HB; have HO_8 := n0_; have HO400 := n1_; have HO403 := n2_; have HO406 := n3_; have BK389 := n4_; have HB := n5_; clear n0_ n1_ n2_ n3_ n4_ n5_; clear hb ho51))
         go_loopg [13, 14] k2 (fun kq v13 v14 w' => ∃ (x13_3 : List (S44)) (x14_3 : Int), v14 = .int .i64 x14_3 ∧ Aside0 (spec_AddPiece.l1 kq l0 t401 x13_3 x14_3 a2_0 a2_1 = some (r1, r2)) ∧ Aside0 (kq ≤ k2) ∧ Aside0 (Kd.R k26 26 w' w.heap.size (fun _ => True) (.slice Ao49 t401.length co49) t401) ∧ Aside0 (Kd.R k44 44 w' w.heap.size (fun k_ => k_ ≠ gb389) v13 x13_3) ∧ Aside0 (w'.heap[gb389]? = some (.cells #[.int .i64 a2_0, .string a2_1] 44 (0, 0))) ∧ Aside0 (Below w.heap.size w w'))
         case atStart => exact ⟨(y404), (0), zS, H', ⟨Nat.le_refl _⟩, ⟨(zRm HO403.out (fun _ hk => trivial))⟩, ⟨(zRm HO406.out (fun _ hk => hk.2))⟩, ⟨(zP BK389.out)⟩, ⟨(zB1 GE389.out HB.out)⟩⟩
         case round =>
          clear H'
          try clear c1
          try clear c2
          try clear p2
          try clear c3
          try clear p3
          try clear q3
          try clear hx3
          try clear c4
          try clear p6
          try clear c12
          try clear c13
          try clear c13b0
          try clear c16
          try clear c16b0
          try clear c16b1
          try clear c19
          try clear c19b0
          try clear c20
          try clear c25
          try clear c27
          try clear c27b0
          try clear c29
          try clear c29b0
          try clear c31
          try clear c31b0
          try clear c32
          try clear c32b0
          try clear p33
          try clear q33
          try clear hx33
          try clear c34
          try clear c34b0
          try clear c34b1
          try clear c39
          try clear c39b0
          try clear c39b1
          try clear c42
          try clear c43
          try clear c44
          try clear hcz10_0
          try clear hcz10_1
          try clear hcz15_0
          try clear hcz15_1
          try clear hcz18_0
          try clear hcz18_1
          try clear hcz21_0
          try clear hcz21_1
          try clear hcz23_0
          try clear hcz23_1
          try clear hcz26_0
          try clear hcz26_1
          try clear hcz35_0
          try clear hcz35_1
          try clear hcz36_0
          try clear hcz36_1
          try clear hfz10_0
          try clear hfz10_1
          try clear hfz15_0
          try clear hfz15_1
          try clear hfz18_0
          try clear hfz18_1
          try clear hfz21_0
          try clear hfz21_1
          try clear hfz23_0
          try clear hfz23_1
          try clear hfz26_0
          try clear hfz26_1
          try clear hfz35_0
          try clear hfz35_1
          try clear hfz36_0
          try clear hfz36_1
          try clear p2
          try clear p33
          try clear p6
          try clear q33
          obtain ⟨x13_3, x14_3, rfl, HA, HK3, HO_12, HO_13, BK389, HB⟩ := hrel
          cases gk with
          | zero => exact absurd HA.out (by simp [spec_AddPiece.l1])
          | succ k3 =>
           have H := HA.out
           clear HA
           simp only [spec_AddPiece.l1] at H
           by_cases c52 : x14_3 < (t401.length : Int)
           ·rw [if_pos c52] at H
            have c52b0 : decide (x14_3 < (t401.length : Int)) = true := decide_eq_true c52
            clear c52
            obtain ⟨y407, hy407⟩ : ∃ y_ : List Int, y_ = (([] : List Int)) := ⟨_, rfl⟩
            replace H : (if 0 ≤ x14_3 then (spec_AddPiece.l2 k3 l0 t401 x13_3 x14_3 y407 ((rd_T26 t401 x14_3).f0) a2_0 a2_1) else (none)) = some (r1, r2) := zH hy407 H
            have Ny407 := zM hy407
            clear hy407
            by_cases c53 : 0 ≤ x14_3
            ·rw [if_pos c53] at H
             have c53b0 : decide (0 ≤ x14_3) = true := decide_eq_true c53
             clear c53
             have H' := zM H
             clear H
             go_wp2_with (first | ((with_reducible refine gate_dst (N := 103) rfl ?_); (try (refine gate_guard (by rfl) ?_; dsimp only)); refine Kd.R_lit (Kd.int .u8) _ 5 ?hg (N := 103) ?hd (xs := ([] : List Int)) (inner := []) (ok := fun _ => True) (okp := fun _ => True) ?hr ?hp (fun _ hk => hk) trivial (Below.refl _ _) (Nat.le_refl _) (by simp) ?_; (case hd => rfl); (case hg => rfl); (case hr => first | (go_simp; done) | (go_simp; rfl)); (case hp => exact (Reps.none _ _)); intro v408 w54 ho55 hb hg_ hnew_; clear hg_ hnew_; (first | rw [← Ny407.out] at ho55 | (simp only [Int.reduceToNat] at ho55; rw [← Ny407.out] at ho55)); have n0_ := zM (Kd.R_below (zR HO_12.out) hb); have n1_ := zM (Kd.R_below (zR HO_13.out) hb); have n2_ := zM (Kd.R_lower ho55 (below_size (zB1 GE389.out HB.out))); have n3_ := zM (blk_below (g := gb389) (o := .cells #[.int .i64 a2_0, .string a2_1] 44 (0, 0)) (zP BK389.out) hb); have n4_ := zM (below_step (zB1 GE389.out HB.out) hb); clear HO_12; clear HO_13; clear BK389; clear HB; have HO_12 := n0_; have HO_13 := n1_; have HO409 := n2_; have BK389 := n3_; have HB := n4_; clear n0_ n1_ n2_ n3_ n4_; clear hb ho55; have p410 : 0 ≤ (x14_3 : Int) := zD; have q410 : x14_3 < (t401.length : Int) := zD; obtain ⟨ad410, e410, hx410_0, hx410_1⟩ := at_T26 (Kd.R_reads' HO_12.out).2.2 x14_3 p410 q410; cases e410; replace p410 := eq_true p410; replace q410 := eq_true q410))
             go_loopg [15, 16] k3 (fun kq v15 v16 w' => ∃ (x15_4 : List Int) (x16_4 : Int), v16 = .int .i64 x16_4 ∧ Aside0 (spec_AddPiece.l2 kq l0 t401 x13_3 x14_3 x15_4 x16_4 a2_0 a2_1 = some (r1, r2)) ∧ Aside0 (kq ≤ k3) ∧ Aside0 (Kd.R k26 26 w' w.heap.size (fun _ => True) (.slice (some ad410) t401.length co49) t401) ∧ Aside0 (Kd.R k44 44 w' w.heap.size (fun k_ => k_ ≠ gb389) u13 x13_3) ∧ Aside0 (Kd.R (Kd.int .u8) 5 w' w.heap.size (fun _ => True) v15 x15_4) ∧ Aside0 (w'.heap[gb389]? = some (.cells #[.int .i64 a2_0, .string a2_1] 44 (0, 0))) ∧ Aside0 (Below w.heap.size w w'))
             case atStart => exact ⟨(y407), ((rd_T26 t401 x14_3).f0), zS, H', ⟨Nat.le_refl _⟩, ⟨(zR HO_12.out)⟩, ⟨(zR HO_13.out)⟩, ⟨(zR HO409.out)⟩, ⟨(zP BK389.out)⟩, ⟨(zB1 GE389.out HB.out)⟩⟩
             case round =>
              clear H'
              try clear c1
              try clear c2
              try clear p2
              try clear c3
              try clear p3
              try clear q3
              try clear hx3
              try clear c4
              try clear p4
              try clear q4
              try clear hx4
              try clear c5
              try clear p6
              try clear c12
              try clear c13
              try clear c13b0
              try clear c16
              try clear c16b0
              try clear c16b1
              try clear c19
              try clear c19b0
              try clear c20
              try clear c25
              try clear c27
              try clear c27b0
              try clear c29
              try clear c29b0
              try clear c31
              try clear c31b0
              try clear c32
              try clear c32b0
              try clear p33
              try clear q33
              try clear hx33
              try clear c34
              try clear c34b0
              try clear c34b1
              try clear c39
              try clear c39b0
              try clear c39b1
              try clear p41
              try clear q41
              try clear hx41
              try clear c42
              try clear c43
              try clear c44
              try clear c52
              try clear c52b0
              try clear c53
              try clear c53b0
              try clear hcz10_0
              try clear hcz10_1
              try clear hcz15_0
              try clear hcz15_1
              try clear hcz18_0
              try clear hcz18_1
              try clear hcz21_0
              try clear hcz21_1
              try clear hcz23_0
              try clear hcz23_1
              try clear hcz26_0
              try clear hcz26_1
              try clear hcz35_0
              try clear hcz35_1
              try clear hcz36_0
              try clear hcz36_1
              try clear hfz10_0
              try clear hfz10_1
              try clear hfz15_0
              try clear hfz15_1
              try clear hfz18_0
              try clear hfz18_1
              try clear hfz21_0
              try clear hfz21_1
              try clear hfz23_0
              try clear hfz23_1
              try clear hfz26_0
              try clear hfz26_1
              try clear hfz35_0
              try clear hfz35_1
              try clear hfz36_0
              try clear hfz36_1
              try clear hx410_0
              try clear hx410_1
              try clear p2
              try clear p3
              try clear p33
              try clear p410
              try clear p6
              try clear q3
              try clear q33
              try clear q410
              obtain ⟨x15_4, x16_4, rfl, HA, HK4, HO_12, HO_13, HO_15, BK389, HB⟩ := hrel
              cases gk with
              | zero => exact absurd HA.out (by simp [spec_AddPiece.l2])
              | succ k4 =>
               have H := HA.out
               clear HA
               simp only [spec_AddPiece.l2] at H
               by_cases c56 : 0 ≤ x14_3
               ·rw [if_pos c56] at H
                have c56b0 : decide (0 ≤ x14_3) = true := decide_eq_true c56
                clear c56
                by_cases c57 : x14_3 < (t401.length : Int)
                ·rw [if_pos c57] at H
                 have c57b0 : decide (x14_3 < (t401.length : Int)) = true := decide_eq_true c57
                 clear c57
                 by_cases c58 : x16_4 < ((rd_T26 t401 x14_3).f1)
                 ·rw [if_pos c58] at H
                  have c58b0 : decide (x16_4 < ((rd_T26 t401 x14_3).f1)) = true := decide_eq_true c58
                  clear c58
                  replace H := Option.bind_eq_some_iff.mp H
                  obtain ⟨t412, A590, H⟩ := H
                  try dsimp only at H
                  have A59 := zM A590
                  clear A590
                  by_cases c60 : t412 < 0
                  ·rw [if_pos c60] at H
                   have c60b0 : decide (t412 < 0) = true := decide_eq_true c60
                   clear c60
                   obtain ⟨ji61, hji61⟩ : ∃ j_ : Int, (wrap64 (x16_4 - a2_0)) = j_ := ⟨_, rfl⟩
                   replace H : (if 0 ≤ (ji61) then (if (ji61) < (a2_1.size : Int) then (if x15_4.length < 140737488355328 then (spec_AddPiece.l2 k4 l0 t401 x13_3 x14_3 (x15_4 ++ [(wrap64 (bt a2_1 (ji61))) % 256]) (wrap64 (x16_4 + 1)) a2_0 a2_1) else (none)) else (none)) else (none)) = some (r1, r2) := by first | (rw [hji61] at H; exact H) | (simp only [hji61] at H ⊢; exact H)
                   (try rw [hji61] at A59)
                   have hji61w : (IntKind.i64.wrap (x16_4 - a2_0)) = ji61 := (i64_w _).trans hji61
                   by_cases c62 : 0 ≤ (ji61)
                   ·rw [if_pos c62] at H
                    have c62b0 : decide (0 ≤ (ji61)) = true := decide_eq_true c62
                    clear c62
                    by_cases c63 : (ji61) < (a2_1.size : Int)
                    ·rw [if_pos c63] at H
                     have c63b0 : decide ((ji61) < (a2_1.size : Int)) = true := decide_eq_true c63
                     clear c63
                     by_cases c65 : x15_4.length < 140737488355328
                     ·rw [if_pos c65] at H
                      have LMc65 := zM c65
                      clear c65
                      obtain ⟨y413, hy413⟩ : ∃ y_ : List Int, y_ = (x15_4 ++ [(wrap64 (bt a2_1 (ji61))) % 256]) := ⟨_, rfl⟩
                      replace H : (spec_AddPiece.l2 k4 l0 t401 x13_3 x14_3 y413 (wrap64 (x16_4 + 1)) a2_0 a2_1) = some (r1, r2) := zH hy413 H
                      have Ny413 := zM hy413
                      clear hy413
                      have H' := zM H
                      clear H
                      have p411 : 0 ≤ (x14_3 : Int) := zD
                      have q411 : x14_3 < (t401.length : Int) := zD
                      obtain ⟨ad411, e411, hx411_0, hx411_1⟩ := at_T26 (Kd.R_reads' HO_12.out).2.2 x14_3 p411 q411
                      obtain rfl : ad410 = ad411 := (by injection e411)
                      replace p411 := eq_true p411
                      replace q411 := eq_true q411
                      go_wp2_with (first | ((with_reducible refine gate_callee (f := 42) rfl ?_); refine zG (some 120) Try.func42 #[.slice A0 l0.length c0, .int .i64 x16_4] ?_; (with_reducible refine (spec_l10Byte.calls k4 _ _ l0 x16_4 t412 _ ?side1 ?side2 A59.out).mono ?_); (case side1 => exact (zC (Kd.C_below HR0.out HB.out))); (case side2 => exact HC0.out); rintro e w' ⟨rfl, ⟨nd, rfl⟩⟩; refine ⟨_, rfl, ?_⟩; have hcz66_0 : wr.cell? ⟨gb389, 0, none⟩ = some (.int .i64 a2_0) := (blk_cell BK389.out 0).trans rfl; have hcz66_1 : wr.cell? ⟨gb389, 1, none⟩ = some (.string a2_1) := (blk_cell BK389.out 1).trans rfl; have hfz66_0 := blk_frozen BK389.out 0; have hfz66_1 := blk_frozen BK389.out 1; have p64 : 0 ≤ ((ji61) : Int) := zD; have q64 : (ji61) < (a2_1.size : Int) := zD; have hx64 := bt_at a2_1 (ji61); replace p64 := eq_true p64; replace q64 := eq_true q64) | ((with_reducible refine gate_builtin (b := .append) (xs := #[.tmp 131, .tmp 134]) rfl ?_); (try (refine gate_guard (by rfl) ?_; dsimp only)); at_builtin; refine Kd.R_append (Kd.int .u8) (w0 := w) w.heap.size rfl (.tmp 131) (.tmp 134) 22 5 (.int .u8 0) 1 rfl Try.underlying22 info5 rfl (by decide) (by omega) u15 x15_4 ((wrap64 (bt a2_1 (ji61))) % 256) [.int .u8 ((wrap64 (bt a2_1 (ji61))) % 256)] (fun _ => True) (fun _ => False) rfl rfl ?aP (fun _ hk => hk.elim) ?aF ?aO ?aB ?aS ?aL ?_; (case aP => exact rfl); (case aB => exact (zB1 GE389.out HB.out)); (case aF => exact (fun _ _ => trivial)); (case aO => exact (zR HO_15.out)); (case aS => exact (below_size (zB1 GE389.out HB.out))); (case aL => have := LMc65.out; omega); intro v414 w67 ho hb hg hat; rw [← Ny413.out] at ho; have n0_ := zM (Kd.R_over' (zR HO_12.out) (Kd.R_typed (zR HO_15.out)) (by decide) hg); have n1_ := zM (Kd.R_over' (zR HO_13.out) (Kd.R_typed (zR HO_15.out)) (by decide) hg); have n2_ := zM (blk_grown (g := gb389) (o := .cells #[.int .i64 a2_0, .string a2_1] 44 (0, 0)) (zP BK389.out) hg (Kd.R_ne HO_15.out BK389.out (by decide))); have n3_ := zM (hb); have n4_ := zM (ho); clear HO_12; clear HO_13; clear BK389; clear HB; clear HO_15; have HO_12 := n0_; have HO_13 := n1_; have BK389 := n2_; have HB := n3_; have HO415 := n4_; clear n0_ n1_ n2_ n3_ n4_; clear ho hb hg hat))
                      go_roundg k4
                      case measure => have := HJ4.out; have := HK2.out; have := HK3.out; have := HK4.out; omega
                      case rel => exact ⟨(y413), (wrap64 (x16_4 + 1)), zS, H', ⟨by have := HJ4.out; have := HK2.out; have := HK3.out; have := HK4.out; omega⟩, ⟨(zR HO_12.out)⟩, ⟨(zR HO_13.out)⟩, ⟨(zR HO415.out)⟩, ⟨(zP BK389.out)⟩, ⟨(zB1 GE389.out HB.out)⟩⟩
                     ·rw [if_neg c65] at H
                      exact absurd H (by simp)
                    ·rw [if_neg c63] at H
                     exact absurd H (by simp)
                   ·rw [if_neg c62] at H
                    exact absurd H (by simp)
                  ·rw [if_neg c60] at H
                   have c60b0 : decide (t412 < 0) = false := decide_eq_false c60
                   clear c60
                   by_cases c68 : x15_4.length < 140737488355328
                   ·rw [if_pos c68] at H
                    have LMc68 := zM c68
                    clear c68
                    obtain ⟨y416, hy416⟩ : ∃ y_ : List Int, y_ = (x15_4 ++ [(t412) % 256]) := ⟨_, rfl⟩
                    replace H : (spec_AddPiece.l2 k4 l0 t401 x13_3 x14_3 y416 (wrap64 (x16_4 + 1)) a2_0 a2_1) = some (r1, r2) := zH hy416 H
                    have Ny416 := zM hy416
                    clear hy416
                    have H' := zM H
                    clear H
                    have p411 : 0 ≤ (x14_3 : Int) := zD
                    have q411 : x14_3 < (t401.length : Int) := zD
                    obtain ⟨ad411, e411, hx411_0, hx411_1⟩ := at_T26 (Kd.R_reads' HO_12.out).2.2 x14_3 p411 q411
                    obtain rfl : ad410 = ad411 := (by injection e411)
                    replace p411 := eq_true p411
                    replace q411 := eq_true q411
                    go_wp2_with (first | ((with_reducible refine gate_callee (f := 42) rfl ?_); refine zG (some 120) Try.func42 #[.slice A0 l0.length c0, .int .i64 x16_4] ?_; (with_reducible refine (spec_l10Byte.calls k4 _ _ l0 x16_4 t412 _ ?side1 ?side2 A59.out).mono ?_); (case side1 => exact (zC (Kd.C_below HR0.out HB.out))); (case side2 => exact HC0.out); rintro e w' ⟨rfl, ⟨nd, rfl⟩⟩; refine ⟨_, rfl, ?_⟩) | ((with_reducible refine gate_builtin (b := .append) (xs := #[.tmp 131, .tmp 134]) rfl ?_); (try (refine gate_guard (by rfl) ?_; dsimp only)); at_builtin; refine Kd.R_append (Kd.int .u8) (w0 := w) w.heap.size rfl (.tmp 131) (.tmp 134) 22 5 (.int .u8 0) 1 rfl Try.underlying22 info5 rfl (by decide) (by omega) u15 x15_4 ((t412) % 256) [.int .u8 ((t412) % 256)] (fun _ => True) (fun _ => False) rfl rfl ?aP (fun _ hk => hk.elim) ?aF ?aO ?aB ?aS ?aL ?_; (case aP => exact rfl); (case aB => exact (zB1 GE389.out HB.out)); (case aF => exact (fun _ _ => trivial)); (case aO => exact (zR HO_15.out)); (case aS => exact (below_size (zB1 GE389.out HB.out))); (case aL => have := LMc68.out; omega); intro v417 w69 ho hb hg hat; rw [← Ny416.out] at ho; have n0_ := zM (Kd.R_over' (zR HO_12.out) (Kd.R_typed (zR HO_15.out)) (by decide) hg); have n1_ := zM (Kd.R_over' (zR HO_13.out) (Kd.R_typed (zR HO_15.out)) (by decide) hg); have n2_ := zM (blk_grown (g := gb389) (o := .cells #[.int .i64 a2_0, .string a2_1] 44 (0, 0)) (zP BK389.out) hg (Kd.R_ne HO_15.out BK389.out (by decide))); have n3_ := zM (hb); have n4_ := zM (ho); clear HO_12; clear HO_13; clear BK389; clear HB; clear HO_15; have HO_12 := n0_; have HO_13 := n1_; have BK389 := n2_; have HB := n3_; have HO418 := n4_; clear n0_ n1_ n2_ n3_ n4_; clear ho hb hg hat))
                    go_roundg k4
                    case measure => have := HJ4.out; have := HK2.out; have := HK3.out; have := HK4.out; omega
                    case rel => exact ⟨(y416), (wrap64 (x16_4 + 1)), zS, H', ⟨by have := HJ4.out; have := HK2.out; have := HK3.out; have := HK4.out; omega⟩, ⟨(zR HO_12.out)⟩, ⟨(zR HO_13.out)⟩, ⟨(zR HO418.out)⟩, ⟨(zP BK389.out)⟩, ⟨(zB1 GE389.out HB.out)⟩⟩
                   ·rw [if_neg c68] at H
                    exact absurd H (by simp)
                 ·rw [if_neg c58] at H
                  have c58b0 : decide (x16_4 < ((rd_T26 t401 x14_3).f1)) = false := decide_eq_false c58
                  clear c58
                  by_cases c70 : x13_3.length < 5864062014805
                  ·rw [if_pos c70] at H
                   have LMc70 := zM c70
                   clear c70
                   obtain ⟨y420, hy420⟩ : ∃ y_ : List (S44), y_ = (x13_3 ++ [(⟨(rd_T26 t401 x14_3).f0, strOfNums x15_4⟩ : S44)]) := ⟨_, rfl⟩
                   replace H : (spec_AddPiece.l1 k4 l0 t401 y420 (wrap64 (x14_3 + 1)) a2_0 a2_1) = some (r1, r2) := zH hy420 H
                   have Ny420 := zM hy420
                   clear hy420
                   have H' := zM H
                   clear H
                   have p411 : 0 ≤ (x14_3 : Int) := zD
                   have q411 : x14_3 < (t401.length : Int) := zD
                   obtain ⟨ad411, e411, hx411_0, hx411_1⟩ := at_T26 (Kd.R_reads' HO_12.out).2.2 x14_3 p411 q411
                   obtain rfl : ad410 = ad411 := (by injection e411)
                   replace p411 := eq_true p411
                   replace q411 := eq_true q411
                   try go_wp2
                   have n0_ := zM (Kd.R_drew HO_12.out)
                   have n1_ := zM (Kd.R_drew HO_13.out)
                   have n2_ := zM (Kd.R_drew HO_15.out)
                   have n3_ := zM (blk_drew BK389.out)
                   have n4_ := zM (below_drew1 HB.out)
                   clear HO_12
                   clear HO_13
                   clear HO_15
                   clear BK389
                   clear HB
                   have HO_12 := n0_
                   have HO_13 := n1_
                   have HO_15 := n2_
                   have BK389 := n3_
                   have HB := n4_
                   clear n0_ n1_ n2_ n3_ n4_
                   have p419 : 0 ≤ (x14_3 : Int) := zD
                   have q419 : x14_3 < (t401.length : Int) := zD
                   obtain ⟨ad419, e419, hx419_0, hx419_1⟩ := at_T26 (Kd.R_reads' HO_12.out).2.2 x14_3 p419 q419
                   obtain rfl : ad410 = ad419 := (by injection e419)
                   replace p419 := eq_true p419
                   replace q419 := eq_true q419
                   have hcv72 := own_string (P := Try.prog) Try.underlying22 Try.underlying5 Try.underlying9 (Kd.own_of_R HO_15.out)
                   refine start_ (n := 12) (S := fun w' => w'.cell? (ad410.add ((x14_3).toNat * 2)) = some (.int .i64 ((rd_T26 t401 x14_3).f0)) ∧ w'.cell? ⟨(ad410.add ((x14_3).toNat * 2)).block, (ad410.add ((x14_3).toNat * 2)).off + 1, none⟩ = some (.int .i64 ((rd_T26 t401 x14_3).f1)) ∧ (convert 22 9 (u15)).run Try.prog w' = .ok (.string (strOfNums x15_4)) w') (ds := [9, 10]) (ba 12 0).toArray (by kernel_rfl) rfl rfl ⟨hx419_0, hx419_1, hcv72⟩ (fun hHeld => ?_); refine with_tabW spec_AddPiece.tab26 spec_AddPiece.bits26 (fun HT_ HW_ => ?_)
                   generalize wr.drew = w71 at HO_12 HO_13 HO_15 BK389 HB hx419_0 hx419_1 hHeld ⊢
                   refine zq 0 (some 136) (ba 12 1).toArray HT_ ?_
                   refine zq 1 (some 137) (ba 12 3).toArray HT_ ?_
                   refine zq 2 (some 138) (ba 12 7).toArray HT_ ?_
                   refine zq 3 (some 139) (ba 12 15).toArray HT_ ?_
                   refine zq 4 (some 140) (ba 12 31).toArray HT_ ?_
                   refine zq 6 (some 142) (ba 12 95).toArray HT_ ?_
                   refine zt3 5 (some 141) (ba 12 127).toArray HT_ HW_ hHeld ?_
                   refine zt3 7 (some 143) (ba 12 255).toArray HT_ HW_ hHeld ?_
                   refine zq 8 (some 144) (ba 12 511).toArray HT_ ?_
                   refine last_ (i := 9) (N := some 145) (ba 12 1023).toArray rfl rfl (one_of HT_.out (by kernel_rfl)) (by decide) (fun K hK => ?_)
                   refine value_ (w1 := ?_) (v := ?_) (by rfl) rfl ?_ ?_
                   rotate_left 2
                   ·go_simp
                    constructor
                    ·rfl
                    ·rfl
                   refine hK.out _ _ ?_
                   clear hK K
                   refine norm_ (a' := ?_) ?_ ?_
                   rotate_left
                   ·show Act.put _ (some 145) _ = _
                    simp only [Act.put, List.setIfInBounds_toArray, List.set_cons_zero, List.set_cons_succ, i64_w, i32_w]
                    rfl
                   refine last_ (i := 10) (N := some 146) (ba 12 2047).toArray rfl rfl (one_of HT_.out (by kernel_rfl)) (by decide) (fun K hK => ?_)
                   refine Kd.R_append_step k44 (w0 := w) w.heap.size (by rfl) (.tmp 136) (.tmp 145) 40 44 (.agg #[(.int .i64 0), (.string ⟨#[]⟩)]) 24 rfl Try.underlying40 info44 rfl (by decide) (by omega) u13 x13_3 (⟨(rd_T26 t401 x14_3).f0, strOfNums x15_4⟩ : S44) [.int .i64 ((rd_T26 t401 x14_3).f0), .string (strOfNums x15_4)] (fun k_ => k_ ≠ gb389) (fun _ => False) rfl rfl ?aP (fun _ hk => hk.elim) ?aF ?aO ?aB ?aS ?aL ?_
                   (case aP => exact k44_mkM _ _ _ (⟨(rd_T26 t401 x14_3).f0, strOfNums x15_4⟩ : S44))
                   (case aB => exact (zB1 GE389.out HB.out))
                   (case aF => exact (fun k_ hk => Kd.freshB (g := gb389) (o := .cells #[.int .i64 a2_0, .string a2_1] 44 (0, 0)) (zP BK389.out) k_ hk))
                   (case aO => exact (zR HO_13.out))
                   (case aS => exact (below_size (zB1 GE389.out HB.out)))
                   (case aL => have := LMc70.out; omega)
                   intro v421 w73 ho hb hg hat
                   rw [← Ny420.out] at ho
                   have n0_ := zM (Kd.R_over' (zR HO_12.out) (Kd.R_typed (zR HO_13.out)) (by decide) hg)
                   have n1_ := zM (Kd.R_over' (zR HO_15.out) (Kd.R_typed (zR HO_13.out)) (by decide) hg)
                   have n2_ := zM (blk_grown (g := gb389) (o := .cells #[.int .i64 a2_0, .string a2_1] 44 (0, 0)) (zP BK389.out) hg (Kd.R_away HO_13.out (fun _ hk => hk)))
                   have n3_ := zM (hb)
                   have n4_ := zM (ho)
                   clear HO_12
                   clear HO_15
                   clear BK389
                   clear HB
                   clear HO_13
                   have HO_12 := n0_
                   have HO_15 := n1_
                   have BK389 := n2_
                   have HB := n3_
                   have HO422 := n4_
                   clear n0_ n1_ n2_ n3_ n4_
                   clear ho hb hg hat
                   refine hK.out _ _ ?_
                   clear hK K
                   refine norm_ (a' := ?_) ?_ ?_
                   rotate_left
                   ·show Act.put _ (some 146) _ = _
                    simp only [Act.put, List.setIfInBounds_toArray, List.set_cons_zero, List.set_cons_succ, i64_w, i32_w]
                    rfl
                   refine zq 11 (some 13) (ba 12 4095).toArray HT_ ?_
                   refine done_ (done_of HT_.out (by kernel_rfl)) ?_
                   try go_wp2
                   go_roundg k4
                   case measure => have := HJ4.out; have := HK2.out; have := HK3.out; have := HK4.out; omega
                   case rel => exact ⟨(y420), (wrap64 (x14_3 + 1)), zS, H', ⟨by have := HJ4.out; have := HK2.out; have := HK3.out; have := HK4.out; omega⟩, ⟨(zR HO_12.out)⟩, ⟨(zR HO422.out)⟩, ⟨(zP BK389.out)⟩, ⟨(zB1 GE389.out HB.out)⟩⟩
                  ·rw [if_neg c70] at H
                   exact absurd H (by simp)
                ·rw [if_neg c57] at H
                 exact absurd H (by simp)
               ·rw [if_neg c56] at H
                exact absurd H (by simp)
            ·rw [if_neg c53] at H
             exact absurd H (by simp)
           ·rw [if_neg c52] at H
            have c52b0 : decide (x14_3 < (t401.length : Int)) = false := decide_eq_false c52
            clear c52
            simp only [Option.some.injEq, Prod.mk.injEq] at H
            obtain ⟨rfl, rfl⟩ := H
            go_wp2
            go_ret2
            exact ⟨_, zE, (zRm HO_13.out (fun _ hk => trivial)), (zB1 GE389.out HB.out)⟩
 ·rw [if_neg c4] at H
  exact absurd H (by simp)

end Go.Proofs.Yteahdfibipalkaa.G
