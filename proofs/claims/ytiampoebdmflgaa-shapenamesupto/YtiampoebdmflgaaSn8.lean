/- Texts put one behind the other: Zend, Zrow, Zctor, Zof. -/
import Derived.Test.YtiampoebdmflgaaSn4
import Derived.Test.YtiampoebdmflgaaSn5
import Derived.Test.YtiampoebdmflgaaSn6
import Derived.Test.YtiampoebdmflgaaSn7
/- The reference's end. -/
namespace Go.Proofs.Ytiampoebdmflgaa
open Go.RowKit
set_option linter.unusedVariables false
set_option maxRecDepth 100000
set_option maxHeartbeats 4000000
set_option linter.unusedSimpArgs false
def rbad (p : Nat) (depth : Int) : Nat → List Tm → Bool
 | _, [] => false
 | i, a :: l => (decide (i < p) && (decide (a.k ≠ 1) || decide (a.n ≠ depth - 1 - i))) || rbad p depth (i + 1) l
def rend (nm : ByteArray) (m p idx : Nat) (t : Tm) (depth : Int) : Int :=
 if (rSame (rspine t).1 (rself nm m) && decide ((rspine t).2.length = p + idx)) = false then 1
 else if rbad p depth 0 (rspine t).2 = true then 1
 else if (((rspine t).2.drop p).any fun t => rment t nm) = true then 2 else 0
end Go.Proofs.Ytiampoebdmflgaa
/- The reference's Row. -/
namespace Go.Proofs.Ytiampoebdmflgaa
open Go.RowKit
set_option linter.unusedVariables false
set_option maxRecDepth 100000
set_option maxHeartbeats 4000000
set_option linter.unusedSimpArgs false
end Go.Proofs.Ytiampoebdmflgaa
/- The reference's ctor. -/
namespace Go.Proofs.Ytiampoebdmflgaa
open Go.RowKit
set_option linter.unusedVariables false
set_option maxRecDepth 100000
set_option maxHeartbeats 4000000
set_option linter.unusedSimpArgs false
def allRS : List Tm → List Tm → Bool
 | a :: l, b :: r => rSame a b && allRS l r
 | _, _ => true
def rctorF (nm : ByteArray) (m p idx : Nat) (F : Int) : Nat → List (Int × Int) → List Tm → CShape × Int
 | _, sl, [] => ((F, sl), 0)
 | i, sl, a :: l =>
  if rment a nm = true then
   (if ((trow a).1.any fun t => rment t nm) = true then ((0, []), 15)
    else if rend nm m p idx (trow a).2 ((p : Int) + i + (trow a).1.length) ≠ 0 then ((0, []), 15)
    else rctorF nm m p idx F (i + 1) (sl ++ [((i : Int), ((trow a).1.length : Int))]) l)
  else rctorF nm m p idx F (i + 1) sl l
def rctor (nm : ByteArray) (m p idx : Nat) (doms : List Tm) (t : Tm) : CShape × Int :=
 if (trow t).1.length < p then ((0, []), 14)
 else if allRS ((trow t).1.take p) doms = false then ((0, []), 14)
 else if rend nm m p idx (trow t).2 (trow t).1.length = 1 then ((0, []), 14)
 else if rend nm m p idx (trow t).2 (trow t).1.length = 2 then ((0, []), 15)
 else rctorF nm m p idx ((trow t).1.length - p) 0 [] ((trow t).1.drop p)
end Go.Proofs.Ytiampoebdmflgaa
/- The reference's Of. -/
namespace Go.Proofs.Ytiampoebdmflgaa
open Go.RowKit
set_option linter.unusedVariables false
set_option maxRecDepth 100000
set_option maxHeartbeats 4000000
set_option linter.unusedSimpArgs false
def rof (dk : Int) (nm : ByteArray) (vs pa : Int) (ty : Tm) (cts : List (ByteArray × Tm)) : TShape × Int :=
 if dk ≠ 3 ∨ pa < 0 ∨ vs < 0 ∨ 6 < vs then (zshape, 1)
 else if (trow ty).2.k ≠ 2 ∨ (((trow ty).1.length : Nat) : Int) < pa then (zshape, 14)
 else if (ofF (rctor nm vs.toNat pa.toNat ((trow ty).1.length - pa.toNat) (trow ty).1) cts []).2 = 0 then
  ((((trow ty).1.length : Int) - pa, (trow ty).2.lv, (ofF (rctor nm vs.toNat pa.toNat ((trow ty).1.length - pa.toNat) (trow ty).1) cts []).1), 0)
 else (zshape, (ofF (rctor nm vs.toNat pa.toNat ((trow ty).1.length - pa.toNat) (trow ty).1) cts []).2)
end Go.Proofs.Ytiampoebdmflgaa
