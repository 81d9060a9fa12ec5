-- laid by wip/tools/xprint.py (the session's), which runs the kit's print.py with contracts of the session's own. Not trusted: Lean checks it.
import Derived.Test.YthbgoecgfoglnaaBPIsax0
namespace Go.Proofs.Ythbgoecgfoglnaa.PIsa
open Go.RowKit Go.Proofs.Ythbgoecgfoglnaa.Own Go.Proofs.Ythbgoecgfoglnaa.PA Go.Proofs.YthbgoecgfoglnaaW.PrintWords Go.Proofs.YthbgoecgfoglnaaW.PrintLast Go.Proofs.YthbgoecgfoglnaaW.PrintMore
attribute [local go_sem] max2_int min2_int max_two min_two max_three min_three max_four min_four   -- for this text's walks alone
set_option linter.unusedVariables false
set_option linter.unusedSimpArgs false

/-! ### tabardref17_One: function 11 -/
mutual
def tabardref17_One.j0 : Nat → List Int → Int → Bool → Option (Int × Int × Int × Int × Int × Int × Int)
  | 0, _, _, _ => none
  | k + 1, x0, x1, x18 => if x18 = true then (some (0, 0, 0, 0, 0, 0, 170)) else (if 0 ≤ (wrap64 (x1 * 14)) then (if (wrap64 (x1 * 14)) ≤ (wrap64 ((wrap64 (x1 + 1)) * 14)) then (if (wrap64 ((wrap64 (x1 + 1)) * 14)) ≤ (x0.length : Int) then (if 0 < (((x0.take ((wrap64 ((wrap64 (x1 + 1)) * 14)) : Int).toNat).drop ((wrap64 (x1 * 14)) : Int).toNat).length : Int) then (if 1 < (((x0.take ((wrap64 ((wrap64 (x1 + 1)) * 14)) : Int).toNat).drop ((wrap64 (x1 * 14)) : Int).toNat).length : Int) then (if 2 < (((x0.take ((wrap64 ((wrap64 (x1 + 1)) * 14)) : Int).toNat).drop ((wrap64 (x1 * 14)) : Int).toNat).length : Int) then (if 3 < (((x0.take ((wrap64 ((wrap64 (x1 + 1)) * 14)) : Int).toNat).drop ((wrap64 (x1 * 14)) : Int).toNat).length : Int) then (if 4 < (((x0.take ((wrap64 ((wrap64 (x1 + 1)) * 14)) : Int).toNat).drop ((wrap64 (x1 * 14)) : Int).toNat).length : Int) then (if 5 < (((x0.take ((wrap64 ((wrap64 (x1 + 1)) * 14)) : Int).toNat).drop ((wrap64 (x1 * 14)) : Int).toNat).length : Int) then (tabardref17_One.l0 k ((x0.take ((wrap64 ((wrap64 (x1 + 1)) * 14)) : Int).toNat).drop ((wrap64 (x1 * 14)) : Int).toNat) 6 (wrap64 (rd ((x0.take ((wrap64 ((wrap64 (x1 + 1)) * 14)) : Int).toNat).drop ((wrap64 (x1 * 14)) : Int).toNat) 0)) (wrap64 (rd ((x0.take ((wrap64 ((wrap64 (x1 + 1)) * 14)) : Int).toNat).drop ((wrap64 (x1 * 14)) : Int).toNat) 1)) (wrap64 (rd ((x0.take ((wrap64 ((wrap64 (x1 + 1)) * 14)) : Int).toNat).drop ((wrap64 (x1 * 14)) : Int).toNat) 2)) (wrap64 (rd ((x0.take ((wrap64 ((wrap64 (x1 + 1)) * 14)) : Int).toNat).drop ((wrap64 (x1 * 14)) : Int).toNat) 3)) (wrap64 ((wrap64 (256 * (wrap64 (rd ((x0.take ((wrap64 ((wrap64 (x1 + 1)) * 14)) : Int).toNat).drop ((wrap64 (x1 * 14)) : Int).toNat) 4)))) + (wrap64 (rd ((x0.take ((wrap64 ((wrap64 (x1 + 1)) * 14)) : Int).toNat).drop ((wrap64 (x1 * 14)) : Int).toNat) 5)))) 0) else (none)) else (none)) else (none)) else (none)) else (none)) else (none)) else (none)) else (none)) else (none))
def tabardref17_One.l0 : Nat → List Int → Int → Int → Int → Int → Int → Int → Int → Option (Int × Int × Int × Int × Int × Int × Int)
  | 0, _, _, _, _, _, _, _, _ => none
  | k + 1, x6, x8, x134000, x134001, x134002, x134003, x134004, x134005 => if x8 < 14 then (if 0 ≤ x8 then (if x8 < (x6.length : Int) then (tabardref17_One.l0 k x6 (wrap64 (x8 + 1)) x134000 x134001 x134002 x134003 x134004 (Go.bits .or .i64 (wrap64 (x134005 * 256)) (wrap64 (rd x6 x8)))) else (none)) else (none)) else ((tabardref17_Check.f x134000 x134001 x134002 x134003 x134004 x134005).bind fun t135 => (if t135 = 0 then (some (x134000, x134001, x134002, x134003, x134004, x134005, 0)) else (some (0, 0, 0, 0, 0, 0, t135))))
end
end Go.Proofs.Ythbgoecgfoglnaa.PIsa
