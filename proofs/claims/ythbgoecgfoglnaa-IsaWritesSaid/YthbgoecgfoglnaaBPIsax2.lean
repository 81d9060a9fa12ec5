-- laid by wip/tools/xprint.py (the session's), which runs the kit's print.py with contracts of the session's own. Not trusted: Lean checks it.
import Derived.Test.YthbgoecgfoglnaaBPIsax0
namespace Go.Proofs.Ythbgoecgfoglnaa.PIsa
open Go.RowKit Go.Proofs.Ythbgoecgfoglnaa.Own Go.Proofs.Ythbgoecgfoglnaa.PA Go.Proofs.YthbgoecgfoglnaaW.PrintWords Go.Proofs.YthbgoecgfoglnaaW.PrintLast Go.Proofs.YthbgoecgfoglnaaW.PrintMore
attribute [local go_sem] max2_int min2_int max_two min_two max_three min_three max_four min_four   -- for this text's walks alone
set_option linter.unusedVariables false
set_option linter.unusedSimpArgs false

-- GIVEN: function 45 (tabard/isa.table)

-- GIVEN: function 35 (tabard/isa.of)

-- GIVEN: function 38 (tabard/isa.field)

-- GIVEN: function 39 (tabard/isa.number)

-- GIVEN: function 16 (tabard/isa.Check)

/-! ### isa_One: function 10 -/
mutual
def isa_One.j0 : Nat → List Int → Int → Bool → Option (Int × Int × Int × Int × Int × Int × Int)
  | 0, _, _, _ => none
  | k + 1, x0, x1, x20 => if x20 = true then (some (0, 0, 0, 0, 0, 0, 170)) else (if 0 ≤ (wrap64 (x1 * 14)) then (if (wrap64 (x1 * 14)) ≤ (x0.length : Int) then (if 14 ≤ ((x0.drop ((wrap64 (x1 * 14)) : Int).toNat).length : Int) then (if 0 < (((x0.drop ((wrap64 (x1 * 14)) : Int).toNat).take 14).length : Int) then (if 1 < (((x0.drop ((wrap64 (x1 * 14)) : Int).toNat).take 14).length : Int) then (if 2 < (((x0.drop ((wrap64 (x1 * 14)) : Int).toNat).take 14).length : Int) then (if 3 < (((x0.drop ((wrap64 (x1 * 14)) : Int).toNat).take 14).length : Int) then (if 4 < (((x0.drop ((wrap64 (x1 * 14)) : Int).toNat).take 14).length : Int) then (if 5 < (((x0.drop ((wrap64 (x1 * 14)) : Int).toNat).take 14).length : Int) then (if 6 ≤ (((x0.drop ((wrap64 (x1 * 14)) : Int).toNat).take 14).length : Int) then (isa_One.l0 k 0 (((x0.drop ((wrap64 (x1 * 14)) : Int).toNat).take 14).drop 6) ((((x0.drop ((wrap64 (x1 * 14)) : Int).toNat).take 14).drop 6).length : Int) 0 (wrap64 (rd ((x0.drop ((wrap64 (x1 * 14)) : Int).toNat).take 14) 0)) (wrap64 (rd ((x0.drop ((wrap64 (x1 * 14)) : Int).toNat).take 14) 1)) (wrap64 (rd ((x0.drop ((wrap64 (x1 * 14)) : Int).toNat).take 14) 2)) (wrap64 (rd ((x0.drop ((wrap64 (x1 * 14)) : Int).toNat).take 14) 3)) (Go.bits .or .i64 (wrap64 ((wrap64 (rd ((x0.drop ((wrap64 (x1 * 14)) : Int).toNat).take 14) 4)) * 256)) (wrap64 (rd ((x0.drop ((wrap64 (x1 * 14)) : Int).toNat).take 14) 5))) 0) else (none)) else (none)) else (none)) else (none)) else (none)) else (none)) else (none)) else (none)) else (none)) else (none))
def isa_One.l0 : Nat → Int → List Int → Int → Int → Int → Int → Int → Int → Int → Int → Option (Int × Int × Int × Int × Int × Int × Int)
  | 0, _, _, _, _, _, _, _, _, _, _ => none
  | k + 1, x8, x55, x56, x57, x111000, x111001, x111002, x111003, x111004, x111005 => if x57 < x56 then (if 0 ≤ x57 then (if x57 < (x55.length : Int) then (isa_One.l0 k (Go.bits .or .u64 (IntKind.u64.wrap (x8 * 256)) (IntKind.u64.wrap (rd x55 x57))) x55 x56 (wrap64 (x57 + 1)) x111000 x111001 x111002 x111003 x111004 x111005) else (none)) else (none)) else ((isa_Check.f x111000 x111001 x111002 x111003 x111004 (wrap64 (x8))).bind fun t113 => (if t113 = 0 then (some (x111000, x111001, x111002, x111003, x111004, wrap64 (x8), 0)) else (some (0, 0, 0, 0, 0, 0, t113))))
end
def isa_One.f (k : Nat) (l0 : List Int) (a1 : Int) : Option (Int × Int × Int × Int × Int × Int × Int) := if a1 < 0 then (isa_One.j0 k l0 a1 true) else (isa_One.j0 k l0 a1 (decide (a1 ≥ (wrap64 ((l0.length : Int) / 14)))))
end Go.Proofs.Ythbgoecgfoglnaa.PIsa
