-- laid by wip/tools/xprint.py (the session's), which runs the kit's print.py with contracts of the session's own. Not trusted: Lean checks it.
import Derived.Test.YthbgoecgfoglnaaBPIsax0
import Derived.Test.YthbgoecgfoglnaaBPIsax2
namespace Go.Proofs.Ythbgoecgfoglnaa.PIsa
open Go.RowKit Go.Proofs.Ythbgoecgfoglnaa.Own Go.Proofs.Ythbgoecgfoglnaa.PA Go.Proofs.YthbgoecgfoglnaaW.PrintWords Go.Proofs.YthbgoecgfoglnaaW.PrintLast Go.Proofs.YthbgoecgfoglnaaW.PrintMore
attribute [local go_sem] max2_int min2_int max_two min_two max_three min_three max_four min_four   -- for this text's walks alone
set_option linter.unusedVariables false
set_option linter.unusedSimpArgs false

/-! ### isa_Decode: function 8 -/
def isa_Decode.l0 : Nat → List Int → List (S28) → Int → Int → Option ((List (S28)) × Int)
  | 0, _, _, _, _ => none
  | k + 1, x0, x4, x14, x15 => if x15 < x14 then ((isa_One.f k x0 x15).bind fun bt114 => (if bt114.2.2.2.2.2.2 = 0 then (if x4.length < 2932031007402 then (isa_Decode.l0 k x0 (x4 ++ [(⟨bt114.1, bt114.2.1, bt114.2.2.1, bt114.2.2.2.1, bt114.2.2.2.2.1, bt114.2.2.2.2.2.1⟩ : S28)]) x14 (wrap64 (x15 + 1))) else (none)) else (some (([] : List (S28)), bt114.2.2.2.2.2.2)))) else (some (x4, 0))
def isa_Decode.f (k : Nat) (l0 : List Int) : Option ((List (S28)) × Int) := if ((l0.length : Int) % 14) = 0 then (isa_Decode.l0 k l0 ([] : List (S28)) (wrap64 ((l0.length : Int) / 14)) 0) else (some (([] : List (S28)), 170))
end Go.Proofs.Ythbgoecgfoglnaa.PIsa
