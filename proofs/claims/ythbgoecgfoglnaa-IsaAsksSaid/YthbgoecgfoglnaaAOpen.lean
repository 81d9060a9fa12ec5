/- Opening of arguments: a slice of structs of one-cell fields, cell by cell. No condition beyond the hypotheses. -/
import Derived.Deep.Slices
import Derived.Deep.Fields
import Derived.ChangeSame
import Derived.Test.YthbgoecgfoglnaaWWords
namespace Go.Proofs.Ythbgoecgfoglnaa.Opn
open Go.ChangeShapes Go.WideShapes Go.Deep Go.RowKit
section
variable {H : Type} {enc : TypeId × Value → H} {P : Program} {w : World} {base : Nat} {spare : Nat → Bool} {held : Bool}
end
end Go.Proofs.Ythbgoecgfoglnaa.Opn
