/- slices.Clone at a slice of instructions. Condition: below the limit of append. -/
import Derived.Test.YthbgoecgfoglnaaBPIsax0
import Derived.Lib.SliceRun
namespace Go.Proofs.Ythbgoecgfoglnaa.Own
open Go.RowKit Go.Proofs.Ythbgoecgfoglnaa.PIsa Go.Proofs.YthbgoecgfoglnaaW.PrintWords Go.Proofs.YthbgoecgfoglnaaW.PrintLast Go.Proofs.YthbgoecgfoglnaaW.PrintMore
end Go.Proofs.Ythbgoecgfoglnaa.Own
