/- isa.One and tabardref17.One are one function of the bytes. Condition: each number is a byte, and there are at most 2^47 of them. -/
import Derived.Test.YthbgoecgfoglnaaAPIsax4
import Derived.Test.YthbgoecgfoglnaaAPIsax2
namespace Go.Proofs.Ythbgoecgfoglnaa.Own
open Go.RowKit Go.Proofs.Ythbgoecgfoglnaa.PIsa Go.Proofs.Ythbgoecgfoglnaa.PA Go.Proofs.YthbgoecgfoglnaaW.PrintWords Go.Proofs.YthbgoecgfoglnaaW.PrintLast

end Go.Proofs.Ythbgoecgfoglnaa.Own
