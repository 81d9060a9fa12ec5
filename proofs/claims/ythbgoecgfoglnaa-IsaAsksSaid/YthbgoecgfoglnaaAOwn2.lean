/- Plain lemmas on Go.bits. No condition beyond their hypotheses. -/
import Derived.Laws.BitsLemmas
import Derived.RowKit
import Derived.Test.YthbgoecgfoglnaaWMore
namespace Go.Proofs.Ythbgoecgfoglnaa.Own
open Go.RowKit Go.Proofs.YthbgoecgfoglnaaW.PrintWords Go.Proofs.YthbgoecgfoglnaaW.PrintLast Go.Proofs.YthbgoecgfoglnaaW.PrintMore

end Go.Proofs.Ythbgoecgfoglnaa.Own
