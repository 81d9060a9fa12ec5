-- laid by wip/tools/xprint.py (the session's), which runs the kit's print.py with contracts of the session's own. Not trusted: Lean checks it.
import Derived.Test.YthbgoecgfoglnaaBPIsax0
import Derived.Test.YthbgoecgfoglnaaBPIsax3
import Derived.Test.YthbgoecgfoglnaaBPIsax5
import Derived.Test.YthbgoecgfoglnaaBPIsax7
import Derived.Test.YthbgoecgfoglnaaBOwnC
namespace Go.Proofs.Ythbgoecgfoglnaa.PIsa
open Go.RowKit Go.Proofs.Ythbgoecgfoglnaa.Own Go.Proofs.Ythbgoecgfoglnaa.PA Go.Proofs.YthbgoecgfoglnaaW.PrintWords Go.Proofs.YthbgoecgfoglnaaW.PrintLast Go.Proofs.YthbgoecgfoglnaaW.PrintMore
attribute [local go_sem] max2_int min2_int max_two min_two max_three min_three max_four min_four   -- for this text's walks alone
set_option linter.unusedVariables false
set_option linter.unusedSimpArgs false

end Go.Proofs.Ythbgoecgfoglnaa.PIsa
