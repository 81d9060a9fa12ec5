-- laid by wip/tools/xprint.py (the session's), which runs the kit's print.py with contracts of the session's own. Not trusted: Lean checks it.
import Derived.Test.YthbgoecgfoglnaaProg
import Derived.Below
import Derived.Deep.Draws
import Derived.Deep.AppendLies
import Derived.Maps.AppendAt
import Derived.OwnWalk
import Derived.Laws.BytesArg
import Derived.Laws.MakeOwn
import Derived.Laws.OwnMore
import Derived.Deep.OwnRows
import Derived.Tactics
import Derived.Lib.ConvBytes
import Derived.Laws.Slices
import Derived.WalkKit
import Derived.KernelRfl
import Derived.RowKit3
import Derived.Deep.LoopGhost
import Derived.Deep.QuietTactic
import Derived.BigQuiet
import Derived.WideLaws
import Derived.Deep.DeepCutAuto
import Derived.Deep.CutBlock
import Derived.Deep.RegionHeld3
import Derived.Laws.Rows
import Derived.Lib.AppendStr
import Derived.ArgAppend
import Derived.Laws.IdiomCopy
import Derived.OrdersHeld
import Derived.Laws.BitsLemmas
import Derived.RowKit
import Derived.Test.YthbgoecgfoglnaaWWords
import Derived.Test.YthbgoecgfoglnaaWLast
import Derived.Test.YthbgoecgfoglnaaWTab
import Derived.Test.YthbgoecgfoglnaaWFour
import Derived.Test.YthbgoecgfoglnaaWQPut
import Derived.Test.YthbgoecgfoglnaaWApart
import Derived.Test.YthbgoecgfoglnaaWArr
import Derived.Test.YthbgoecgfoglnaaWZeros
import Derived.Test.YthbgoecgfoglnaaWFoot
import Derived.Test.YthbgoecgfoglnaaWKept
import Derived.Test.YthbgoecgfoglnaaWShare
import Derived.Test.YthbgoecgfoglnaaWN
import Derived.Test.YthbgoecgfoglnaaWFootNe
import Derived.Test.YthbgoecgfoglnaaWAt
import Derived.Test.YthbgoecgfoglnaaWEqStruct
import Derived.Test.YthbgoecgfoglnaaWRepsOne
import Derived.Test.YthbgoecgfoglnaaWInv
import Derived.Test.YthbgoecgfoglnaaWInvWords
import Derived.Test.YthbgoecgfoglnaaWGuard
import Derived.Test.YthbgoecgfoglnaaWNEv
import Derived.Test.YthbgoecgfoglnaaWMore
namespace Go.Proofs.Ythbgoecgfoglnaa.PA
open Go.RowKit Go.Proofs.YthbgoecgfoglnaaW.PrintWords Go.Proofs.YthbgoecgfoglnaaW.PrintLast Go.Proofs.YthbgoecgfoglnaaW.PrintMore
attribute [local go_sem] max2_int min2_int max_two min_two max_three min_three max_four min_four   -- for this text's walks alone
set_option linter.unusedVariables false
set_option linter.unusedSimpArgs false



def errW : Option Int → Value
  | none => .nilIface
  | some c => .iface 0 (.int .i64 c)
theorem errW_none : errW none = .nilIface := rfl
theorem errW_some (c : Int) : errW (some c) = .iface 0 (.int .i64 c) := rfl

end Go.Proofs.Ythbgoecgfoglnaa.PA
