/- The law IsaAsks, its call. No condition beyond the hypotheses. -/
import Derived.Test.YthbgoecgfoglnaaAOwnA
set_option linter.unusedVariables false
namespace Go.Proofs.Ythbgoecgfoglnaa.Own
open Go.RowKit
theorem IsaAsks_law (x0 x1 x2 x3 x4 x5 op : Int) (w : World) (h0 : (Lit.int .i64 x0).wf = true) (h1 : (Lit.int .i64 x1).wf = true) (h2 : (Lit.int .i64 x2).wf = true) (h3 : (Lit.int .i64 x3).wf = true) (h4 : (Lit.int .i64 x4).wf = true) (h5 : (Lit.int .i64 x5).wf = true) (h6 : (Lit.int .i64 op).wf = true) :
    Calls Try.prog 4 #[.agg #[.int .i64 x0, .int .i64 x1, .int .i64 x2, .int .i64 x3, .int .i64 x4, .int .i64 x5], .int .i64 op] w fun e w' => e = .returned (.bool true) ∧ Below w.heap.size w w' :=
  asks_walk x0 x1 x2 x3 x4 x5 op w
end Go.Proofs.Ythbgoecgfoglnaa.Own
