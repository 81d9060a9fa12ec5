/- The law IsaBack, plain. Conditions: at most 2 000 000 000 instructions and bytes, numbers that fit. -/
import Derived.Test.YthbgoecgfoglnaaBOwn7
namespace Go.Proofs.Ythbgoecgfoglnaa.Own
open Go.RowKit Go.Proofs.Ythbgoecgfoglnaa.PIsa Go.Proofs.Ythbgoecgfoglnaa.PA Go.Proofs.YthbgoecgfoglnaaW.PrintWords Go.Proofs.YthbgoecgfoglnaaW.PrintLast Go.Proofs.YthbgoecgfoglnaaW.PrintMore

end Go.Proofs.Ythbgoecgfoglnaa.Own
namespace Go.Proofs.Ythbgoecgfoglnaa.Own
open Go.RowKit Go.Proofs.Ythbgoecgfoglnaa.PIsa Go.Proofs.Ythbgoecgfoglnaa.PA Go.Proofs.YthbgoecgfoglnaaW.PrintWords Go.Proofs.YthbgoecgfoglnaaW.PrintLast
def wfS (x : S28) : Prop := (Lit.int .i64 x.f0).wf = true ∧ (Lit.int .i64 x.f1).wf = true ∧ (Lit.int .i64 x.f2).wf = true ∧ (Lit.int .i64 x.f3).wf = true ∧ (Lit.int .i64 x.f4).wf = true ∧ (Lit.int .i64 x.f5).wf = true
end Go.Proofs.Ythbgoecgfoglnaa.Own
