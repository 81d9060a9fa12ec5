/- The law IsaReads, plain: what the printed functions answer. Condition: bytes, at most 4 times 10^13 of them. -/
import Derived.Test.YthbgoecgfoglnaaBOwn5
import Derived.Test.YthbgoecgfoglnaaBPIsax5
namespace Go.Proofs.Ythbgoecgfoglnaa.Own
open Go.RowKit Go.Proofs.Ythbgoecgfoglnaa.PIsa Go.Proofs.Ythbgoecgfoglnaa.PA Go.Proofs.YthbgoecgfoglnaaW.PrintWords Go.Proofs.YthbgoecgfoglnaaW.PrintLast

theorem live40 : tabardlaw17_live.f 40 = some true := by
  unfold tabardlaw17_live.f
  have e : isa_Encode.f 40 [(⟨1, 3, 0, 0, 0, (-1)⟩ : S28)] = some ([1, 3, 0, 0, 0, 0, 255, 255, 255, 255, 255, 255, 255, 255], 0) := by decide +kernel
  rw [e]
  have e2 : isa_Check.f 2 0 16 0 0 0 = some 170 := by decide +kernel
  have e3 : isa_Name.f 37 = some ⟨#[101, 120, 105, 116]⟩ := by rfl
  simp only [Option.bind_some]
  rw [if_pos trivial, if_pos (by decide), if_pos (by decide), if_pos (by decide), if_pos (by decide), if_pos (by decide), if_pos (by decide), if_pos (by decide), e2]
  simp only [Option.bind_some]
  rw [if_pos trivial, e3]
  simp only [Option.bind_some]
  rw [show (⟨#[101, 120, 105, 116]⟩ : ByteArray).toList = [101, 120, 105, 116] from by decide +kernel]
  rfl
end Go.Proofs.Ythbgoecgfoglnaa.Own
namespace Go.Proofs.Ythbgoecgfoglnaa.Own
open Go.RowKit Go.Proofs.Ythbgoecgfoglnaa.PIsa Go.Proofs.Ythbgoecgfoglnaa.PA Go.Proofs.YthbgoecgfoglnaaW.PrintWords Go.Proofs.YthbgoecgfoglnaaW.PrintLast
end Go.Proofs.Ythbgoecgfoglnaa.Own
