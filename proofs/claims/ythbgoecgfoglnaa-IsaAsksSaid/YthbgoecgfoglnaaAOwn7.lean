/- Encode as a plain function; what is encoded is decoded, and back. Conditions: sizes below the limit of append. -/
import Derived.Test.YthbgoecgfoglnaaAOwn6
import Derived.Test.YthbgoecgfoglnaaAPIsax7
namespace Go.Proofs.Ythbgoecgfoglnaa.Own
open Go.RowKit Go.Proofs.Ythbgoecgfoglnaa.PIsa Go.Proofs.Ythbgoecgfoglnaa.PA Go.Proofs.YthbgoecgfoglnaaW.PrintWords Go.Proofs.YthbgoecgfoglnaaW.PrintLast Go.Proofs.YthbgoecgfoglnaaW.PrintMore

def chkS (x : S28) : Int := chkI x.f0 x.f1 x.f2 x.f3 x.f4 x.f5
theorem chk_bounds (x : S28) (h : chkS x = 0) : 0 ≤ x.f0 ∧ x.f0 ≤ 37 ∧ 0 ≤ x.f1 ∧ x.f1 ≤ 15 ∧ 0 ≤ x.f2 ∧ x.f2 ≤ 15 ∧ 0 ≤ x.f3 ∧ x.f3 ≤ 15 ∧ 0 ≤ x.f4 ∧ x.f4 ≤ 65535 := by
  have hb : okB (hasV x.f0) x.f1 x.f2 x.f3 x.f4 x.f5 = true := by
    unfold chkS chkI checkV badB at h
    cases hq : okB (hasV x.f0) x.f1 x.f2 x.f3 x.f4 x.f5
    · rw [hq] at h; simp at h
    · rfl
  unfold hasV at hb
  by_cases hr : 0 ≤ x.f0 ∧ x.f0 ≤ 37
  · rw [if_pos hr] at hb
    simp only [okB, Bool.and_eq_true, fieldB, Bool.or_eq_true, beq_iff_eq, decide_eq_true_eq] at hb
    omega
  · rw [if_neg hr] at hb
    simp [okB] at hb
end Go.Proofs.Ythbgoecgfoglnaa.Own
