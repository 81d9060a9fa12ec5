/- The row of the law DomNone: for every input the call returns true and its arguments read as before. Condition: none. -/
import Derived.Test.YtkcdnpbcbmcgkaaRows
import Derived.Test.YtkcdnpbcbmcgkaaG18
import Derived.WalkKit
import Derived.ProofKit
import Derived.OpenShut
import Derived.ShutString
import Derived.ChangeOld
import Derived.Below
import Derived.SizedLaws
import Derived.JoinedCond
import Derived.Deep.CondSized
import Derived.ChangeSlices
namespace Go.Proofs.Ytkcdnpbcbmcgkaa.domNone
open Go.ChangeShapes Go.WideShapes Go.ChangeAt Go.RowKit Go.Sx
set_option linter.unusedVariables false
theorem own : ownKnob Try.prog.godebug = none := by kernel_rfl
theorem laidOut : laidOutB Try.prog = true := by kernel_rfl
set_option maxRecDepth 100000 in
theorem okWide_i64 {W : World} {base : Nat} {v : Value} (h : Value.okWide Try.prog W .any base 3 v) : ∃ n, v = .int .i64 n := by
  unfold Value.okWide Cell.okWide Cell.ok at h
  simp only [Try.underlying3] at h
  cases v <;> simp at h
  rename_i k n
  exact ⟨n, by rw [h.1]⟩
set_option maxRecDepth 100000 in
theorem okWide_u8 {W : World} {base : Nat} {v : Value} (h : Value.okWide Try.prog W .any base 5 v) : ∃ n, v = .int .u8 n ∧ 0 ≤ n ∧ n < 256 := by
  unfold Value.okWide Cell.okWide Cell.ok at h
  simp only [Try.underlying5] at h
  cases v <;> simp at h
  rename_i k n
  obtain ⟨rfl, h⟩ := h
  refine ⟨n, rfl, ?_, ?_⟩
  · have := h.1; simpa [IntKind.min, IntKind.signed, IntKind.bits] using this
  · have := h.2; simp [IntKind.max, IntKind.signed, IntKind.bits] at this; omega
set_option maxRecDepth 100000 in
theorem contract (H : Type) (enc : TypeId × Value → H) (W : World) (base : Nat) (args : Array Value) (ds gs : List (DataW H)) (before : List MemPlace)
    (hval : ∀ (j : Nat) t v, Try.f7.params[j]? = some t → args[j]? = some v → Value.okWide Try.prog W .any base t v)
    (hW : DataW.Whole enc Try.prog Try.f7.params.toList Rows.domNoneSpec.vars false W args.toList ds gs before) :
    Calls Try.prog 7 args W fun e W' => ∃ v, e = .returned v ∧ Rows.domNoneSpec.post enc Try.prog Try.f7 false true false false W args v W' := by
  have hW' := hW
  obtain ⟨p, q, hA, hV, rfl, hfz, hnd⟩ := hW
  have hA2 := hA
  rw [show Try.f7.params = #[41, 3] from Try.params7] at hA hval
  have hA1 := hA
  obtain ⟨v0, vs0, d0, ds0, p0, q0, hargs, rfl, rfl, h0, r0⟩ := trodAll_cons hA
  obtain ⟨v1, vs1, d1, ds1, p1, q1, rfl, rfl, rfl, h1, r1⟩ := trodAll_cons r0
  obtain ⟨rfl, rfl, rfl⟩ := trodAll_nil r1
  obtain rfl : args = #[v0, v1] := by cases args; simp_all
  obtain ⟨rfl, rfl⟩ := trodVars_none hV
  obtain ⟨A0, len0, cap0, rfl⟩ := okWide_slice Try.underlying41 (hval 0 41 v0 rfl rfl)
  obtain ⟨fuel0, k0⟩ := h0
  have z0 : W.noneFrozen p0 := fun b off hb => hfz b off (by simp [hb])
  obtain ⟨g, E, H0, hs, y, e1, e2, e3, e4, e5, e6, e7⟩ := Go.Sy.open_mat (k := .u8) Try.underlying41 Try.underlying69 Try.underlying5 (by kernel_rfl) (by kernel_rfl) k0 z0
  obtain ⟨fuel1, k1⟩ := h1
  obtain ⟨n1, rfl⟩ := okWide_i64 (hval 1 3 v1 rfl rfl)
  have hc : cvs E noArgs [y, .int .i64 n1] = some [.slice A0 len0 cap0, .int .i64 n1] := cvs_cons.2 ⟨_, _, e2, cvs_cons.2 ⟨_, _, by simp [cv], cvs_nil, rfl⟩, rfl⟩
  have hret := Go.Dm.dnone_ret (w0 := W) (S := fun m => m < H0.nx) ⟨e3, e4.1, e4.2, e5, fun j x l hj hl => e6 j x l hj hl, fun l hl n hn => Go.Dm.u8_of (e7 l hl n hn)⟩ (fun m hm => hm) n1
  refine (Go.Sy.calls_ret Go.Dm.fine e1 hc (by rfl) hret).mono fun e W' h => ?_
  obtain ⟨v, c, E', H', ⟨hv, _⟩, hcv, he, bel⟩ := h
  subst hv
  simp only [cv, Option.some.injEq] at hcv
  subst hcv
  subst he
  exact ⟨_, rfl, _, _, _, [], _, [], hW', trodAll_mk1 (shut_bool Try.underlying4 _), below_trodAll laidOut bel (by kernel_rfl) hA2, rfl, bel.frame _, fun h => by cases h⟩
set_option maxRecDepth 100000 in
theorem lifted (os : Os) (started : os.Started) (H : Type) (enc : TypeId × Value → H) :
    ReturnsInHanded {} Try.checked os 7 .any (Rows.domNoneSpec.pre6 enc Try.prog Try.f7 Rows.domNoneRow.domain false) (Rows.domNoneSpec.post enc Try.prog Try.f7 false true false false) := by
  refine returnsInHanded_of_change_sized (C := Try.checked) own started (by kernel_rfl) Try.func7
    (ChangeSpec.witness6 (enc := enc) (C := Try.checked) false ⟨#[], #[.slice none 0 0, .int .i64 0], []⟩ 8 (by kernel_rfl) (by kernel_rfl) (by kernel_rfl) (by kernel_rfl)) ?_
  intro W base args ds gs before hval hW _ hsz _
  exact contract H enc W base args ds gs before hval hW
theorem over : Rows.domNoneRow.holds Try.pinned (OpenSpec.ofChange Rows.domNoneSpec) :=
  OpenClaim.holds_of_wide 7 Try.f7 rfl rfl rfl rfl rfl rfl rfl ⟨rfl, rfl, rfl, rfl, rfl⟩ rfl rfl rfl rfl rfl (by kernel_rfl) Try.func7 (by kernel_rfl)
    (of_decide_eq_true (by kernel_rfl)) (by unfold Func.isWrapper; first | (rw [if_pos (by decide +kernel)]; kernel_rfl) | (rw [if_neg (by decide +kernel)]; exact ⟨rfl, rfl⟩))
    (fun os started H enc _ => lifted os started H enc)
end Go.Proofs.Ytkcdnpbcbmcgkaa.domNone
namespace Go.Proofs.Ytkcdnpbcbmcgkaa
/-- The row, under a short name, for the claim. -/
theorem domNone_holds : Rows.DomNoneSaid := domNone.over
#print axioms domNone_holds
end Go.Proofs.Ytkcdnpbcbmcgkaa
