/- The row of the law IsaAsks: for every input the call returns true and its arguments read as before. Condition: none. -/
import Derived.Test.YthbgoecgfoglnaaRows
import Derived.Test.YthbgoecgfoglnaaAOwnB
import Derived.Test.YthbgoecgfoglnaaAOpen
import Derived.WalkKit
import Derived.ProofKit
import Derived.OpenShut
import Derived.ShutString
import Derived.ChangeOld
import Derived.Below
import Derived.SizedLaws
import Derived.JoinedCond
import Derived.Deep.CondSized
import Derived.ChangeSlices
import Derived.Test.YthbgoecgfoglnaaWSized
namespace Go.Proofs.Ythbgoecgfoglnaa.isaAsks
open Go.ChangeShapes Go.WideShapes Go.ChangeAt Go.RowKit
open Go.ChangeMaps (open_string shut_string)
set_option linter.unusedVariables false
set_option linter.unusedSimpArgs false
theorem own : ownKnob Try.prog.godebug = none := by kernel_rfl
theorem laidOut : laidOutB Try.prog = true := by kernel_rfl
theorem honeU28 {P : Program} {t : TypeId} {fs : Array Field} (h : P.underlying t = some (.struct fs)) (hb : (match P.underlying t with | some (.struct fs) => Go.Deep.oneCellFields P fs | _ => false) = true) : Go.Deep.oneCellFields P fs = true := by rw [h] at hb; exact hb
theorem agg28 {H : Type} {enc : TypeId × Value → H} {W : World} {base : Nat} {spare : Nat → Bool} {held : Bool} {r : Reach} {b0 : Nat} {v : Value} {d : DataW H} {p : List MemPlace} (hv : Value.okWide Try.prog W r b0 28 v) (h : DataW.Trod enc Try.prog W base spare held 28 v d p) :
    ∃ a0 a1 a2 a3 a4 a5 : Int, v = .agg #[.int .i64 a0, .int .i64 a1, .int .i64 a2, .int .i64 a3, .int .i64 a4, .int .i64 a5] ∧ (Lit.int .i64 a0).wf = true ∧ (Lit.int .i64 a1).wf = true ∧ (Lit.int .i64 a2).wf = true ∧ (Lit.int .i64 a3).wf = true ∧ (Lit.int .i64 a4).wf = true ∧ (Lit.int .i64 a5).wf = true := by
  obtain ⟨cs, rfl, hsz⟩ := okWide_struct Try.underlying28 hv
  obtain ⟨l⟩ := cs
  match l, hsz.trans (show Try.prog.cellsOf 28 = 6 by kernel_rfl) with
  | [v0, v1, v2, v3, v4, v5], _ =>
    obtain ⟨fuel, hf⟩ := h
    obtain ⟨xs, n, _, hx, _, hlen, hg⟩ := DataW.trod_struct Try.underlying28 hf
    obtain ⟨o0, k0⟩ := Go.Deep.hone_of (honeU28 Try.underlying28 (by kernel_rfl)) 0 _ rfl
    have g0 := hg 0 _ rfl
    rw [o0, k0] at g0
    obtain ⟨o1, k1⟩ := Go.Deep.hone_of (honeU28 Try.underlying28 (by kernel_rfl)) 1 _ rfl
    have g1 := hg 1 _ rfl
    rw [o1, k1] at g1
    obtain ⟨o2, k2⟩ := Go.Deep.hone_of (honeU28 Try.underlying28 (by kernel_rfl)) 2 _ rfl
    have g2 := hg 2 _ rfl
    rw [o2, k2] at g2
    obtain ⟨o3, k3⟩ := Go.Deep.hone_of (honeU28 Try.underlying28 (by kernel_rfl)) 3 _ rfl
    have g3 := hg 3 _ rfl
    rw [o3, k3] at g3
    obtain ⟨o4, k4⟩ := Go.Deep.hone_of (honeU28 Try.underlying28 (by kernel_rfl)) 4 _ rfl
    have g4 := hg 4 _ rfl
    rw [o4, k4] at g4
    obtain ⟨o5, k5⟩ := Go.Deep.hone_of (honeU28 Try.underlying28 (by kernel_rfl)) 5 _ rfl
    have g5 := hg 5 _ rfl
    rw [o5, k5] at g5
    have hxl0 : ∃ y, DataW.trod enc Try.prog W base spare held n 3 [v0] = some y := ⟨_, by have g := g0; simpa [Value.cells] using g.trans (List.getElem?_eq_getElem (show 0 < xs.length by rw [hlen]; decide))⟩
    have hxl1 : ∃ y, DataW.trod enc Try.prog W base spare held n 3 [v1] = some y := ⟨_, by have g := g1; simpa [Value.cells] using g.trans (List.getElem?_eq_getElem (show 1 < xs.length by rw [hlen]; decide))⟩
    have hxl2 : ∃ y, DataW.trod enc Try.prog W base spare held n 3 [v2] = some y := ⟨_, by have g := g2; simpa [Value.cells] using g.trans (List.getElem?_eq_getElem (show 2 < xs.length by rw [hlen]; decide))⟩
    have hxl3 : ∃ y, DataW.trod enc Try.prog W base spare held n 3 [v3] = some y := ⟨_, by have g := g3; simpa [Value.cells] using g.trans (List.getElem?_eq_getElem (show 3 < xs.length by rw [hlen]; decide))⟩
    have hxl4 : ∃ y, DataW.trod enc Try.prog W base spare held n 3 [v4] = some y := ⟨_, by have g := g4; simpa [Value.cells] using g.trans (List.getElem?_eq_getElem (show 4 < xs.length by rw [hlen]; decide))⟩
    have hxl5 : ∃ y, DataW.trod enc Try.prog W base spare held n 2 [v5] = some y := ⟨_, by have g := g5; simpa [Value.cells] using g.trans (List.getElem?_eq_getElem (show 5 < xs.length by rw [hlen]; decide))⟩
    obtain ⟨y0, ty0⟩ := hxl0
    obtain ⟨z0, hz0, _, wz0⟩ := DataW.trod_int Try.underlying3 ty0
    simp only [List.cons.injEq, and_true] at hz0
    subst hz0
    obtain ⟨y1, ty1⟩ := hxl1
    obtain ⟨z1, hz1, _, wz1⟩ := DataW.trod_int Try.underlying3 ty1
    simp only [List.cons.injEq, and_true] at hz1
    subst hz1
    obtain ⟨y2, ty2⟩ := hxl2
    obtain ⟨z2, hz2, _, wz2⟩ := DataW.trod_int Try.underlying3 ty2
    simp only [List.cons.injEq, and_true] at hz2
    subst hz2
    obtain ⟨y3, ty3⟩ := hxl3
    obtain ⟨z3, hz3, _, wz3⟩ := DataW.trod_int Try.underlying3 ty3
    simp only [List.cons.injEq, and_true] at hz3
    subst hz3
    obtain ⟨y4, ty4⟩ := hxl4
    obtain ⟨z4, hz4, _, wz4⟩ := DataW.trod_int Try.underlying3 ty4
    simp only [List.cons.injEq, and_true] at hz4
    subst hz4
    obtain ⟨y5, ty5⟩ := hxl5
    obtain ⟨z5, hz5, _, wz5⟩ := DataW.trod_int Try.underlying2 ty5
    simp only [List.cons.injEq, and_true] at hz5
    subst hz5
    exact ⟨_, _, _, _, _, _, rfl, wz0, wz1, wz2, wz3, wz4, wz5⟩
set_option maxRecDepth 100000 in
theorem contract (H : Type) (enc : TypeId × Value → H) (W : World) (base : Nat) (args : Array Value) (ds gs : List (DataW H)) (before : List MemPlace)
    (hval0 : ∀ (j : Nat) t v, Try.f4.params[j]? = some t → args[j]? = some v → Value.okWide Try.prog W .any base t v)
    (hW : DataW.Whole enc Try.prog Try.f4.params.toList Rows.isaAsksSpec.vars false W args.toList ds gs before)
    (hsz0 : (DataW.weightsEach Try.prog (Try.f4.params.toList ++ Rows.isaAsksSpec.plain.varTypes Try.prog) (ds ++ gs)).all (· ≤ reachBytes) = true) :
    Calls Try.prog 4 args W fun e W' => ∃ v, e = .returned v ∧ Rows.isaAsksSpec.post enc Try.prog Try.f4 false true false false W args v W' := by
  have hsz := hsz0
  have hval := hval0
  have hW' := hW
  obtain ⟨p, q, hA0, hV, rfl, hfz, hnd⟩ := hW
  have hA : DataW.TrodAll enc Try.prog W 0 (fun _ => true) true Try.f4.params.toList args.toList ds p := hA0
  rw [Try.params4] at hA hval hsz
  obtain ⟨v0, vs0, d0, ds0, p0, q0, hargs, rfl, rfl, h0, r0⟩ := trodAll_cons hA
  obtain ⟨v1, vs1, d1, ds1, p1, q1, rfl, rfl, rfl, h1, r1⟩ := trodAll_cons r0
  obtain ⟨rfl, rfl, rfl⟩ := trodAll_nil r1
  obtain rfl : args = #[v0, v1] := by cases args; simp_all
  obtain ⟨rfl, rfl⟩ := trodVars_none hV
  have k0 := h0
  have lt0 : ∀ x ∈ p0, x.block < W.heap.size := by obtain ⟨m, hm⟩ := k0; exact DataW.trod_lt m _ _ _ hm
  obtain ⟨a0_0, a0_1, a0_2, a0_3, a0_4, a0_5, rfl, w0_0, w0_1, w0_2, w0_3, w0_4, w0_5⟩ := agg28 (hval 0 28 v0 rfl rfl) h0
  obtain ⟨a1, rfl, rfl, rfl, w1⟩ := open_int Try.underlying3 (hval 1 3 v1 rfl rfl) h1
  clear hA0 hval0 hsz0 hsz
  refine (Own.IsaAsks_law a0_0 a0_1 a0_2 a0_3 a0_4 a0_5 a1 W w0_0 w0_1 w0_2 w0_3 w0_4 w0_5 w1).mono fun e W' ⟨he, bel⟩ => ?_
  subst he
  exact ⟨_, rfl, _, _, _, [], _, [], hW', trodAll_mk1 (shut_bool Try.underlying4 _), (trodAll_cons_mk (Below.trod laidOut (by kernel_rfl) (of_decide_eq_true (by kernel_rfl)) k0 bel lt0) (trodAll_cons_mk (shut_int Try.underlying3 w1) trodAll_mk0)), rfl, bel.frame _, fun h => by cases h⟩
set_option maxRecDepth 100000 in
theorem lifted (os : Os) (started : os.Started) (H : Type) (enc : TypeId × Value → H) :
    ReturnsInHanded {} Try.checked os 4 .any (Rows.isaAsksSpec.pre6 enc Try.prog Try.f4 Rows.isaAsksRow.domain false) (Rows.isaAsksSpec.post enc Try.prog Try.f4 false true false false) := by
  refine returnsInHanded_of_change_sized (C := Try.checked) own started (by kernel_rfl) Try.func4
    (ChangeSpec.witness6 (enc := enc) (C := Try.checked) false ⟨#[], #[.agg #[.int .i64 0, .int .i64 0, .int .i64 0, .int .i64 0, .int .i64 0, .int .i64 0], .int .i64 0], []⟩ 8 (by kernel_rfl) (by kernel_rfl) (by kernel_rfl) (by kernel_rfl)) ?_
  intro W base args ds gs before hval hW _ hsz _
  exact contract H enc W base args ds gs before hval hW hsz
theorem over : Rows.isaAsksRow.holds Try.pinned (OpenSpec.ofChange Rows.isaAsksSpec) :=
  OpenClaim.holds_of_wide 4 Try.f4 rfl rfl rfl rfl rfl rfl rfl ⟨rfl, rfl, rfl, rfl, rfl⟩ rfl rfl rfl rfl rfl (by kernel_rfl) Try.func4 (by kernel_rfl)
    (of_decide_eq_true (by kernel_rfl)) (by unfold Func.isWrapper; first | (rw [if_pos (by decide +kernel)]; kernel_rfl) | (rw [if_neg (by decide +kernel)]; exact ⟨rfl, rfl⟩))
    (fun os started H enc _ => lifted os started H enc)
end Go.Proofs.Ythbgoecgfoglnaa.isaAsks
namespace Go.Proofs.Ythbgoecgfoglnaa
/-- The row, under a short name, for the claim. -/
theorem isaAsks_holds : Rows.IsaAsksSaid := isaAsks.over
#print axioms isaAsks_holds
end Go.Proofs.Ythbgoecgfoglnaa
