/- The row of the law IsaWrites: for every input the call returns true and its arguments read as before. Condition: none. -/
import Derived.Test.YthbgoecgfoglnaaRows
import Derived.Test.YthbgoecgfoglnaaBOwnJ
import Derived.Test.YthbgoecgfoglnaaBOpen
import Derived.WalkKit
import Derived.ProofKit
import Derived.OpenShut
import Derived.ShutString
import Derived.ChangeOld
import Derived.Below
import Derived.SizedLaws
import Derived.JoinedCond
import Derived.Deep.CondSized
import Derived.ChangeSlices
import Derived.Test.YthbgoecgfoglnaaWSized
namespace Go.Proofs.Ythbgoecgfoglnaa.isaWrites
open Go.ChangeShapes Go.WideShapes Go.ChangeAt Go.RowKit
open Go.ChangeMaps (open_string shut_string)
set_option linter.unusedVariables false
set_option linter.unusedSimpArgs false
theorem own : ownKnob Try.prog.godebug = none := by kernel_rfl
theorem laidOut : laidOutB Try.prog = true := by kernel_rfl
open Go.Proofs.Ythbgoecgfoglnaa.PIsa in
theorem recs28 {H : Type} {enc : TypeId × Value → H} {spare : Nat → Bool} {held : Bool} {fs : Array Field} {W : World} {a : Addr} {len base : Nat} (he : Try.prog.underlying 28 = some (.struct fs)) (hm : len ≤ 9223372036854775807)
    (hcell : ∀ i, i < len → ∀ (j : Nat) (f : Field), fs[j]? = some f → ∃ (v : Value) (y : DataW H × List MemPlace) (n : Nat), W.cell? (a.add (i * fs.size + j)) = some v ∧ DataW.trod enc Try.prog W base spare held n f.type [v] = some y) :
    ∃ l : List S28, l.length = len ∧ Go.Proofs.YthbgoecgfoglnaaW.PrintWords.Kd.C k28 W (some a) len l ∧ ∀ x ∈ l, (Lit.int .i64 x.f0).wf = true ∧ (Lit.int .i64 x.f1).wf = true ∧ (Lit.int .i64 x.f2).wf = true ∧ (Lit.int .i64 x.f3).wf = true ∧ (Lit.int .i64 x.f4).wf = true ∧ (Lit.int .i64 x.f5).wf = true := by
  rw [Try.underlying28] at he
  simp only [Option.some.injEq, TypeDesc.struct.injEq] at he
  subst he
  have q : ∀ i, i < len → (W.cell? (a.add (i * 6 + 0)) = some (.int .i64 (Opn.intAt W (a.add (i * 6 + 0)))) ∧ (Lit.int .i64 (Opn.intAt W (a.add (i * 6 + 0)))).wf = true) ∧ (W.cell? (a.add (i * 6 + 1)) = some (.int .i64 (Opn.intAt W (a.add (i * 6 + 1)))) ∧ (Lit.int .i64 (Opn.intAt W (a.add (i * 6 + 1)))).wf = true) ∧ (W.cell? (a.add (i * 6 + 2)) = some (.int .i64 (Opn.intAt W (a.add (i * 6 + 2)))) ∧ (Lit.int .i64 (Opn.intAt W (a.add (i * 6 + 2)))).wf = true) ∧ (W.cell? (a.add (i * 6 + 3)) = some (.int .i64 (Opn.intAt W (a.add (i * 6 + 3)))) ∧ (Lit.int .i64 (Opn.intAt W (a.add (i * 6 + 3)))).wf = true) ∧ (W.cell? (a.add (i * 6 + 4)) = some (.int .i64 (Opn.intAt W (a.add (i * 6 + 4)))) ∧ (Lit.int .i64 (Opn.intAt W (a.add (i * 6 + 4)))).wf = true) ∧ (W.cell? (a.add (i * 6 + 5)) = some (.int .i64 (Opn.intAt W (a.add (i * 6 + 5)))) ∧ (Lit.int .i64 (Opn.intAt W (a.add (i * 6 + 5)))).wf = true) := by
    intro i hi
    obtain ⟨v0, y0, n0, c0, t0⟩ := hcell i hi 0 _ rfl
    obtain ⟨v1, y1, n1, c1, t1⟩ := hcell i hi 1 _ rfl
    obtain ⟨v2, y2, n2, c2, t2⟩ := hcell i hi 2 _ rfl
    obtain ⟨v3, y3, n3, c3, t3⟩ := hcell i hi 3 _ rfl
    obtain ⟨v4, y4, n4, c4, t4⟩ := hcell i hi 4 _ rfl
    obtain ⟨v5, y5, n5, c5, t5⟩ := hcell i hi 5 _ rfl
    exact ⟨Opn.field_int c0 Try.underlying3 t0, Opn.field_int c1 Try.underlying3 t1, Opn.field_int c2 Try.underlying3 t2, Opn.field_int c3 Try.underlying3 t3, Opn.field_int c4 Try.underlying3 t4, Opn.field_int c5 Try.underlying2 t5⟩
  refine ⟨(List.range len).map fun i => ⟨Opn.intAt W (a.add (i * 6 + 0)), Opn.intAt W (a.add (i * 6 + 1)), Opn.intAt W (a.add (i * 6 + 2)), Opn.intAt W (a.add (i * 6 + 3)), Opn.intAt W (a.add (i * 6 + 4)), Opn.intAt W (a.add (i * 6 + 5))⟩, by simp, ⟨by simp, hm, fun _ => ⟨a, rfl, fun j p hj => ?_⟩⟩, ?_⟩
  · have hjl : j < len := by have := (List.getElem?_eq_some_iff.1 hj).1; simpa using this
    simp only [List.getElem?_map, List.getElem?_range hjl, Option.map_some, Option.some.injEq] at hj
    subst hj
    refine ⟨_, rfl, k28_mk W _, fun i u hu => ?_⟩
    obtain ⟨⟨c0, _⟩, ⟨c1, _⟩, ⟨c2, _⟩, ⟨c3, _⟩, ⟨c4, _⟩, ⟨c5, _⟩⟩ := q j hjl
    match i, hu with
    | 0, hu => simp only [List.getElem?_cons_zero, List.getElem?_cons_succ, Option.some.injEq] at hu; subst hu; exact c0
    | 1, hu => simp only [List.getElem?_cons_zero, List.getElem?_cons_succ, Option.some.injEq] at hu; subst hu; exact c1
    | 2, hu => simp only [List.getElem?_cons_zero, List.getElem?_cons_succ, Option.some.injEq] at hu; subst hu; exact c2
    | 3, hu => simp only [List.getElem?_cons_zero, List.getElem?_cons_succ, Option.some.injEq] at hu; subst hu; exact c3
    | 4, hu => simp only [List.getElem?_cons_zero, List.getElem?_cons_succ, Option.some.injEq] at hu; subst hu; exact c4
    | 5, hu => simp only [List.getElem?_cons_zero, List.getElem?_cons_succ, Option.some.injEq] at hu; subst hu; exact c5
    | i + 6, hu => simp at hu
  · intro x hx
    obtain ⟨i, hi, rfl⟩ := List.mem_map.1 hx
    obtain ⟨⟨_, w0⟩, ⟨_, w1⟩, ⟨_, w2⟩, ⟨_, w3⟩, ⟨_, w4⟩, ⟨_, w5⟩⟩ := q i (List.mem_range.1 hi)
    exact ⟨w0, w1, w2, w3, w4, w5⟩
set_option maxRecDepth 100000 in
theorem contract (H : Type) (enc : TypeId × Value → H) (W : World) (base : Nat) (args : Array Value) (ds gs : List (DataW H)) (before : List MemPlace)
    (hval0 : ∀ (j : Nat) t v, Try.f7.params[j]? = some t → args[j]? = some v → Value.okWide Try.prog W .any base t v)
    (hW : DataW.Whole enc Try.prog Try.f7.params.toList Rows.isaWritesSpec.vars false W args.toList ds gs before)
    (hsz0 : (DataW.weightsEach Try.prog (Try.f7.params.toList ++ Rows.isaWritesSpec.plain.varTypes Try.prog) (ds ++ gs)).all (· ≤ reachBytes) = true) :
    Calls Try.prog 7 args W fun e W' => ∃ v, e = .returned v ∧ Rows.isaWritesSpec.post enc Try.prog Try.f7 false true false false W args v W' := by
  have hsz := hsz0
  have hval := hval0
  have hW' := hW
  obtain ⟨p, q, hA0, hV, rfl, hfz, hnd⟩ := hW
  have hA : DataW.TrodAll enc Try.prog W 0 (fun _ => true) true Try.f7.params.toList args.toList ds p := hA0
  rw [Try.params7] at hA hval hsz
  obtain ⟨v0, vs0, d0, ds0, p0, q0, hargs, rfl, rfl, h0, r0⟩ := trodAll_cons hA
  obtain ⟨rfl, rfl, rfl⟩ := trodAll_nil r0
  obtain rfl : args = #[v0] := by cases args; simp_all
  obtain ⟨rfl, rfl⟩ := trodVars_none hV
  obtain ⟨A0, len0, cap0, rfl⟩ := okWide_slice Try.underlying23 (hval 0 23 v0 rfl rfl)
  have k0 := h0
  have lt0 : ∀ x ∈ p0, x.block < W.heap.size := by obtain ⟨m, hm⟩ := k0; exact DataW.trod_lt m _ _ _ hm
  obtain ⟨l0, rfl, hl0, hw0, hr0, hc0⟩ : ∃ l : List Go.Proofs.Ythbgoecgfoglnaa.PIsa.S28, len0 = l.length ∧ l.length * 48 ≤ 140737488351232 ∧ (∀ x ∈ l, (Lit.int .i64 x.f0).wf = true ∧ (Lit.int .i64 x.f1).wf = true ∧ (Lit.int .i64 x.f2).wf = true ∧ (Lit.int .i64 x.f3).wf = true ∧ (Lit.int .i64 x.f4).wf = true ∧ (Lit.int .i64 x.f5).wf = true) ∧ Go.Proofs.YthbgoecgfoglnaaW.PrintWords.Kd.C Go.Proofs.Ythbgoecgfoglnaa.PIsa.k28 W A0 l.length l ∧ l.length ≤ cap0 := by
    obtain ⟨fuel, hf⟩ := h0
    cases A0 with
    | none =>
      rcases Go.Deep.open_slice Try.underlying23 hf with ⟨h0, _⟩ | ⟨a', len', cap', m, n, D, Pl, hcs, _⟩
      · simp [Value.cells] at h0
        obtain ⟨rfl, rfl⟩ := h0
        exact ⟨[], rfl, by simp, by simp, ⟨rfl, by simp, fun h => absurd h (Nat.lt_irrefl 0)⟩, by simp⟩
      · simp [Value.cells] at hcs
    | some a =>
      have hf' : DataW.trod enc Try.prog W 0 (fun _ => true) true fuel 23 [.slice (some a) len0 cap0] = some (d0, p0) := by simpa [Value.cells] using hf
      obtain ⟨hlc, hcm, ⟨E, Sp, hE, hEl⟩, hcell⟩ := Opn.open_recs Try.underlying23 Try.underlying28 (by kernel_rfl) (by kernel_rfl) hf'
      unfold maxLen at hcm
      obtain ⟨l, hll, hlC, hlw⟩ := recs28 Try.underlying28 (by omega) hcell
      subst hll
      have e : d0 = .slice E Sp := hE
      have z := sized_slice hsz (j := 0) (t := 23) (elems := E) (spare := Sp) rfl (by rw [← e]; rfl) Try.underlying23
      rw [show Try.prog.bytesOf 28 = 48 from by kernel_rfl, show reachBytes = 140737488351232 from by decide] at z
      exact ⟨l, rfl, by omega, hlw, hlC, hlc⟩
  clear hA0 hval0 hsz0 hsz
  refine (Own.IsaWrites_law A0 cap0 l0 W hl0 hw0 hr0 hc0).mono fun e W' ⟨he, bel⟩ => ?_
  subst he
  exact ⟨_, rfl, _, _, _, [], _, [], hW', trodAll_mk1 (shut_bool Try.underlying4 _), (trodAll_cons_mk (Below.trod laidOut (by kernel_rfl) (of_decide_eq_true (by kernel_rfl)) k0 bel lt0) trodAll_mk0), rfl, bel.frame _, fun h => by cases h⟩
set_option maxRecDepth 100000 in
theorem lifted (os : Os) (started : os.Started) (H : Type) (enc : TypeId × Value → H) :
    ReturnsInHanded {} Try.checked os 7 .any (Rows.isaWritesSpec.pre6 enc Try.prog Try.f7 Rows.isaWritesRow.domain false) (Rows.isaWritesSpec.post enc Try.prog Try.f7 false true false false) := by
  refine returnsInHanded_of_change_sized (C := Try.checked) own started (by kernel_rfl) Try.func7
    (ChangeSpec.witness6 (enc := enc) (C := Try.checked) false ⟨#[], #[.slice none 0 0], []⟩ 8 (by kernel_rfl) (by kernel_rfl) (by kernel_rfl) (by kernel_rfl)) ?_
  intro W base args ds gs before hval hW _ hsz _
  exact contract H enc W base args ds gs before hval hW hsz
theorem over : Rows.isaWritesRow.holds Try.pinned (OpenSpec.ofChange Rows.isaWritesSpec) :=
  OpenClaim.holds_of_wide 7 Try.f7 rfl rfl rfl rfl rfl rfl rfl ⟨rfl, rfl, rfl, rfl, rfl⟩ rfl rfl rfl rfl rfl (by kernel_rfl) Try.func7 (by kernel_rfl)
    (of_decide_eq_true (by kernel_rfl)) (by unfold Func.isWrapper; first | (rw [if_pos (by decide +kernel)]; kernel_rfl) | (rw [if_neg (by decide +kernel)]; exact ⟨rfl, rfl⟩))
    (fun os started H enc _ => lifted os started H enc)
end Go.Proofs.Ythbgoecgfoglnaa.isaWrites
namespace Go.Proofs.Ythbgoecgfoglnaa
/-- The row, under a short name, for the claim. -/
theorem isaWrites_holds : Rows.IsaWritesSaid := isaWrites.over
#print axioms isaWrites_holds
end Go.Proofs.Ythbgoecgfoglnaa
