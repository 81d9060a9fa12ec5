/- THE SYMBOLIC RUN IS A RUN: what it returns on every way the program returns, in every world. -/
import Derived.Test.YtlkjbijklgdocaaSxU
set_option linter.unusedSimpArgs false
set_option linter.unusedVariables false
namespace Go.Sx
open Go Go.RowKit
section
variable {P : Program} {E E' : Env} {ι : Nat → Value} {w w2 : World} {B : Nat} {w0 : World} {H : AH}
theorem stepEnd_ok {base : List Frame} {A : AM} {As : List AM} {cs : List Frame} {b : Frame} {a : Act} {k : List AIt} {ck : List Item} {V : Array Value} {l : Nat} {e : Nat × Nat × Nat} (hh : HR B w0 E ι A.H w) (g : FR P E ι w A.top (b.atR a (.endRangeFunc e.1 :: ck)) b a (.endRangeFunc e.1 :: ck) V) (hret : A.top.ret = false) (hV : a.tmps = V) (hfs : FRs P E ι w A.below cs)
    (he : E[l]? = some e) (hk : ItsR E k ck) (hs : stepEnd A k l = some As) : Goes P B w0 ι base As (lone (b.atR a (.endRangeFunc e.1 :: ck)) (cs ++ base) w) := by
  unfold stepEnd at hs
  split at hs
  · cases hs
  · rename_i hok
    have hok : apartOk A.H (stackPend A.below) [l] = true := by simpa using hok
    split at hs
    · rename_i st jump fn tm ps as bd d hg
      have key : st ≠ .busy ∧ As = [⟨{ A.top with todo := jumpTodo jump k }, A.below, A.H.put l (.loop .exhausted jump fn tm ps as bd d)⟩] := by
        cases st with
        | busy => cases hs
        | ready => exact ⟨by simp, (Option.some.inj hs).symm⟩
        | done => exact ⟨by simp, (Option.some.inj hs).symm⟩
        | exhausted => exact ⟨by simp, (Option.some.inj hs).symm⟩
      obtain ⟨hst, rfl⟩ := key
      obtain ⟨ed, C, hC, hed, hb⟩ := hh.loop' hg he
      obtain ⟨h1, h2⟩ := loopPut hh hg rfl rfl he (.loop .exhausted jump fn tm ps as bd d) _ (.loop hC hed) hok
      have hrun : (Instr.endLoop e.1).run P w = .ok jump { w with heap := w.heap.setIfInBounds e.1 (.loop { state := .exhausted, pending := jump, fn := fn, tmps := C, params := ps, assign := as, body := bd, defers := ed.1 }) } := by
        have hbusy : (st == LoopState.busy) = false := by cases st <;> first | rfl | exact absurd rfl hst
        simp only [Instr.endLoop, Sem.run_bind, getLoop_run hb, Result.andThen_ok, hbusy, Bool.false_eq_true, if_false, Sem.run_pure, run_setObj hb (by simp)]
      refine Goes.one (stepR_endRangeFunc hrun) (MR.mk (A := ⟨_, _, _⟩) h1 ?_ (hfs.later (Ext.refl E) h2))
      refine FRel.todo hret g.fn g.kind g.rnd g.defs g.tm hV ?_
      cases jump with
      | none => exact hk
      | some c => exact .cons .code hk
    · cases hs
theorem stepBegin_ok {base : List Frame} {A : AM} {As : List AM} {cs : List Frame} {b : Frame} {a : Act} {k : List AIt} {ck : List Item} {V : Array Value} (hh : HR B w0 E ι A.H w) (g : FR P E ι w A.top (b.atR a (.beginRound :: ck)) b a (.beginRound :: ck) V) (hret : A.top.ret = false) (hV : a.tmps = V) (hfs : FRs P E ι w A.below cs)
    (hk : ItsR E k ck) (hs : stepBegin A k = some As) : Goes P B w0 ι base As (lone (b.atR a (.beginRound :: ck)) (cs ++ base) w) := by
  unfold stepBegin at hs
  cases hrnd : A.top.rnd with
  | none => rw [hrnd] at hs; cases hs
  | some l =>
    rw [hrnd] at hs
    have hb : ∃ bl, b.roundOf = some bl ∧ ∃ e, E[l]? = some e ∧ e.1 = bl := by
      have := g.rnd
      rw [hrnd] at this
      cases hx : b.roundOf with
      | none => rw [hx] at this; exact this.elim
      | some bl => rw [hx] at this; exact ⟨bl, rfl, this⟩
    obtain ⟨bl, hb, e, he, rfl⟩ := hb
    simp only at hs
    split at hs
    · cases hs
    · rename_i hok
      have hok : apartOk A.H (stackPend A.below) [l] = true := by simpa using hok
      split at hs
      · rename_i jump fn tm ps as bd d hg
        simp only [Option.some.injEq] at hs; subst hs
        obtain ⟨ed, C, hC, hed, hbl⟩ := hh.loop' hg he
        obtain ⟨h1, h2⟩ := loopPut hh hg rfl rfl he (.loop .busy jump fn tm ps as bd d) _ (.loop hC hed) hok
        have hrun : (Instr.beginRound e.1).run P w = .ok () { w with heap := w.heap.setIfInBounds e.1 (.loop { state := .busy, pending := jump, fn := fn, tmps := C, params := ps, assign := as, body := bd, defers := ed.1 }) } := by
          simp only [Instr.beginRound, Sem.run_bind, getLoop_run hbl, Result.andThen_ok, run_setObj hbl (by simp), Sem.run_pure]
        exact Goes.one (stepR_beginRound hb hrun) (MR.mk (A := ⟨_, _, _⟩) h1 (FRel.todo hret g.fn g.kind g.rnd g.defs g.tm hV hk) (hfs.later (Ext.refl E) h2))
      · cases hs
/-- ONE STEP. -/
theorem astep_ok (hP : Fine P) (hι : Scalars ι) {base : List Frame} {A : AM} {As : List AM} {M : Machine} (h : MR P B w0 ι base A M) (hs : astep P A = some As) : Goes P B w0 ι base As M := by
  obtain ⟨E, w, fr, cs, rfl, hh, hf, hfs⟩ := h
  unfold astep at hs
  cases hret : A.top.ret with
  | true =>
    rw [hret] at hs
    exact stepRet_ok hι hh hf hret hfs hs
  | false =>
    rw [hret] at hs
    simp only [cond_false] at hs
    obtain ⟨b, a, ct, V, g⟩ := hf
    have hfr := running g hret
    subst hfr
    have gt := g.todo
    split at hs
    · rename_i htd
      rw [htd] at gt
      obtain ⟨hV, hits⟩ := plain_todo gt (by simp)
      cases hits
      exact leave_ok hι hh g hret hV (by rw [htd]; exact .nil) hfs (.inl ⟨rfl, rfl⟩) hs
    · rename_i c k htd
      rw [htd] at gt
      obtain ⟨hV, hits⟩ := plain_todo gt (by simp)
      cases hits with
      | cons hi hk =>
        cases hi
        exact stepCode_ok hP hι hh g hret hV hfs htd hk hs
    · rename_i id k htd
      rw [htd] at gt
      obtain ⟨hV, hits⟩ := plain_todo gt (by simp)
      cases hits with
      | cons hi hk =>
        cases hi
        simp only [Option.some.injEq] at hs; subst hs
        exact todo_step hh g hret hV hfs hk stepR_inBlock
    · rename_i c k htd
      rw [htd] at gt
      obtain ⟨hV, hits⟩ := plain_todo gt (by simp)
      cases hits with
      | cons hi hk =>
        cases hi
        simp only [Option.some.injEq] at hs; subst hs
        exact todo_step hh g hret hV hfs (.cons .code (.cons .inLoop hk)) stepR_inLoop
    · rename_i ops i k htd
      rw [htd] at gt
      obtain ⟨hV, hits⟩ := plain_todo gt (by simp)
      cases hits with
      | cons hi hk =>
        generalize hre : ([] : List Oper) = rr at hi
        cases hi with
        | reg hle =>
          have hsz : ops.size - i = 0 := by
            have := congrArg List.length hre
            simp at this
            omega
          simp only [Option.some.injEq] at hs; subst hs
          refine todo_step hh g hret hV hfs hk ?_
          rw [hsz]
          exact stepR_region_end
    · rename_i ops i o r k htd
      rw [htd] at gt
      obtain ⟨hV, hits⟩ := plain_todo gt (by simp)
      cases hits with
      | @cons _ _ _ kk hi hk =>
        generalize hre : (o :: r) = rr at hi
        cases hi with
        | reg hle =>
          have hlt : i < ops.size := by
            rcases Nat.lt_or_ge i ops.size with h | h
            · exact h
            · rw [List.drop_eq_nil_of_le (by simpa using h)] at hre; cases hre
          have hdrop : ops.toList.drop i = ops.toList[i]'(by simpa using hlt) :: ops.toList.drop (i + 1) := List.drop_eq_getElem_cons (by simpa using hlt)
          rw [hdrop] at hre
          injection hre with ho hr
          have hoi : ops[i]? = some o := by rw [Array.getElem?_eq_getElem hlt, ho]; simp
          have hrange : List.range' i (ops.size - i) = i :: List.range' (i + 1) (ops.size - (i + 1)) := by
            rw [show ops.size - i = (ops.size - (i + 1)) + 1 by omega, List.range'_succ]
          rw [hrange] at g ⊢
          exact aOper_ok hP hι hh g hret hfs hoi (by rw [eval_tmps, hV]) (by rw [hV]) hs
    · rename_i ops ok done pos pend k htd
      rw [htd] at gt
      obtain ⟨l, k', L, rfl, hk, ha, _⟩ := gt
      exact stepAny_ok hP hι hh hret g.fn g.kind g.rnd g.defs g.tm hfs hk ha hs
    · cases hs
    · cases hs
    · rename_i l k htd
      rw [htd] at gt
      obtain ⟨hV, hits⟩ := plain_todo gt (by simp)
      cases hits with
      | cons hi hk =>
        cases hi with
        | endRange he => exact stepEnd_ok hh g hret hV hfs he hk hs
    · rename_i k htd
      rw [htd] at gt
      obtain ⟨hV, hits⟩ := plain_todo gt (by simp)
      cases hits with
      | cons hi hk =>
        cases hi
        exact stepBegin_ok hh g hret hV hfs hk hs
/-- A RUN. -/
theorem arun_ok (hP : Fine P) (hι : Scalars ι) {base : List Frame} {test : AM → Bool} : ∀ (fuel : Nat) (work : List AM), arun P fuel work test = true → ∀ A ∈ work, ∀ M, MR P B w0 ι base A M → ∃ A' M', Steps P M M' ∧ MR P B w0 ι base A' M' ∧ final A' = true ∧ test A' = true
  | _, [], _, A, hA, _, _ => by cases hA
  | 0, _ :: _, h, _, _, _, _ => by simp [arun] at h
  | f + 1, X :: r, h, A, hA, M, hM => by
    unfold arun at h
    cases hf : final X with
    | true =>
      rw [hf] at h
      simp only [cond_true, Bool.and_eq_true] at h
      rcases List.mem_cons.1 hA with rfl | hA
      · exact ⟨A, M, Steps.refl _ _, hM, hf, h.1⟩
      · exact arun_ok hP hι f r h.2 A hA M hM
    | false =>
      rw [hf] at h
      simp only [cond_false] at h
      cases hs : astep P X with
      | none => rw [hs] at h; cases h
      | some l =>
        rw [hs] at h
        simp only at h
        rcases List.mem_cons.1 hA with rfl | hA
        · obtain ⟨A', hA', M', h1, h2⟩ := astep_ok hP hι hM hs
          obtain ⟨A2, M2, q1, q2⟩ := arun_ok hP hι f (l ++ r) h A' (List.mem_append_left _ hA') M' h2
          exact ⟨A2, M2, h1.trans q1, q2⟩
        · exact arun_ok hP hι f (l ++ r) h A (List.mem_append_right _ hA) M hM
/-- THE FUNCTION RETURNS TRUE, IN EVERY WORLD; nothing that was there turns. -/
theorem calls_true (hP : Fine P) {ι : Nat → Value} (hι : Scalars ι) {fuel : Nat} {f : FuncId} {args : List AV} {cargs : List Value} (hc : cvs [] ι args = some cargs) (h : runs P fuel f args = true) (w : World) :
    Calls P f cargs.toArray w fun e w' => e = .returned (.bool true) ∧ Below w.heap.size w w' := by
  intro cs
  unfold runs at h
  rw [Bool.and_eq_true, Option.isSome_iff_exists] at h
  obtain ⟨⟨fr, hfr⟩, h⟩ := h
  unfold start at h
  rw [hfr] at h
  have h0 : HR w.heap.size w [] ι ⟨.leaf, 0⟩ w := ⟨Below.refl _ _, Nat.le_refl _, rfl, fun n e he => by simp at he, fun n o ho => by simp [AH.get, Tr.get_leaf] at ho, fun n m o p e d ho => by simp [AH.get, Tr.get_leaf] at ho⟩
  have hM : MR P w.heap.size w ι cs ⟨fr, [], ⟨.leaf, 0⟩⟩ (lone (Frame.enter P f cargs.toArray .normal) ([] ++ cs) w) := MR.mk (A := ⟨_, _, _⟩) (cs := []) h0 (enterFr_ok hc hfr) .nil
  obtain ⟨A', M', hst, hMR, hfin, htest⟩ := arun_ok hP hι fuel _ h _ (by simp) _ hM
  obtain ⟨E, w', fr', cs', rfl, hh, hf, hfs⟩ := hMR
  unfold final at hfin
  simp only [Bool.and_eq_true, List.isEmpty_iff] at hfin
  obtain ⟨⟨hret, hdef⟩, hbel⟩ := hfin
  rw [hbel] at hfs
  cases hfs
  unfold isTrue at htest
  rw [Bool.and_eq_true] at htest
  obtain ⟨hfn, hres⟩ := htest
  have hfn := Nat.eq_of_beq_eq_true hfn
  obtain ⟨b, a, ct, V, g⟩ := hf
  have hfr' := g.frame
  rw [hret, if_pos rfl] at hfr'
  obtain ⟨hV, _⟩ := g.ret hret
  have hda : a.defers = [] := by
    have := g.defs
    rw [hdef] at this
    cases hx : a.defers with
    | nil => rfl
    | cons _ _ => rw [hx] at this; exact this.elim
  cases hro : resultOf P A'.H A'.top with
  | none => rw [hro] at hres; cases hres
  | some v =>
    rw [hro] at hres
    have hv : v = .bool true := by
      split at hres
      · rename_i heq; injection heq
      · cases hres
    subst hv
    obtain ⟨fn, val, hfnn, hcv, hrun⟩ := resultOf_ok hh (C := V) g.tm hro
    simp only [cv, Option.some.injEq] at hcv
    subst hcv
    refine ⟨.returned (.bool true), w', fr', ⟨rfl, hh.below⟩, hst, ?_, ?_⟩
    · rw [hfr']
      show b.fn = f
      rw [g.fn, hfn]
    · rw [hfr']
      refine ⟨rfl, hda, g.kind, fn, ?_, ?_⟩
      · show P.funcs[b.fn]? = _
        rw [g.fn]; exact hfnn
      · show (results fn a.tmps).run P w' = _
        rw [hV]; exact hrun
/-- Nothing unknown comes in. -/
def noArgs : Nat → Value := fun _ => .bool false
theorem noArgs_ok : Scalars noArgs := fun _ => rfl
/-- A closed function. -/
theorem closed_true (hP : Fine P) {fuel : Nat} {f : FuncId} (h : runs P fuel f [] = true) (w : World) : Calls P f #[] w fun e w' => e = .returned (.bool true) ∧ Below w.heap.size w w' :=
  calls_true hP noArgs_ok (args := []) (cargs := []) cvs_nil h w
end
end Go.Sx
#print axioms Go.Sx.closed_true
