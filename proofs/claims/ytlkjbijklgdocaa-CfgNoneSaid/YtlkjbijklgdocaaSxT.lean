/- One step of the symbolic machine: all of it. -/
import Derived.Test.YtlkjbijklgdocaaSxS
set_option linter.unusedSimpArgs false
set_option linter.unusedVariables false
namespace Go.Sx
open Go Go.RowKit
section
variable {P : Program} {E E' : Env} {ι : Nat → Value} {w w2 : World} {B : Nat} {w0 : World} {H : AH}

/-! ### Records of loops -/
theorem HR.loop' (hh : HR B w0 E ι H w) {l : Nat} {st : LoopState} {jump : Option Code} {fn : FuncId} {tm : TM} {ps : Array Tmp} {as bd : Code} {d : Nat} (hg : H.get l = some (.loop st jump fn tm ps as bd d)) {e : Nat × Nat × Nat} (he : E[l]? = some e) :
    ∃ ed C, TMR E ι tm C ∧ E[d]? = some ed ∧ w.heap[e.1]? = some (.loop { state := st, pending := jump, fn := fn, tmps := C, params := ps, assign := as, body := bd, defers := ed.1 }) := by
  obtain ⟨e', he', hr⟩ := hh.obj l _ hg
  rw [he] at he'; injection he' with he'; subst he'
  generalize hob : w.heap[e.1]? = ob at hr
  cases hr with
  | loop h1 h2 => exact ⟨_, _, h1, h2, rfl⟩
/-- A record of a loop is laid anew: what is sheltered stays. -/
theorem loopPut (hh : HR B w0 E ι H w) {l : Nat} {o : AObj} (hg : H.get l = some o) (hv : o.isView = false) (hold : o.old = none) {e : Nat × Nat × Nat} (he : E[l]? = some e) (o' : AObj) (ob : Obj) (hr : OR E ι o' e (some ob)) {ns : List Nat} (hok : apartOk H ns [l] = true) :
    HR B w0 E ι (H.put l o') { w with heap := w.heap.setIfInBounds e.1 ob } ∧ Sheltered E ns w { w with heap := w.heap.setIfInBounds e.1 ob } := by
  have h1 := hh.put hg hv he o' ob hr
  rw [hold] at h1
  exact ⟨h1, sheltered_of hh hok (Touch.set (by simp) he ob)⟩
theorem getLoop_run {b : Nat} {r : Loop} (h : w.heap[b]? = some (.loop r)) : (Instr.getLoop b).run P w = .ok r w := by
  simp [Instr.getLoop, run_getObj h]
theorem endRound_ok (hh : HR B w0 E ι H w) {l : Nat} {jump : Option Code} {H' : AH} (h : endRoundA H l jump = some H') {b : Nat} (hb : ∃ e, E[l]? = some e ∧ e.1 = b) {ns : List Nat} (hok : apartOk H ns [l] = true) :
    ∃ w', (Instr.endRound b jump).run P w = .ok (.bool jump.isNone) w' ∧ HR B w0 E ι H' w' ∧ Sheltered E ns w w' := by
  obtain ⟨e, he, rfl⟩ := hb
  unfold endRoundA at h
  split at h
  · rename_i st j0 fn tm ps as bd d hg
    simp only [Option.some.injEq] at h
    subst h
    obtain ⟨ed, C, hC, hed, hb⟩ := hh.loop' hg he
    have hrun : (Instr.endRound e.1 jump).run P w = .ok (.bool jump.isNone) { w with heap := w.heap.setIfInBounds e.1 (.loop { state := if jump.isNone then .ready else .done, pending := jump, fn := fn, tmps := C, params := ps, assign := as, body := bd, defers := ed.1 }) } := by
      simp only [Instr.endRound, Sem.run_bind, getLoop_run hb, Result.andThen_ok, run_setObj hb (by simp), Sem.run_pure]
    obtain ⟨h1, h2⟩ := loopPut hh hg rfl rfl he (.loop (if jump.isNone then .ready else .done) jump fn tm ps as bd d) _ (.loop hC hed) hok
    exact ⟨_, hrun, h1, h2⟩
  · cases h
theorem exit_ok {id : Nat} : ∀ {k : List AIt} {ck : List Item}, ItsR E k ck → (∀ k2, exitA id k = some k2 → ∃ ck2, exitTo id ck = some ck2 ∧ ItsR E k2 ck2) ∧ (exitA id k = none → exitTo id ck = none) := by
  intro k ck h
  induction h with
  | nil => exact ⟨fun k2 h => by simp [exitA] at h, fun _ => rfl⟩
  | @cons a c k k' ha hk ih =>
    cases ha with
    | @inBlock id' =>
      simp only [exitA, exitTo]
      by_cases hid : id' = id
      · subst hid
        have : Nat.beq id' id' = true := Nat.beq_refl id'
        simp only [this, cond_true, beq_self_eq_true, if_true]
        exact ⟨fun k2 h => by simp only [Option.some.injEq] at h; subst h; exact ⟨_, rfl, hk⟩, fun h => by cases h⟩
      · have h1 : Nat.beq id' id = false := by
          cases hb : Nat.beq id' id with
          | false => rfl
          | true => exact absurd (Nat.eq_of_beq_eq_true hb) hid
        have h2 : (id' == id) = false := by simpa using hid
        simp only [h1, cond_false, h2, Bool.false_eq_true, if_false]
        exact ih
    | _ => simp only [exitA, exitTo]; exact ih

/-! ### The parts of a step -/
theorem running {f : AFr} {fr : Frame} {b : Frame} {a : Act} {ct : List Item} {V : Array Value} (g : FR P E ι w f fr b a ct V) (h : f.ret = false) : fr = b.atR a ct := by
  have := g.frame; rw [h] at this; simpa using this
theorem plain_todo {todo : List AIt} {ct : List Item} {C V : Array Value} (h : TodoR P E w todo ct C V) (hn : ∀ ops ok done pos pend cur k, todo ≠ .any ops ok done pos pend cur :: k) : C = V ∧ ItsR E todo ct := by
  unfold TodoR at h
  split at h
  · exact absurd rfl (hn _ _ _ _ _ _ _)
  · exact h
theorem todo_plain {todo : List AIt} {ct : List Item} {V : Array Value} (h : ItsR E todo ct) : TodoR P E w todo ct V V := by
  unfold TodoR
  split
  · cases h with
    | cons a _ => cases a
  · exact ⟨rfl, h⟩
/-- Only what is to be done next has turned. -/
theorem FRel.todo {f : AFr} {b : Frame} {a : Act} {V : Array Value} (hret : f.ret = false) (hfn : b.fn = f.fn) (hk : b.kind = .normal) (hr : RndR E f.rnd b.roundOf) (hd : DefR E f.defers a.defers) (ht : TMR E ι f.tm V) (ha : a.tmps = V) {k : List AIt} {ck : List Item} (hi : ItsR E k ck) :
    FRel P E ι w { f with todo := k } (b.atR a ck) :=
  ⟨b, a, ck, V, by simp [hret], hfn, hk, hr, hd, ht, by rw [ha]; exact todo_plain hi, fun hx => by rw [show f.ret = false from hret] at hx; cases hx⟩
theorem leave_ok (hι : Scalars ι) {base : List Frame} {A : AM} {jump : Option Code} {As : List AM} {cs : List Frame} {b : Frame} {a : Act} {ct : List Item} {V : Array Value} {fr : Frame} (hh : HR B w0 E ι A.H w) (g : FR P E ι w A.top fr b a ct V) (hret : A.top.ret = false) (hV : a.tmps = V) (hits : ItsR E A.top.todo ct) (hfs : FRs P E ι w A.below cs)
    (hct : (jump = none ∧ ct = []) ∨ (jump = some .ret ∧ ∃ k, ct = .code .ret :: k) ∨ ∃ id k, jump = some (.exit id) ∧ ct = .code (.exit id) :: k ∧ exitTo id k = none) (hs : leave A jump = some As) : Goes P B w0 ι base As (lone fr (cs ++ base) w) := by
  have hfr := running g hret
  subst hfr
  unfold leave at hs
  cases hrnd : A.top.rnd with
  | none =>
    rw [hrnd] at hs
    have hb : b.roundOf = none := by
      have := g.rnd
      rw [hrnd] at this
      cases hx : b.roundOf with
      | none => rfl
      | some _ => rw [hx] at this; exact this.elim
    have hrel : FRel P E ι w { A.top with ret := true } { b.atR a ct with mode := .returning } :=
      ⟨b, a, ct, V, by simp, g.fn, g.kind, g.rnd, g.defs, g.tm, by rw [hV]; exact todo_plain hits, fun _ => ⟨hV, hits⟩⟩
    rcases hct with ⟨rfl, rfl⟩ | ⟨rfl, k, rfl⟩ | ⟨id, k, rfl, rfl, _⟩
    · simp only [Option.some.injEq] at hs; subst hs
      exact Goes.one (stepR_end hb) (MR.mk (A := ⟨_, _, _⟩) hh hrel hfs)
    · simp only [Option.some.injEq] at hs; subst hs
      exact Goes.one (stepR_ret hb) (MR.mk (A := ⟨_, _, _⟩) hh hrel hfs)
    · cases hs
  | some l =>
    rw [hrnd] at hs
    have hb : ∃ bl, b.roundOf = some bl ∧ ∃ e, E[l]? = some e ∧ e.1 = bl := by
      have := g.rnd
      rw [hrnd] at this
      cases hx : b.roundOf with
      | none => rw [hx] at this; exact this.elim
      | some bl => rw [hx] at this; exact ⟨bl, rfl, this⟩
    obtain ⟨bl, hb, he⟩ := hb
    cases hbel : A.below with
    | nil => rw [hbel] at hs; cases hs
    | cons c cs' =>
      rw [hbel] at hs hfs
      simp only at hs
      split at hs
      · cases hs
      · rename_i hok
        have hok : apartOk A.H (stackPend (c :: cs')) [l] = true := by simpa using hok
        simp only [Option.bind_eq_some_iff, Option.map_eq_some_iff] at hs
        obtain ⟨H', hH', c', hc', rfl⟩ := hs
        obtain ⟨w', hrun, hh', hsh⟩ := endRound_ok (P := P) hh hH' he hok
        cases hfs with
        | @cons _ cf _ cfs hcf hcr hcfs =>
          have hcf' := hcf.later (Ext.refl E) (w2 := w') fun p hp => hsh p (by unfold stackPend; exact List.mem_append_left _ hp)
          have hcfs' := hcfs.later (Ext.refl E) (w2 := w') fun p hp => hsh p (by unfold stackPend; exact List.mem_append_right _ hp)
          obtain ⟨h1, h2⟩ := finish_ok hcf' hcr (v := .bool jump.isNone) rfl hc'
          refine Goes.one (M' := lone (cf.finish (.bool jump.isNone)) (cfs ++ base) w') ?_ (MR.mk hh' h1 hcfs')
          rcases hct with ⟨rfl, rfl⟩ | ⟨rfl, k, rfl⟩ | ⟨id, k, rfl, rfl, hx⟩
          · exact stepR_round_end hb g.kind hrun
          · exact stepR_round_ret hb g.kind hrun
          · exact stepR_round_exit hb g.kind hx hrun
/-! #### Returns -/
def rvSem (C : Array Value) : ResultVar → Sem Value
  | .tmp t => pure (C.getD t undef)
  | .cell a t => do loadVar t (← asAddr (C.getD a undef))
theorem results_eq (fn : Func) (C : Array Value) : results fn C = (do
    let vs ← fn.results.mapM (rvSem C)
    pure (if h : vs.size = 1 then vs[0] else .tuple vs)) := by
  unfold results
  congr 1
theorem results_ok (hh : HR B w0 E ι H w) {tm : TM} {C : Array Value} (ht : TMR E ι tm C) : ∀ (rs : List ResultVar) (vs : List AV), aResults P H tm rs = some vs → ∃ cs, cvs E ι vs = some cs ∧ (rs.mapM (rvSem C)).run P w = .ok cs w
  | [], vs, h => by
    simp only [aResults, Option.some.injEq] at h; subst h
    exact ⟨[], cvs_nil, rfl⟩
  | r :: rs, vs, h => by
    simp only [aResults, Option.bind_eq_some_iff, Option.map_eq_some_iff] at h
    obtain ⟨v, hv, l, hl, rfl⟩ := h
    obtain ⟨cs, h1, h2⟩ := results_ok hh ht rs l hl
    have hone : ∃ c, cv E ι v = some c ∧ (rvSem C r).run P w = .ok c w := by
      cases r with
      | tmp t =>
        simp only [aResult, Option.some.injEq] at hv; subst hv
        exact ⟨_, ht.2 t, rfl⟩
      | cell a t =>
        simp only [aResult] at hv
        split at hv
        · rename_i n off hg
          have := ht.2 a
          rw [hg] at this
          simp only [cv, Option.map_eq_some_iff] at this
          obtain ⟨e, he, hx⟩ := this
          obtain ⟨c, hc, hr⟩ := run_aLoad (P := P) hh hv he
          refine ⟨c, hc, ?_⟩
          simp only [rvSem, ← hx, asAddr, Sem.run_bind, Sem.run_pure, Result.andThen_ok]
          exact hr w (Agree.refl _ _ _)
        · cases hv
    obtain ⟨c, hc, hr⟩ := hone
    refine ⟨c :: cs, cvs_cons.2 ⟨c, cs, hc, h1, rfl⟩, ?_⟩
    simp only [List.mapM_cons, Sem.run_bind, hr, Result.andThen_ok, h2, Sem.run_pure]
theorem resultOf_ok (hh : HR B w0 E ι H w) {f : AFr} {C : Array Value} (ht : TMR E ι f.tm C) {v : AV} (h : resultOf P H f = some v) : ∃ fn c, P.funcs[f.fn]? = some fn ∧ cv E ι v = some c ∧ (results fn C).run P w = .ok c w := by
  unfold resultOf at h
  split at h
  · rename_i fn hfn
    obtain ⟨vs, hvs, rfl⟩ := Option.map_eq_some_iff.1 h
    obtain ⟨cs, h1, h2⟩ := results_ok hh ht fn.results.toList vs hvs
    have hrun : (results fn C).run P w = .ok (if h : cs.toArray.size = 1 then cs.toArray[0] else .tuple cs.toArray) w := by
      rw [results_eq, Array.mapM_eq_mapM_toList]
      simp only [Sem.run_bind, Sem.run_map, h2, Result.andThen_ok, Sem.run_pure]
    have hlen := (cvs_get h1).1
    refine ⟨fn, _, hfn, ?_, hrun⟩
    cases vs with
    | nil =>
      rw [cvs_nil] at h1; injection h1 with h1; subst h1
      simp [cv, cvs]
    | cons x r =>
      cases r with
      | nil =>
        obtain ⟨a, b, q1, q2, rfl⟩ := cvs_cons.1 h1
        rw [cvs_nil] at q2; injection q2 with q2; subst q2
        simpa using q1
      | cons y r =>
        have : ¬ cs.toArray.size = 1 := by simp at hlen ⊢; omega
        rw [dif_neg this]
        simp [cv, h1]
  · cases h
theorem step_taken {b : Frame} {a : Act} {ct : List Item} {cs : List Frame} {bl : Nat} {ds : List Deferred} (ha : a.defers = { target := .collected bl, args := #[] } :: ds) {w' : World} (hr : (Instr.takeDeferred bl).run P w = .ok [] w') :
    step P (lone { b.atR a ct with mode := .returning } cs w) = .next (lone { b.atR ⟨a.tmps, ds⟩ ct with mode := .returning } cs w') :=
  step_lone_go (by simp [stepG, unwind, Frame.atR, ha, hr])
theorem stepRet_ok (hι : Scalars ι) {base : List Frame} {A : AM} {As : List AM} {cs : List Frame} {fr : Frame} (hh : HR B w0 E ι A.H w) (hf : FRel P E ι w A.top fr) (hret : A.top.ret = true) (hfs : FRs P E ι w A.below cs) (hs : stepRet P A = some As) : Goes P B w0 ι base As (lone fr (cs ++ base) w) := by
  obtain ⟨b, a, ct, V, g⟩ := hf
  have hfr := g.frame
  rw [hret, if_pos rfl] at hfr
  subst hfr
  obtain ⟨hV, hits⟩ := g.ret hret
  have hdef := g.defs
  unfold stepRet at hs
  cases hd : A.top.defers with
  | cons d ds =>
    rw [hd] at hs hdef
    simp only at hs
    split at hs
    · cases hs
    · rename_i hok
      have hok : apartOk A.H (stackPend A.below) [d] = true := by simpa using hok
      split at hs
      · rename_i hg
        simp only [Option.some.injEq] at hs; subst hs
        cases hda : a.defers with
        | nil => rw [hda] at hdef; exact hdef.elim
        | cons c cs' =>
          rw [hda] at hdef
          obtain ⟨⟨e, he, rfl⟩, hrest⟩ := hdef
          obtain ⟨e', he', hr⟩ := hh.obj d _ hg
          rw [he] at he'; injection he' with he'; subst he'
          generalize hob : w.heap[e.1]? = ob at hr
          cases hr with
          | there =>
            obtain ⟨h1, h2⟩ := loopPut hh hg rfl rfl he (.deferred false) (.deferred none) .gone hok
            have hrun : (Instr.takeDeferred e.1).run P w = .ok [] { w with heap := w.heap.setIfInBounds e.1 (.deferred none) } := by
              simp [Instr.takeDeferred, run_getObj hob, run_setObj hob]
            refine Goes.one (step_taken hda hrun) (MR.mk (A := ⟨_, _, _⟩) h1 ?_ (hfs.later (Ext.refl E) h2))
            exact ⟨b, ⟨a.tmps, cs'⟩, ct, V, by simp [hret], g.fn, g.kind, g.rnd, hrest, g.tm, by rw [hV]; exact todo_plain hits, fun _ => ⟨hV, hits⟩⟩
      · cases hs
  | nil =>
    rw [hd] at hs hdef
    cases hbel : A.below with
    | nil => rw [hbel] at hs; cases hs
    | cons c cs' =>
      rw [hbel] at hs hfs
      simp only [Option.bind_eq_some_iff, Option.map_eq_some_iff] at hs
      obtain ⟨v, hv, c', hc', rfl⟩ := hs
      have hda : a.defers = [] := by
        cases hda : a.defers with
        | nil => rfl
        | cons _ _ => rw [hda] at hdef; exact hdef.elim
      obtain ⟨fn, val, hfn, hcv, hrun⟩ := resultOf_ok hh (C := V) g.tm hv
      cases hfs with
      | @cons _ cf _ cfs hcf hcr hcfs =>
        obtain ⟨h1, h2⟩ := finish_ok hcf hcr hcv hc'
        refine Goes.one (M' := lone (cf.finish val) (cfs ++ base) w) ?_ (MR.mk hh h1 hcfs)
        refine step_leave_returned ⟨rfl, hda, g.kind, fn, ?_, ?_⟩
        · show P.funcs[b.fn]? = _
          rw [g.fn]; exact hfn
        · show (results fn a.tmps).run P w = _
          rw [hV]; exact hrun
end
end Go.Sx
