/- One step of the symbolic machine: code, regions, loops over functions. -/
import Derived.Test.YtlkjbijklgdocaaSxT
set_option linter.unusedSimpArgs false
set_option linter.unusedVariables false
namespace Go.Sx
open Go Go.RowKit
section
variable {P : Program} {E E' : Env} {ι : Nat → Value} {w w2 : World} {B : Nat} {w0 : World} {H : AH}
/-- A step that turns only what is to be done next. -/
theorem todo_step {base : List Frame} {A : AM} {cs : List Frame} {b : Frame} {a : Act} {ct ck : List Item} {V : Array Value} {k : List AIt} (hh : HR B w0 E ι A.H w) (g : FR P E ι w A.top (b.atR a ct) b a ct V) (hret : A.top.ret = false) (hV : a.tmps = V) (hfs : FRs P E ι w A.below cs)
    (hk : ItsR E k ck) (hs : step P (lone (b.atR a ct) (cs ++ base) w) = .next (lone (b.atR a ck) (cs ++ base) w)) : Goes P B w0 ι base [setTodo A k] (lone (b.atR a ct) (cs ++ base) w) :=
  Goes.one hs (MR.mk (A := setTodo A k) hh (FRel.todo hret g.fn g.kind g.rnd g.defs g.tm hV hk) hfs)
theorem enterA_ok (hh : HR B w0 E ι H w) {A : AM} (hAH : A.H = H) {V : Array Value} (ht : TMR E ι A.top.tm V) {fn : FuncId} (hfn : A.top.fn = fn) {ro : Option Nat} (hr : RndR E A.top.rnd ro) {defs : List Deferred} (hd : DefR E A.top.defers defs) {ps : Array Tmp} {as bd : Code} {l : Nat} {H' : AH} {dfs : List Nat} (h : enterA A ps as bd = some (l, H', dfs)) :
    ∃ lc mark w', (Instr.enterLoop fn V ps as bd ro).run P w = .ok (lc, mark) w' ∧ ∃ E', Ext E E' ∧ HR B w0 E' ι H' w' ∧ (∃ e, E'[l]? = some e ∧ e.1 = lc) ∧ DefR E' dfs (mark ++ defs) ∧ ∀ ns, Sheltered E ns w w' := by
  subst hAH
  unfold enterA at h
  cases hrn : A.top.rnd with
  | some l0 =>
    rw [hrn] at h hr
    simp only at h
    split at h
    · rename_i st j0 fn0 tm0 ps0 as0 bd0 d hg
      simp only [Option.some.injEq, Prod.mk.injEq] at h
      obtain ⟨rfl, rfl, rfl⟩ := h
      cases ro with
      | none => exact hr.elim
      | some b0 =>
        obtain ⟨e0, he0, rfl⟩ := hr
        obtain ⟨ed, C0, hC0, hed, hb⟩ := hh.loop' hg he0
        have hor : OR (E ++ [(w.heap.size, 0, 0)]) ι (.loop .ready none A.top.fn A.top.tm ps as bd d) (w.heap.size, 0, 0) (some (.loop { state := .ready, pending := none, fn := A.top.fn, tmps := V, params := ps, assign := as, body := bd, defers := ed.1 })) :=
          .loop (TMR_ext (Ext.app _ _) ht) (Ext.app _ _ _ _ hed)
        refine ⟨w.heap.size, [], _, ?_, _, Ext.app _ _, hh.new _ _ 0 hor, ⟨_, by rw [hh.nx]; exact get_app_self _, rfl⟩, hd.ext (Ext.app _ _), fun ns p _ e he => ?_⟩
        · simp only [Instr.enterLoop, Sem.run_bind, getLoop_run hb, Result.andThen_ok, Sem.run_pure, run_newObj, hfn]
        · show (w.heap.push _)[e.1]? = _
          rw [Array.getElem?_push, if_neg (by have := (hh.inb p e he).2; omega)]
    · cases h
  | none =>
    rw [hrn] at h hr
    simp only [Option.some.injEq, Prod.mk.injEq] at h
    obtain ⟨rfl, rfl, rfl⟩ := h
    cases ro with
    | some _ => exact hr.elim
    | none =>
      have h1 := hh.new (.deferred (some [])) (.deferred true) 0 .there
      generalize hE1 : E ++ [(w.heap.size, 0, 0)] = E1 at h1
      generalize hw1 : ({ w with heap := w.heap.push (.deferred (some [])) } : World) = w1 at h1
      have hx1 : Ext E E1 := by rw [← hE1]; exact Ext.app _ _
      have hd1 : E1[A.H.nx]? = some (w.heap.size, 0, 0) := by rw [← hE1, hh.nx]; exact get_app_self _
      have hor : OR (E1 ++ [(w1.heap.size, 0, 0)]) ι (.loop .ready none A.top.fn A.top.tm ps as bd A.H.nx) (w1.heap.size, 0, 0) (some (.loop { state := .ready, pending := none, fn := A.top.fn, tmps := V, params := ps, assign := as, body := bd, defers := w.heap.size })) :=
        .loop (ed := (w.heap.size, 0, 0)) (TMR_ext (hx1.trans (Ext.app _ _)) ht) (Ext.app _ _ _ _ hd1)
      have h2 := h1.new _ _ 0 hor
      refine ⟨w1.heap.size, [{ target := .collected w.heap.size, args := #[] }], _, ?_, _, hx1.trans (Ext.app _ _), h2, ⟨(w1.heap.size, 0, 0), ?_, rfl⟩, ⟨⟨_, Ext.app _ _ _ _ hd1, rfl⟩, hd.ext (hx1.trans (Ext.app _ _))⟩, fun ns p _ e he => ?_⟩
      · rw [← hw1]
        simp only [Instr.enterLoop, Sem.run_bind, Sem.run_pure, Result.andThen_ok, run_newObj, hfn]
      · have : A.H.nx + 1 = E1.length := by rw [← h1.nx]; rfl
        rw [this]; exact get_app_self _
      · show (w1.heap.push _)[e.1]? = _
        have hin := (hh.inb p e he).2
        rw [Array.getElem?_push, if_neg (by rw [← hw1]; simp; omega), ← hw1]
        show (w.heap.push _)[e.1]? = _
        rw [Array.getElem?_push, if_neg (by omega)]
theorem stepRange_ok (hP : Fine P) {base : List Frame} {A : AM} {As : List AM} {cs : List Frame} {b : Frame} {a : Act} {k : List AIt} {ck : List Item} {V : Array Value} {g0 : Operand} {ps : Array Tmp} {as bd : Code} (hh : HR B w0 E ι A.H w) (g : FR P E ι w A.top (b.atR a (.code (.rangeFunc g0 ps as bd) :: ck)) b a (.code (.rangeFunc g0 ps as bd) :: ck) V) (hret : A.top.ret = false) (hV : a.tmps = V) (hfs : FRs P E ι w A.below cs)
    (hk : ItsR E k ck) (hnp : framePend A.top = []) (hs : stepRange P A k g0 ps as bd = some As) : Goes P B w0 ι base As (lone (b.atR a (.code (.rangeFunc g0 ps as bd) :: ck)) (cs ++ base) w) := by
  unfold stepRange at hs
  split at hs
  · rename_i l H' dfs h first captured he hg
    split at hs
    · rename_i hb
      simp only [Option.map_eq_some_iff] at hs
      obtain ⟨fr, hfr, rfl⟩ := hs
      obtain ⟨lc, mark, w', hrun, E', hE, hh', hl, hdf, hsh⟩ := enterA_ok (P := P) hh rfl g.tm g.fn.symm g.rnd g.defs he
      have hev := opv_eval (E := E) (ι := ι) (a := ⟨V, []⟩) g.tm hg
      simp only [cv, Option.bind_eq_some_iff, Option.map_eq_some_iff] at hev
      obtain ⟨x, hx, y, hy, hev⟩ := hev
      obtain ⟨e, hel, rfl⟩ := hl
      have hargs : cvs E' ι (first ++ [.yld l] ++ captured) = some (x ++ [.func (.yield e.1) #[] #[]] ++ y) :=
        cvs_append (cvs_append (cvs_ext hE _ _ hx) (cvs_cons.2 ⟨_, [], by simp [cv, hel], cvs_nil, rfl⟩)) (cvs_ext hE _ _ hy)
      have hentr := enterFr_ok (w := w') hargs hfr
      unfold hasBody at hb
      split at hb
      · rename_i fn hfn
        have hname := hP.names h fn hfn
        have hbody : fn.body.isNone = false := by cases hq : fn.body <;> simp_all
        have hval : a.eval g0 = .func (.func h) x.toArray y.toArray := by rw [eval_tmps, hV]; exact hev.symm
        have hres : (resolve a.eval (rangeCall g0 e.1) 0).run P w' = .ok { target := .fn (.func h) y.toArray, args := x.toArray ++ #[.func (.yield e.1) #[] #[]] } w' := by
          simp only [resolve, rangeCall, hval, Deferred.ofValue]
          simp [Act.eval]
        have hinv : (invoke (.fn (.func h) y.toArray) (x.toArray ++ #[Value.func (.yield e.1) #[] #[]])).run P w' = .ok (.enter h (x ++ [Value.func (.yield e.1) #[] #[]] ++ y).toArray) w' := by
          simp only [invoke, callFunc, Sem.run_bind, run_program, Result.andThen_ok, hfn, hname, Bool.false_eq_true, if_false, hbody, Sem.run_pure]
          simp
        have hst := stepR_rangeFunc (P := P) (b := b) (a := a) (k := ck) (cs := cs ++ base) (w := w) (g := g0) (ps := ps) (assign := as) (body := bd) (by rw [hV]; exact hrun) hres hinv
        have hwait : FRel P E' ι w' { A.top with todo := .inRange l :: k, defers := dfs } (b.atR { a with defers := mark ++ a.defers } (.inRangeFunc e.1 :: ck)) :=
          ⟨b, { a with defers := mark ++ a.defers }, .inRangeFunc e.1 :: ck, V, by simp [hret], g.fn, g.kind, g.rnd.ext hE, hdf, TMR_ext hE g.tm, by rw [show (Act.mk a.tmps (mark ++ a.defers)).tmps = V from hV]; exact todo_plain (.cons (.inRange hel) (hk.ext hE)), fun hx => by rw [show A.top.ret = false from hret] at hx; cases hx⟩
        exact Goes.one hst (MR.mk (A := ⟨_, _, _⟩) (cs := _ :: cs) hh' hentr (.cons hwait hret (hfs.later hE (hsh _))))
      · cases hb
    · cases hs
  · cases hs
theorem stepCode_ok (hP : Fine P) (hι : Scalars ι) {base : List Frame} {A : AM} {As : List AM} {cs : List Frame} {b : Frame} {a : Act} {c : Code} {k : List AIt} {ck : List Item} {V : Array Value} (hh : HR B w0 E ι A.H w) (g : FR P E ι w A.top (b.atR a (.code c :: ck)) b a (.code c :: ck) V) (hret : A.top.ret = false) (hV : a.tmps = V) (hfs : FRs P E ι w A.below cs)
    (htodo : A.top.todo = .code c :: k) (hk : ItsR E k ck) (hs : stepCode P A k c = some As) : Goes P B w0 ι base As (lone (b.atR a (.code c :: ck)) (cs ++ base) w) := by
  have hits : ItsR E A.top.todo (.code c :: ck) := by rw [htodo]; exact .cons .code hk
  unfold stepCode at hs
  split at hs
  · exact leave_ok hι hh g hret hV hits hfs (.inr (.inl ⟨rfl, ck, rfl⟩)) hs
  · simp only [Option.some.injEq] at hs; subst hs; exact todo_step hh g hret hV hfs hk stepR_skip
  · simp only [Option.some.injEq] at hs; subst hs; exact todo_step hh g hret hV hfs hk stepR_label
  · simp only [Option.some.injEq] at hs; subst hs; exact todo_step hh g hret hV hfs (.cons .code (.cons .code hk)) stepR_seq
  · rename_i c0 x y
    split at hs
    · rename_i t ht
      simp only [Option.some.injEq] at hs; subst hs
      have hev := opv_eval (E := E) (ι := ι) (a := ⟨V, []⟩) g.tm ht
      simp only [cv, Option.some.injEq] at hev
      have hval : a.eval c0 = .bool t := by rw [eval_tmps, hV]; exact hev.symm
      exact todo_step hh g hret hV hfs (.cons .code hk) (stepR_cond hval)
    · cases hs
  · simp only [Option.some.injEq] at hs; subst hs; exact todo_step hh g hret hV hfs (.cons .code (.cons .inBlock hk)) stepR_block
  · simp only [Option.some.injEq] at hs; subst hs; exact todo_step hh g hret hV hfs (.cons .code (.cons .inLoop hk)) stepR_loop
  · rename_i id
    split at hs
    · rename_i k2 hx
      simp only [Option.some.injEq] at hs; subst hs
      obtain ⟨ck2, h1, h2⟩ := (exit_ok (id := id) hk).1 k2 hx
      exact todo_step hh g hret hV hfs h2 (stepR_exit h1)
    · rename_i hx
      exact leave_ok hι hh g hret hV hits hfs (.inr (.inr ⟨id, ck, rfl, rfl, (exit_ok (id := id) hk).2 hx⟩)) hs
  · rename_i id ops draw
    split at hs
    · rename_i hd
      subst hd
      split at hs
      · rename_i hsel
        simp only [Option.some.injEq] at hs; subst hs
        have hsel' : ∀ (j : Nat) (o : Oper) cs b, ops[j]? = some o → o.op ≠ .select cs b := fun j o cs b ho heq => by
          unfold selOk at hsel
          rw [List.all_eq_true] at hsel
          have := hsel o (by simpa using Array.mem_of_getElem? ho)
          simp [heq] at this
        refine Goes.one stepR_region_draw (MR.mk (A := setTodo A _) (hh.drew _) ?_ (hfs.later (Ext.refl E) (fun _ _ _ _ => rfl)))
        refine ⟨b, a, .inRegion ops (Region.schedule (P.follows .mixedOrders) ops (w.tape w.drawn (.order b.fn id))) :: ck, V, by simp [setTodo, hret], g.fn, g.kind, g.rnd, g.defs, g.tm, ?_, fun hx => by have hx' : A.top.ret = true := hx; rw [hret] at hx'; cases hx'⟩
        refine ⟨_, ck, fun _ => false, rfl, hk, ⟨hsel', fun h => h, fun i hi => (by cases hi), by rw [hP.mixed]; exact lin_schedule _, ?_⟩, trivial⟩
        rw [hV, mk_zero]
        exact .nil
      · cases hs
    · rename_i hd
      have hd : draw = false := by simpa using hd
      subst hd
      simp only [Option.some.injEq] at hs; subst hs
      refine todo_step hh g hret hV hfs (.cons ?_ hk) stepR_region
      have := ItR.reg (E := E) (ops := ops) (i := 0) (Nat.zero_le _)
      simpa [List.range_eq_range'] using this
  · refine stepRange_ok hP hh g hret hV hfs hk ?_ hs
    unfold framePend; rw [htodo]
  · cases hs
/-! ### A region in any order -/
theorem full_mask {n i : Nat} (h : i < n) : mk (2 ^ n - 1) i = true := by
  simp [mk, Nat.testBit_two_pow_sub_one, h]
theorem readyAll_sound {ops : Array Oper} {d : Nat} : ∀ (l : List Nat) (p i : Nat), (∀ j m, l[j]? = some m → ∃ o, ops[p + j]? = some o ∧ depMask o = m) → i ∈ readyAll d l p → Rdy ops (mk d) i
  | [], _, _, _, h => by simp [readyAll] at h
  | m :: r, p, i, hl, h => by
    unfold readyAll at h
    obtain ⟨o, ho, rfl⟩ := hl 0 m rfl
    have hrest : ∀ j m, r[j]? = some m → ∃ o, ops[p + 1 + j]? = some o ∧ depMask o = m := fun j m hj => by
      obtain ⟨o', h1, h2⟩ := hl (j + 1) m (by simpa using hj)
      exact ⟨o', by rw [← h1]; congr 1; omega, h2⟩
    cases hc : (!d.testBit p && Nat.beq (Nat.land (depMask o) d) (depMask o)) with
    | true =>
      rw [hc] at h
      simp only [cond_true] at h
      rcases List.mem_cons.1 h with rfl | h
      · exact (rdy_mask (by simpa using ho)).2 hc
      · exact readyAll_sound r (p + 1) i hrest h
    | false =>
      rw [hc] at h
      exact readyAll_sound r (p + 1) i hrest h
theorem anyFrame {A : AM} {b : Frame} {a2 : Act} {V : Array Value} {ops : Array Oper} {ok : Bool} {done pos : Nat} {pend : List (Nat × List Nat)} {k : List AIt} {ck : List Item} {l2 : List Nat} {L2 : Set'} (hret : A.top.ret = false) (hfn : b.fn = A.top.fn) (hk : b.kind = .normal) (hr : RndR E A.top.rnd b.roundOf) (hd : DefR E A.top.defers a2.defers) (ht : TMR E ι A.top.tm V)
    (hi : ItsR E k ck) (h : AnyR P E w ops ok done pend l2 a2.tmps V L2) : FRel P E ι w { A.top with todo := .any ops ok done pos pend none :: k } (b.atR a2 (.inRegion ops l2 :: ck)) :=
  ⟨b, a2, _, V, by simp [hret], hfn, hk, hr, hd, ht, ⟨l2, ck, L2, rfl, hi, h, trivial⟩, fun hx => by rw [show A.top.ret = false from hret] at hx; cases hx⟩
theorem anyEnd {base : List Frame} {A : AM} {cs : List Frame} {b : Frame} {a : Act} {V : Array Value} {ops : Array Oper} {ok : Bool} {done : Nat} {pend : List (Nat × List Nat)} {k : List AIt} {ck : List Item} {l : List Nat} {L : Set'} (hh : HR B w0 E ι A.H w) (hret : A.top.ret = false) (hfn : b.fn = A.top.fn) (hkd : b.kind = .normal) (hr : RndR E A.top.rnd b.roundOf) (hd : DefR E A.top.defers a.defers) (ht : TMR E ι A.top.tm V) (hfs : FRs P E ι w A.below cs)
    (hk : ItsR E k ck) (h : AnyR P E w ops ok done pend l a.tmps V L) (hdone : done = 2 ^ ops.size - 1) : Goes P B w0 ι base [setTodo A k] (lone (b.atR a (.inRegion ops l :: ck)) (cs ++ base) w) := by
  obtain ⟨l2, a2, L2, hst, hdf, h2, hor⟩ := catchUp (b := b) (k' := ck) (cs := cs ++ base) l a L h
  refine Goes.steps hst ?_
  rcases hor with ⟨rfl, hV⟩ | ⟨i, l', rfl, hi⟩
  · exact Goes.one stepR_region_end (MR.mk (A := setTodo A k) hh (FRel.todo hret hfn hkd hr (by rw [hdf]; exact hd) ht hV hk) hfs)
  · obtain ⟨_, o, ho, _⟩ := h2.lin.1
    rw [hdone, full_mask (Array.getElem?_eq_some_iff.1 ho).1] at hi
    cases hi
theorem anyNext_ok (hP : Fine P) (hι : Scalars ι) {base : List Frame} {A : AM} {As : List AM} {cs : List Frame} {b : Frame} {a : Act} {V : Array Value} {ops : Array Oper} {ok : Bool} {done pos : Nat} {pend : List (Nat × List Nat)} {k : List AIt} {ck : List Item} {l : List Nat} {L : Set'} (hh : HR B w0 E ι A.H w) (hret : A.top.ret = false) (hfn : b.fn = A.top.fn) (hkd : b.kind = .normal) (hr : RndR E A.top.rnd b.roundOf) (hd : DefR E A.top.defers a.defers) (ht : TMR E ι A.top.tm V) (hfs : FRs P E ι w A.below cs)
    (hk : ItsR E k ck) (h : AnyR P E w ops ok done pend l a.tmps V L) (hs : anyNext P A k ops ok done pos pend = some As) : Goes P B w0 ι base As (lone (b.atR a (.inRegion ops l :: ck)) (cs ++ base) w) := by
  unfold anyNext at hs
  split at hs
  · cases hb : Nat.beq done (2 ^ ops.size - 1) with
    | false => rw [hb] at hs; cases hs
    | true =>
      rw [hb] at hs
      simp only [cond_true, Option.some.injEq] at hs; subst hs
      exact anyEnd hh hret hfn hkd hr hd ht hfs hk h (Nat.eq_of_beq_eq_true hb)
  · rename_i hne
    generalize hcand : readyAll done (depMasks ops) 0 = cand at hs hne
    obtain ⟨l2, a2, L2, hst, hdf, h2, hor⟩ := catchUp (b := b) (k' := ck) (cs := cs ++ base) l a L h
    refine Goes.steps hst ?_
    have spec : ∀ j m, (depMasks ops)[j]? = some m → ∃ o, ops[0 + j]? = some o ∧ depMask o = m := fun j m hj => by
      rw [masks_get] at hj
      obtain ⟨o, h1, h2⟩ := Option.map_eq_some_iff.1 hj
      exact ⟨o, by rw [Nat.zero_add]; exact h1, h2⟩
    rcases hor with ⟨rfl, hV⟩ | ⟨i, l', rfl, hi⟩
    · -- nothing is left: so nothing may come up
      exfalso
      cases cand with
      | nil => exact hne rfl
      | cons x xs =>
        have hx := readyAll_sound (d := done) (depMasks ops) 0 x spec (by rw [hcand]; simp)
        obtain ⟨hD, _⟩ := h2.ah.done h2.lin
        rw [hD] at hx
        exact h2.lin x hx
    · have hrd := h2.lin.1
      obtain ⟨hLi, o, ho, he⟩ := id hrd
      have hilt := (Array.getElem?_eq_some_iff.1 ho).1
      have hrD : Rdy ops (mk done) i := ⟨hi, o, ho, fun e hm hb => h2.ah.sub (he e hm hb)⟩
      have hmem : i ∈ cand := by
        rw [← hcand]
        exact readyAll_ok (depMasks ops) 0 i spec hrD (Nat.zero_le _) (by simp [depMasks]; exact hilt)
      obtain ⟨li, hli, hsub⟩ := catAll_mem _ As hs _ (List.mem_map.2 ⟨i, hmem, rfl⟩)
      rw [opAt_eq, ho] at hli
      simp only [Option.bind_some] at hli
      -- the frame that waits at operation i
      have hpend : AnyR P E w ops ok done (pend.filter fun p => !(ancOf ops i).testBit p.1) (i :: l') a2.tmps V L2 :=
        ⟨h2.sel, h2.ok_, h2.closed, h2.lin, h2.ah.weaken fun j bb hLj ⟨ns, hm, n, hn, e, he', hb⟩ => ⟨ns, List.mem_filter.2 ⟨hm, by
          have : (ancOf ops i).testBit j = false := by
            cases hx : (ancOf ops i).testBit j with
            | false => rfl
            | true => rw [ancOf_ok h2.closed hrd hx] at hLj; cases hLj
          simp [this]⟩, n, hn, e, he', hb⟩⟩
      have hev := (hpend.ah.step hpend.sel ho hrd).1 hi
      have g : FR P E ι w { A.top with todo := .any ops ok done pos (pend.filter fun p => !(ancOf ops i).testBit p.1) (some i) :: k } (b.atR a2 (.inRegion ops (i :: l') :: ck)) b a2 (.inRegion ops (i :: l') :: ck) V :=
        ⟨by simp [hret], hfn, hkd, hr, by rw [hdf]; exact hd, ht, ⟨i :: l', ck, L2, rfl, hk, hpend, ⟨l', rfl⟩, hi⟩, fun hx => by rw [show A.top.ret = false from hret] at hx; cases hx⟩
      obtain ⟨A', hA', M', hM⟩ := aOper_ok hP hι (base := base) hh g hret hfs ho (by rw [eval_tmps]; exact hev.1.1.symm) hev.1.2.symm hli
      exact ⟨A', hsub A' hA', M', hM⟩
theorem addPend_ok {i : Nat} {ns : List Nat} {pend : List (Nat × List Nat)} : ∀ n ∈ ns, ∃ ms, (i, ms) ∈ addPend i ns pend ∧ n ∈ ms := fun n hn => by
  cases ns with
  | nil => cases hn
  | cons a r => exact ⟨a :: r, by simp [addPend], hn⟩
theorem addPend_sub {i : Nat} {ns : List Nat} {pend : List (Nat × List Nat)} {x : Nat × List Nat} (h : x ∈ pend) : x ∈ addPend i ns pend := by
  cases ns with
  | nil => exact h
  | cons a r => simp [addPend, h]
theorem ahead_ok (hι : Scalars ι) {base : List Frame} {A : AM} {As : List AM} {cs : List Frame} {b : Frame} {a : Act} {V : Array Value} {ops : Array Oper} {done : Nat} {pend : List (Nat × List Nat)} {k : List AIt} {ck : List Item} {l : List Nat} {L : Set'} {i : Nat} (hh : HR B w0 E ι A.H w) (hret : A.top.ret = false) (hfn : b.fn = A.top.fn) (hkd : b.kind = .normal) (hr : RndR E A.top.rnd b.roundOf) (hd : DefR E A.top.defers a.defers) (ht : TMR E ι A.top.tm V) (hfs : FRs P E ι w A.below cs)
    (hk : ItsR E k ck) (h : AnyR P E w ops true done pend l a.tmps V L) (hi : Rdy ops (mk done) i) (hs : ahead P A k ops done pend i = some As) : Goes P B w0 ι base As (lone (b.atR a (.inRegion ops l :: ck)) (cs ++ base) w) := by
  unfold ahead at hs
  simp only [Option.bind_eq_some_iff] at hs
  obtain ⟨o, ho, hs⟩ := hs
  rw [opAt_eq] at ho
  have hfree := regOk_free (h.ok_ rfl) hi
  have hnotF : ∀ (x : Bool), (A.top.ret = true) → x = true := fun x hx => by rw [hret] at hx; cases hx
  split at hs
  · rename_i hw
    simp only [Option.some.injEq] at hs; subst hs
    have hwv := aWanted_ok ht hw
    have hu : cv E ι (.tuple []) = some undef := by simp [cv, cvs, undef]
    have hrel : FRel P E ι w { A.top with tm := aPut A.top.tm o.dst (.tuple []), todo := .any ops true (done ||| 2 ^ i) (i + 1) pend none :: k } (b.atR a (.inRegion ops l :: ck)) := by
      refine ⟨b, a, .inRegion ops l :: ck, ((⟨V, []⟩ : Act).put o.dst undef).tmps, by simp [hret], hfn, hkd, hr, hd, aPut_ok (a := ⟨V, []⟩) ht hu _, ?_, fun hx => by rw [show A.top.ret = false from hret] at hx; cases hx⟩
      refine ⟨l, ck, L, rfl, hk, ⟨h.sel, h.ok_, h.closed, h.lin, ?_⟩, trivial⟩
      rw [mk_or, ← act_put]
      exact .take h.ah hi hfree ho (.inr ⟨hwv, rfl⟩)
    exact ⟨_, List.mem_singleton.2 rfl, _, Steps.refl _ _, MR.mk (A := ⟨_, _, _⟩) hh hrel hfs⟩
  · rename_i hw
    split at hs
    · rename_i v ns hE
      simp only [Option.some.injEq] at hs; subst hs
      have hwv := aWanted_ok ht hw
      have hρ : Opv E ι A.top.tm (⟨V, []⟩ : Act).eval := fun x v hx => opv_eval (a := ⟨V, []⟩) ht hx
      obtain ⟨c, hc, hrun⟩ := aEarly_ok hι hh hρ (o := o) hE
      have hrel : FRel P E ι w { A.top with tm := aPut A.top.tm o.dst v, todo := .any ops true (done ||| 2 ^ i) (i + 1) (addPend i ns pend) none :: k } (b.atR a (.inRegion ops l :: ck)) := by
        refine ⟨b, a, .inRegion ops l :: ck, ((⟨V, []⟩ : Act).put o.dst c).tmps, by simp [hret], hfn, hkd, hr, hd, aPut_ok (a := ⟨V, []⟩) ht hc _, ?_, fun hx => by rw [show A.top.ret = false from hret] at hx; cases hx⟩
        refine ⟨l, ck, L, rfl, hk, ⟨h.sel, h.ok_, h.closed, h.lin, ?_⟩, trivial⟩
        rw [mk_or, ← act_put]
        refine .take (h.ah.more fun j bb ⟨ms, hm, n, hn, e, he', hb⟩ => ⟨ms, addPend_sub hm, n, hn, e, he', hb⟩) hi hfree ho (.inl ⟨hwv, fun w' hw' => hrun w' fun n hn e he => ?_⟩)
        obtain ⟨ms, hm, hnm⟩ := addPend_ok (i := i) (pend := pend) n hn
        exact hw' e.1 ⟨ms, hm, n, hnm, e, he, rfl⟩
      exact ⟨_, List.mem_singleton.2 rfl, _, Steps.refl _ _, MR.mk (A := ⟨_, _, _⟩) hh hrel hfs⟩
    · simp only [Option.some.injEq] at hs; subst hs
      exact ⟨_, List.mem_singleton.2 rfl, _, Steps.refl _ _, MR.mk (A := setTodo A _) hh (anyFrame hret hfn hkd hr hd ht hk h) hfs⟩
  · cases hs
theorem stepAny_ok (hP : Fine P) (hι : Scalars ι) {base : List Frame} {A : AM} {As : List AM} {cs : List Frame} {b : Frame} {a : Act} {V : Array Value} {ops : Array Oper} {ok : Bool} {done pos : Nat} {pend : List (Nat × List Nat)} {k : List AIt} {ck : List Item} {l : List Nat} {L : Set'} (hh : HR B w0 E ι A.H w) (hret : A.top.ret = false) (hfn : b.fn = A.top.fn) (hkd : b.kind = .normal) (hr : RndR E A.top.rnd b.roundOf) (hd : DefR E A.top.defers a.defers) (ht : TMR E ι A.top.tm V) (hfs : FRs P E ι w A.below cs)
    (hk : ItsR E k ck) (h : AnyR P E w ops ok done pend l a.tmps V L) (hs : stepAny P A k ops ok done pos pend = some As) : Goes P B w0 ι base As (lone (b.atR a (.inRegion ops l :: ck)) (cs ++ base) w) := by
  unfold stepAny at hs
  cases hb : Nat.beq done (2 ^ ops.size - 1) with
  | true =>
    rw [hb] at hs
    simp only [cond_true, Option.some.injEq] at hs; subst hs
    exact anyEnd hh hret hfn hkd hr hd ht hfs hk h (Nat.eq_of_beq_eq_true hb)
  | false =>
    rw [hb] at hs
    simp only [cond_false] at hs
    cases ok with
    | false => exact anyNext_ok hP hι hh hret hfn hkd hr hd ht hfs hk h hs
    | true =>
      simp only [cond_true] at hs
      split at hs
      · rename_i i hi
        exact ahead_ok hι hh hret hfn hkd hr hd ht hfs hk h (readyFrom_ok _ pos i (masks_spec ops pos) hi) hs
      · exact anyNext_ok hP hι hh hret hfn hkd hr hd ht hfs hk h hs
end
end Go.Sx
