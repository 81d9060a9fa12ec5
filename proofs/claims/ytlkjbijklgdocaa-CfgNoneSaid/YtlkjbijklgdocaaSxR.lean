/- One step of the symbolic machine is some steps of the machine. -/
import Derived.Test.YtlkjbijklgdocaaSxQ
set_option linter.unusedSimpArgs false
set_option linter.unusedVariables false
namespace Go.Sx
open Go Go.RowKit
section
variable {P : Program} {E E' : Env} {ι : Nat → Value} {w w2 : World} {B : Nat} {w0 : World}
/-- The symbolic machine says of the machine what it is. -/
def MR (P : Program) (B : Nat) (w0 : World) (ι : Nat → Value) (base : List Frame) (A : AM) (M : Machine) : Prop :=
  ∃ E w fr cs, M = lone fr (cs ++ base) w ∧ HR B w0 E ι A.H w ∧ FRel P E ι w A.top fr ∧ FRs P E ι w A.below cs
theorem MR.mk {base : List Frame} {A : AM} {fr : Frame} {cs : List Frame} (h1 : HR B w0 E ι A.H w) (h2 : FRel P E ι w A.top fr) (h3 : FRs P E ι w A.below cs) : MR P B w0 ι base A (lone fr (cs ++ base) w) := ⟨E, w, fr, cs, rfl, h1, h2, h3⟩

/-! ### An operation in the machine -/
theorem aEarly_nodefer {H : AH} {tm : TM} {o : Oper} {r : AV × List Nat} (h : aEarly P H tm o.op = some r) : ∀ c, o.op ≠ .defer c := fun c e => by rw [e] at h; simp [aEarly] at h
theorem aW_nodefer {H : AH} {tm : TM} {o : Oper} {r : List AR} (h : aW P H tm o.op = some r) : ∀ c, o.op ≠ .defer c := fun c e => by rw [e] at h; simp [aW] at h
section steps
variable {b : Frame} {a : Act} {k : List Item} {cs : List Frame} {ops : Array Oper} {i : Nat} {rest : List Nat} {o : Oper} {w' : World}
theorem op_value (ho : ops[i]? = some o) (hw : Region.wanted o (yielded ops a.tmps) = true) (hd : ∀ c, o.op ≠ .defer c) {v : Value} (hr : (execOp a.eval o).run P w = .ok (.value v) w') :
    step P (lone (b.atR a (.inRegion ops (i :: rest) :: k)) cs w) = .next (lone ((b.atR a (.inRegion ops (i :: rest) :: k)).finish v) cs w') :=
  step_lone_go (by rw [stepGR_op ho hw, Oper.semAt_eq _ _ _ hd]; simp [stepG.apply, hr])
theorem op_skip (ho : ops[i]? = some o) (hw : Region.wanted o (yielded ops a.tmps) = true) (hd : ∀ c, o.op ≠ .defer c) (hr : (execOp a.eval o).run P w = .ok .skip w') :
    step P (lone (b.atR a (.inRegion ops (i :: rest) :: k)) cs w) = .next (lone ((b.atR a (.inRegion ops (i :: rest) :: k)).finish undef) cs w') :=
  step_lone_go (by rw [stepGR_op ho hw, Oper.semAt_eq _ _ _ hd]; simp [stepG.apply, hr])
theorem op_enter (ho : ops[i]? = some o) (hw : Region.wanted o (yielded ops a.tmps) = true) (hd : ∀ c, o.op ≠ .defer c) {f : FuncId} {args : Array Value} (hr : (execOp a.eval o).run P w = .ok (.enter f args) w') :
    step P (lone (b.atR a (.inRegion ops (i :: rest) :: k)) cs w) = .next (lone (Frame.enter P f args .normal) (b.atR a (.inRegion ops (i :: rest) :: k) :: cs) w') :=
  step_lone_go (by rw [stepGR_op ho hw, Oper.semAt_eq _ _ _ hd]; simp [stepG.apply, hr, Frame.atR])
theorem op_round (ho : ops[i]? = some o) (hw : Region.wanted o (yielded ops a.tmps) = true) (hd : ∀ c, o.op ≠ .defer c) {l : Nat} {f : FuncId} {tmps : Array Value} {x y : Code} (hr : (execOp a.eval o).run P w = .ok (.round l f tmps x y) w') :
    step P (lone (b.atR a (.inRegion ops (i :: rest) :: k)) cs w) = .next (lone (Frame.round l f tmps x y .normal) (b.atR a (.inRegion ops (i :: rest) :: k) :: cs) w') :=
  step_lone_go (by rw [stepGR_op ho hw, Oper.semAt_eq _ _ _ hd]; simp [stepG.apply, hr, Frame.atR])
theorem op_unwanted (ho : ops[i]? = some o) (hw : Region.wanted o (yielded ops a.tmps) = false) :
    step P (lone (b.atR a (.inRegion ops (i :: rest) :: k)) cs w) = .next (lone ((b.atR a (.inRegion ops (i :: rest) :: k)).finish undef) cs w) := by
  rw [Frame.finish_atR]
  exact stepR_op_skip (by rw [ho]; simpa using hw)
end steps
theorem YOn.step {b : Frame} {a : Act} {k : List Item} {cs : List Frame} {ops : Array Oper} {i : Nat} {rest : List Nat} {o : Oper} {v : Value} {bs : Nat → Prop} (h : YOn P ops w o v a bs) (ho : ops[i]? = some o) (hd : ∀ c, o.op ≠ .defer c) :
    step P (lone (b.atR a (.inRegion ops (i :: rest) :: k)) cs w) = .next (lone ((b.atR a (.inRegion ops (i :: rest) :: k)).finish v) cs w) := by
  rcases h with ⟨h1, h2⟩ | ⟨h1, rfl⟩
  · exact op_value ho h1 hd (h2 w fun _ _ => rfl)
  · exact op_unwanted ho h1

/-! ### What is wanted -/
theorem aWanted_ok {tm : TM} {V : Array Value} (ht : TMR E ι tm V) {ops : Array Oper} {o : Oper} {x : Bool} (h : aWanted ops tm o = some x) : Region.wanted o (yielded ops V) = x := by
  unfold aWanted at h
  unfold Region.wanted
  cases hg : o.guard with
  | none => rw [hg] at h; simpa using h
  | some gw =>
    obtain ⟨j, want⟩ := gw
    rw [hg] at h
    simp only at h ⊢
    have hop : opAt ops j = ops[j]? := by simp [opAt]
    rw [hop] at h
    cases hd : (ops[j]?).bind (·.dst) with
    | none =>
      rw [hd] at h
      simp only [Option.some.injEq] at h
      subst h
      simp [yielded, hd]
    | some d =>
      rw [hd] at h
      simp only at h
      have hv := ht.2 d
      unfold yielded
      rw [hd]
      simp only [Option.bind_some]
      cases hx : V[d]? with
      | none =>
        have hun : V.getD d undef = undef := by simp [Array.getD_eq_getD_getElem?, hx]
        rw [hun] at hv
        split at h
        · rename_i b hb; rw [hb] at hv; simp [cv, undef] at hv
        · cases h
        · simp only [Option.some.injEq] at h; subst h; simp
      | some y =>
        have hy : V.getD d undef = y := by simp [Array.getD_eq_getD_getElem?, hx]
        rw [hy] at hv
        split at h
        · rename_i b hb
          rw [hb] at hv
          simp only [cv, Option.some.injEq] at hv
          simp only [Option.some.injEq] at h
          subst hv h
          cases b <;> cases want <;> rfl
        · cases h
        · rename_i hn1 hn2
          simp only [Option.some.injEq] at h
          subst h
          have : ∀ b, y ≠ .bool b := by
            rintro b rfl
            cases hq : tm.get d <;> rw [hq] at hv <;> simp [cv, Option.bind_eq_some_iff, Option.map_eq_some_iff] at hv
            · exact hn1 _ hq
            · exact hn2 _ hq
          cases y <;> first | rfl | exact absurd rfl (this _)

/-! ### A frame goes on with a value -/
theorem aPut_ok {tm : TM} {a : Act} (h : TMR E ι tm a.tmps) {v : AV} {c : Value} (hv : cv E ι v = some c) (d : Option Tmp) : TMR E ι (aPut tm d v) (a.put d c).tmps := by
  cases d with
  | none => exact h
  | some d => exact TMR_set h hv d
theorem opAt_eq (ops : Array Oper) (i : Nat) : opAt ops i = ops[i]? := by simp [opAt]
theorem put_tmps (a : Act) (d : Option Tmp) (v : Value) : (a.put d v).tmps = ((⟨a.tmps, []⟩ : Act).put d v).tmps := by cases d <;> rfl
theorem put_defers (a : Act) (d : Option Tmp) (v : Value) : (a.put d v).defers = a.defers := by cases d <;> rfl
theorem act_put (C : Array Value) (d : Option Tmp) (v : Value) : (⟨C, []⟩ : Act).put d v = ⟨((⟨C, []⟩ : Act).put d v).tmps, []⟩ := by cases d <;> rfl
theorem finish_ok {c c' : AFr} {fr : Frame} (h : FRel P E ι w c fr) (hret : c.ret = false) {v : AV} {val : Value} (hv : cv E ι v = some val) (hf : c.finish v = some c') : FRel P E ι w c' (fr.finish val) ∧ c'.ret = false := by
  obtain ⟨b, a, ct, V, g⟩ := h
  have gf := g.frame
  rw [hret] at gf
  simp only [Bool.false_eq_true, if_false] at gf
  have gt := g.todo
  unfold AFr.finish at hf
  split at hf
  · rename_i ops i o r k ht
    rw [ht] at gt
    obtain ⟨hV, hits⟩ := gt
    cases hits with
    | @cons _ _ _ kk hit hk =>
      generalize hre : (o :: r) = rr at hit
      cases hit with
      | reg hi =>
        have hlt : i < ops.size := by
          rcases Nat.lt_or_ge i ops.size with h | h
          · exact h
          · rw [List.drop_eq_nil_of_le (by simpa using h)] at hre; cases hre
        have hdrop : ops.toList.drop i = ops.toList[i]'(by simpa using hlt) :: ops.toList.drop (i + 1) := List.drop_eq_getElem_cons (by simpa using hlt)
        rw [hdrop] at hre
        injection hre with ho hr
        have hoi : ops[i]? = some o := by rw [Array.getElem?_eq_getElem hlt, ho]; simp
        have hrange : List.range' i (ops.size - i) = i :: List.range' (i + 1) (ops.size - (i + 1)) := by
          rw [show ops.size - i = (ops.size - (i + 1)) + 1 by omega, List.range'_succ]
        rw [hrange] at gf
        simp only [Option.some.injEq] at hf
        subst hf
        refine ⟨⟨b, a.put o.dst val, .inRegion ops (List.range' (i + 1) (ops.size - (i + 1))) :: kk, (a.put o.dst val).tmps, ?_⟩, hret⟩
        refine ⟨?_, g.fn, g.kind, g.rnd, by rw [put_defers]; exact g.defs, aPut_ok (by rw [hV]; exact g.tm) hv _, ⟨rfl, .cons (by rw [hr]; exact .reg (by omega)) hk⟩, fun hx => by rw [show c.ret = false from hret] at hx; cases hx⟩
        simp only [hret, Bool.false_eq_true, if_false]
        rw [gf, Frame.finish_atR, hoi]
        rfl
  · rename_i ops ok done pos pend i k ht
    rw [ht] at gt
    obtain ⟨l, k', L, rfl, hk, ha, ⟨l', rfl⟩, hdi⟩ := gt
    simp only [Option.some.injEq] at hf
    subst hf
    have hr := ha.lin.1
    obtain ⟨_, o, ho, _⟩ := id hr
    have hst := (ha.ah.step ha.sel ho hr).1 hdi
    refine ⟨⟨b, a.put o.dst val, .inRegion ops l' :: k', ((⟨V, []⟩ : Act).put o.dst val).tmps, ?_⟩, hret⟩
    refine ⟨?_, g.fn, g.kind, g.rnd, by rw [put_defers]; exact g.defs, ?_, ?_, fun hx => by rw [hret] at hx; cases hx⟩
    · simp only [hret, Bool.false_eq_true, if_false]
      rw [gf, Frame.finish_atR, ho]
      rfl
    · rw [opAt_eq, ho]
      exact aPut_ok (a := ⟨V, []⟩) g.tm hv _
    · refine ⟨l', k', upd L i, rfl, hk, ⟨ha.sel, ha.ok_, ha.closed.upd hr, ha.lin.2, ?_⟩, trivial⟩
      have h2 := hst.2 val
      rw [mk_or, put_tmps, ← act_put, ← act_put]
      exact h2
  · rename_i l k ht
    rw [ht] at gt
    obtain ⟨hV, hits⟩ := gt
    cases hits with
    | @cons _ _ _ kk hit hk =>
      cases hit with
      | @inRange _ e he =>
        simp only [Option.some.injEq] at hf
        subst hf
        refine ⟨⟨b, a, .endRangeFunc e.1 :: kk, V, ?_⟩, hret⟩
        refine ⟨?_, g.fn, g.kind, g.rnd, g.defs, g.tm, ⟨hV, .cons (.endRange he) hk⟩, fun hx => by rw [show c.ret = false from hret] at hx; cases hx⟩
        simp only [hret, Bool.false_eq_true, if_false]
        rw [gf, finish_atR_inRangeFunc]
  · cases hf

/-! ### An operation, carried out -/
theorem sheltered_of {H : AH} {ns touched : List Nat} (hh : HR B w0 E ι H w) (hok : apartOk H ns touched = true) (ht : Touch E (touched.take 1) w w2) : Sheltered E ns w w2 := fun p hp e he => by
  have hin := hh.inb p e he
  unfold apartOk at hok
  rw [Bool.or_eq_true] at hok
  rcases hok with hok | hok
  · have : ns = [] := by simpa using hok
    subst this; cases hp
  · cases touched with
    | nil => exact ht e.1 hin.2 (fun m hm => by cases hm)
    | cons n r =>
      simp only at hok
      rw [Bool.and_eq_true] at hok
      obtain ⟨h1, h2⟩ := hok
      cases hg : H.get n with
      | none => rw [hg] at h1; cases h1
      | some o =>
        rw [hg] at h1
        simp only [Bool.and_eq_true, Bool.not_eq_true'] at h1
        obtain ⟨hv, hold⟩ := h1
        rw [List.all_eq_true] at h2
        have h3 := h2 p hp
        simp only [Bool.and_eq_true, Bool.not_eq_true', Option.isSome_iff_exists] at h3
        obtain ⟨hnc, op, hop⟩ := h3
        refine ht e.1 hin.2 fun m hm em hem heq => ?_
        simp only [List.take_succ_cons, List.take_zero, List.mem_singleton] at hm
        subst hm
        have hpm : p ≠ m := fun h => by subst h; simp at hnc
        have := (hh.sep m p o op em e hg hop (Ne.symm hpm) hem he heq).2 hv
        rw [this] at hold
        simp only at hold
        have : (m :: r).contains p = true := by simpa using hold
        rw [this] at hnc
        cases hnc
theorem setAll_ok : ∀ (as : List AV) (cs : List Value) (tm : TM) (C : Array Value) (i : Nat), TMR E ι tm C → cvs E ι as = some cs → i + as.length ≤ C.size → TMR E ι (setAll tm i as) (seg C i cs)
  | [], cs, tm, C, i, h, hc, _ => by
    rw [cvs_nil] at hc; injection hc with hc; subst hc
    exact h
  | a :: as, cs, tm, C, i, h, hc, hl => by
    obtain ⟨x, y, h1, h2, rfl⟩ := cvs_cons.1 hc
    unfold setAll seg
    exact setAll_ok as y _ _ (i + 1) (TMR_set h h1 i) h2 (by simp at hl ⊢; omega)
theorem enterFr_ok {f : FuncId} {args : List AV} {cs : List Value} (hc : cvs E ι args = some cs) {fr : AFr} (h : enterFr P f args = some fr) : FRel P E ι w fr (Frame.enter P f cs.toArray .normal) := by
  unfold enterFr at h
  split at h
  · rename_i fn hfn
    split at h
    · rename_i c hbody
      simp only [Option.some.injEq] at h
      subst h
      have hlen := (cvs_get hc).1
      let C0 : Array Value := Array.replicate (if args.length < fn.ntmps then fn.ntmps else args.length) undef
      have h0 : TMR E ι (⟨.leaf, if args.length < fn.ntmps then fn.ntmps else args.length⟩ : TM) C0 := by
        refine ⟨by simp [C0], fun i => ?_⟩
        have e1 : (⟨.leaf, if args.length < fn.ntmps then fn.ntmps else args.length⟩ : TM).get i = .tuple [] := by simp [TM.get, Tr.get_leaf]
        rw [e1]
        have e2 : C0.getD i undef = undef := by
          simp only [C0, Array.getD_eq_getD_getElem?, Array.getElem?_replicate]
          split <;> (first | rfl | (split <;> rfl))
        rw [e2]
        simp [cv, cvs, undef]
      have h1 := setAll_ok args cs _ _ 0 h0 hc (by simp [C0]; split <;> omega)
      have harr : seg C0 0 cs = cs.toArray ++ Array.replicate (fn.ntmps - cs.toArray.size) undef := by
        apply Array.ext_getElem?
        intro i
        rw [seg_get _ _ _ _ (by simp [C0]; split <;> omega)]
        rw [Array.getElem?_append]
        by_cases hi : i < cs.length
        · rw [if_pos ⟨by omega, by omega⟩, if_pos (by simpa using hi)]
          simp
        · rw [if_neg (by omega), if_neg (by simpa using hi)]
          simp only [C0, Array.getElem?_replicate, List.size_toArray]
          by_cases h2 : args.length < fn.ntmps
          · rw [if_pos h2]
            by_cases h3 : i < fn.ntmps
            · rw [if_pos h3, if_pos (by omega)]
            · rw [if_neg h3, if_neg (by omega)]
          · rw [if_neg h2, if_neg (by omega), if_neg (by omega)]
      let b : Frame := { (default : Frame) with fn := f, kind := .normal, roundOf := none }
      refine ⟨b, ⟨seg C0 0 cs, []⟩, [.code c], seg C0 0 cs, ?_⟩
      refine ⟨?_, rfl, rfl, trivial, trivial, h1, ⟨rfl, .cons .code .nil⟩, fun hx => by cases hx⟩
      simp only [Bool.false_eq_true, if_false]
      rw [harr]
      simp [Frame.enter, hfn, hbody, Frame.atR, b]
    · cases h
  · cases h
end
end Go.Sx
