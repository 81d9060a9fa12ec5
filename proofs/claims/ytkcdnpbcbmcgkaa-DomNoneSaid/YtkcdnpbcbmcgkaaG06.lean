/- The engine and the contracts, part 6. No condition beyond the hypotheses of each theorem. -/
import Derived.Test.YtkcdnpbcbmcgkaaG05
import Derived.KernelRfl
import Derived.Test.YtkcdnpbcbmcgkaaProg
/- Frames over parameters: temporaries that are not looked at, heads of loops. -/
set_option linter.unusedVariables false
set_option linter.unusedSimpArgs false
namespace Go.Sy
open Go Go.Sx Go.RowKit

def setL (tm : TM) : List (Nat × AV) → TM
  | [] => tm
  | x :: r => setL (tm.set x.1 x.2) r
def w (f : AFr) (tm : TM) : AFr := { f with tm := tm }
section
variable {P : Program} {w0 : World}
/-- All temporaries as parameters. -/
theorem Leads.head {K : AM → Prop} {fr : AFr} {b : List AFr} {H : AH} {tm : TM} (n : Nat) (hn : tm.n = n) (g : Leads P w0 K ⟨w fr (tz n tm.get), b, H⟩) : Leads P w0 K ⟨w fr tm, b, H⟩ := by
  refine Leads.tm (A := ⟨w fr tm, b, H⟩) (tm' := tz n tm.get) ?_ (fun i hi => ?_) (fun i hi => ?_) g
  · exact hn.symm
  · rw [tz_get, if_pos (by exact hi)]; rfl
  · rw [tz_get, if_neg (by have : n ≤ i := hi; omega)]
def frOf (P : Program) (f : FuncId) (args : List AV) : AFr := (enterFr P f args).getD default
/-- A contract out of what is left to be shown. -/
theorem Leads.retM {f : FuncId} {below : List AFr} {R : AV → AH → Prop} {A : AM} (h : Leads P w0 (RetK P f below R) A) (base : List Frame) (M : Machine) (hM : MR P noBase w0 noArgs base A M) : ∃ M', Steps P M M' ∧ RetM P w0 f below R base M' := by
  obtain ⟨A', M', hst, hMR, hK⟩ := h base M hM
  obtain ⟨E', w', fr', cs', rfl, hh, hf, hfs⟩ := hMR
  have hret := hK.ret
  have hpan := hK.pan
  have hdef := hK.defers
  rw [hK.below] at hfs
  obtain ⟨b, a, ct, V, g⟩ := hf
  obtain ⟨m, hm, hfr'⟩ := g.frame.2 hret
  rw [hpan] at hm
  have hm : m = .returning := hm
  subst hm
  have hk : b.kind = .normal := by rw [g.kind, hK.dfr]; rfl
  obtain ⟨hV, _⟩ := g.ret hret
  have hda : a.defers = [] := by
    have := g.defs
    rw [hdef] at this
    cases hx : a.defers with
    | nil => rfl
    | cons _ _ => rw [hx] at this; exact this.elim
  obtain ⟨v, hro, hRv⟩ := hK.val
  obtain ⟨fn, val, hfnn, hcv, hrun⟩ := resultOf_ok hh (C := V) g.tm hro
  refine ⟨_, hst, E', w', fr', cs', v, val, A'.H, rfl, hh, hfs, ?_, ?_, hcv, hRv⟩
  · rw [hfr']
    show b.fn = f
    rw [g.fn, hK.fn]
  · rw [hfr']
    refine ⟨rfl, hda, hk, fn, ?_, ?_⟩
    · show P.funcs[b.fn]? = _
      rw [g.fn]; exact hfnn
    · show (results fn a.tmps).run P w' = _
      rw [hV]; exact hrun
theorem Ret.mk {f : FuncId} {args : List AV} {H : AH} {W : Nat → Prop} {R : AV → AH → Prop} (h : ∀ below, Pok H W (stackPend below) → Leads P w0 (RetK P f below R) ⟨frOf P f args, below, H⟩) : Ret P w0 f args H W R := fun fr hfr below hp => by
  have : frOf P f args = fr := by unfold frOf; rw [hfr]; rfl
  rw [← this]; exact (h below hp).retM
theorem Ret.mono {f : FuncId} {args : List AV} {H : AH} {W : Nat → Prop} {R R' : AV → AH → Prop} (h : Ret P w0 f args H W R) (g : ∀ v H', R v H' → R' v H') : Ret P w0 f args H W R' := fun fr hfr below hp base M hM => by
  obtain ⟨M', s, E, w, frm, cs, v, c, H', h1, h2, h3, h4, h5, h6, h7⟩ := h fr hfr below hp base M hM
  exact ⟨M', s, E, w, frm, cs, v, c, H', h1, h2, h3, h4, h5, h6, g v H' h7⟩
/-- A stretch of a run: to where K goes on, or to the end. -/
theorem Leads.run (hP : Fine P) {f0 : FuncId} {below : List AFr} {Kr : AV → AH → Prop} {A : AM} {tr : Tc} (F : Nat) (hb : A.below = below) (h : trun P w0 f0 (Leads P w0 (RetK P f0 below Kr)) Kr F 0 [] A tr) : Leads P w0 (RetK P f0 below Kr) A :=
  (trun_ok hP F 0 [] A tr ⟨[], rfl, by rw [hb]; rfl⟩ h).bind fun B hB => by
    rcases hB with hB | hB
    · exact hB
    · exact .here hB
/-- The same, from within calls. -/
theorem Leads.runD (hP : Fine P) {f0 : FuncId} {below : List AFr} {Kr : AV → AH → Prop} {A : AM} {tr : Tc} (F : Nat) (fs : List AFr) (hb : A.below = fs ++ below) (h : trun P w0 f0 (Leads P w0 (RetK P f0 below Kr)) Kr F fs.length [] A tr) : Leads P w0 (RetK P f0 below Kr) A :=
  (trun_ok hP F fs.length [] A tr ⟨fs, rfl, hb⟩ h).bind fun B hB => by
    rcases hB with hB | hB
    · exact hB
    · exact .here hB
/-- A part of a function's code. -/
inductive Side where
  | l | r | a | b | i
/-- What is to be done from a place in a function's code on. -/
def todoW : Code → List Side → List AIt → List AIt
  | .loop c, [], k => .code c :: .inLoop c :: k
  | .seq a b, .l :: p, k => todoW a p (.code b :: k)
  | .seq _ b, .r :: p, k => todoW b p k
  | .cond _ a _, .a :: p, k => todoW a p k
  | .cond _ _ b, .b :: p, k => todoW b p k
  | .block id c, .i :: p, k => todoW c p (.inBlock id :: k)
  | .loop c, .i :: p, k => todoW c p (.inLoop c :: k)
  | c, _, k => .code c :: k
/-- The frame of a function at a place. -/
def hd (P : Program) (f : FuncId) (p : List Side) : AFr := { fn := f, tm := default, todo := (match P.funcs[f]? with | some fn => (match fn.body with | some c => todoW c p [] | none => []) | none => []), defers := [], ret := false, rnd := none }
end
end Go.Sy
/- The store of names: what is read behind what was written; rows, lists and maps over parameters. -/
set_option linter.unusedVariables false
set_option linter.unusedSimpArgs false
namespace Go.Sy
open Go Go.Sx Go.RowKit

/-- Names that are there are below the next one. -/
def Wf (H : AH) : Prop := ∀ n o, H.get n = some o → n < H.nx
section
variable {P : Program} {w0 : World}
theorem Leads.wf {K : AM → Prop} {top : AFr} {below : List AFr} {H : AH} (h : Wf H → Leads P w0 K ⟨top, below, H⟩) : Leads P w0 K ⟨top, below, H⟩ := fun base M hM => by
  obtain ⟨E, w, fr, cs, rfl, hh, q⟩ := hM
  refine h (fun n o ho => ?_) base _ ⟨E, w, fr, cs, rfl, hh, q⟩
  obtain ⟨e, he, _⟩ := hh.obj n o ho
  rw [hh.nx]
  exact (List.getElem?_eq_some_iff.1 he).1
end
section
variable {P : Program} {w0 : World}
/-- At a head, with what is looked at there. -/
theorem Leads.at {K : AM → Prop} {fr : AFr} {b : List AFr} {H : AH} {l : List AV} (L : List (Nat × AV)) (hL : tl l = setL (tz l.length (nthD l)) L) (g : ∀ z, Leads P w0 K ⟨w fr (setL (tz l.length z) L), b, H⟩) : Leads P w0 K ⟨w fr (tl l), b, H⟩ := by
  rw [hL]; exact g _
/-- A stretch of a run, what is left to be shown being told in full. -/
theorem Leads.go (hP : Fine P) {f0 : FuncId} {below : List AFr} {Kr : AV → AH → Prop} {A : AM} {tr : Tc} {F : Nat} {V : Prop} (h : trun P w0 f0 (Leads P w0 (RetK P f0 below Kr)) Kr F 0 [] A tr = V) (hb : A.below = below) (g : V) : Leads P w0 (RetK P f0 below Kr) A :=
  Leads.run hP F hb (h ▸ g)
end
theorem wrapI {x : Int} (h1 : -9223372036854775808 ≤ x) (h2 : x ≤ 9223372036854775807) : IntKind.wrap .i64 x = x := by
  have e : IntKind.wrap .i64 x = if x % 18446744073709551616 ≥ 9223372036854775808 then x % 18446744073709551616 - 18446744073709551616 else x % 18446744073709551616 := by
    unfold IntKind.wrap
    simp [IntKind.bits, IntKind.signed]
  rw [e]
  split <;> omega
theorem get_put (H : AH) (n m : Nat) (o : AObj) : (H.put n o).get m = if m = n then some o else H.get m := AH.get_put H n m o
theorem get_new (H : AH) (m : Nat) (o : AObj) : (H.new o).get m = if m = H.nx then some o else H.get m := AH.get_new H m o
theorem get_del (H : AH) (n m : Nat) : (H.del n).get m = if m = n then none else H.get m := AH.get_del H n m
theorem get_unold (H : AH) (old : Option Nat) (m : Nat) : (H.unold old).get m = if old = some m then none else H.get m := by
  cases old with
  | none => simp [AH.unold]
  | some x =>
    show (H.del x).get m = _
    rw [get_del]
    by_cases h : m = x
    · subst h; simp
    · rw [if_neg h, if_neg (by simpa using fun e => h e.symm)]
theorem get_write (H : AH) (n : Nat) (cs : List AV) (e : TypeId) (ex : Bool) (old : Option Nat) (m : Nat) : (H.write n cs e ex old).get m = if m = n then some (.row cs e ex (.own none)) else if old = some m then none else H.get m := by
  cases old with
  | none => simp [AH.write, get_put]
  | some x =>
    show ((H.del x).put n _).get m = _
    rw [get_put, get_del]
    by_cases h : m = n
    · rw [if_pos h, if_pos h]
    · rw [if_neg h, if_neg h]
      by_cases h2 : m = x
      · subst h2; simp
      · rw [if_neg h2, if_neg (by simpa using fun e => h2 e.symm)]
theorem nx_write (H : AH) (n : Nat) (cs : List AV) (e : TypeId) (ex : Bool) (old : Option Nat) : (H.write n cs e ex old).nx = H.nx := by cases old <;> rfl
theorem nx_unold (H : AH) (old : Option Nat) : (H.unold old).nx = H.nx := by cases old <;> rfl
theorem stO_eq {H : AH} {n off : Nat} {vs cs : List AV} {e : TypeId} {ex : Bool} {old : Option Nat} (h : H.get n = some (.row cs e ex (.own old))) : stO H n off vs = H.write n (setAt cs off vs) e ex old := by unfold stO; rw [h]
theorem stOld_eq {H : AH} {n : Nat} {cs : List AV} {e : TypeId} {ex : Bool} {old : Option Nat} (h : H.get n = some (.row cs e ex (.own old))) : stOld H n = old.toList := by unfold stOld; rw [h]
theorem nx_stO (H : AH) (n off : Nat) (vs : List AV) : (stO H n off vs).nx = H.nx := by
  unfold stO
  split
  · exact nx_write _ _ _ _ _ _
  · rfl
theorem setAt_one (cs : List AV) (i : Nat) (v : AV) (h : i < cs.length) : setAt cs i [v] = cs.set i v := by
  unfold setAt
  rw [List.set_eq_take_append_cons_drop, if_pos h]
  simp

theorem pc_write (H : AH) (n : Nat) (cs : List AV) (e : TypeId) (ex : Bool) (old : Option Nat) : (H.write n cs e ex old).pc = H.pc := by cases old <;> rfl
theorem pc_stO (H : AH) (n off : Nat) (vs : List AV) : (stO H n off vs).pc = H.pc := by
  unfold stO
  split
  · exact pc_write _ _ _ _ _ _
  · rfl
/-- What a store leaves, read. -/
theorem get_stO {H : AH} {n off : Nat} {vs cs : List AV} {e : TypeId} {ex : Bool} (h : H.get n = some (.row cs e ex (.own none))) (m : Nat) : (stO H n off vs).get m = if m = n then some (.row (setAt cs off vs) e ex (.own none)) else H.get m := by
  rw [stO_eq h, get_write]
  simp
theorem HSame.refl (H : AH) : HSame H H := ⟨fun _ => rfl, rfl, rfl⟩
theorem HSame.trans {H H' H'' : AH} (h : HSame H H') (g : HSame H' H'') : HSame H H'' := ⟨fun m => (g.get m).trans (h.get m), g.nx.trans h.nx, g.pc.trans h.pc⟩
theorem HSame.symm {H H' : AH} (h : HSame H H') : HSame H' H := ⟨fun m => (h.get m).symm, h.nx.symm, h.pc.symm⟩
theorem HSame.new {H H' : AH} (h : HSame H H') (o : AObj) : HSame (H.new o) (H'.new o) := ⟨fun m => by rw [get_new, get_new, h.nx, h.get], by show H'.nx + 1 = H.nx + 1; rw [h.nx], h.pc⟩
/-- A row that was just made is written. -/
theorem HSame.stNew {H : AH} {n off : Nat} {vs cs : List AV} {e : TypeId} {ex : Bool} (hn : n = H.nx) : HSame (stO (H.new (.row cs e ex (.own none))) n off vs) (H.new (.row (setAt cs off vs) e ex (.own none))) := by
  subst hn
  refine ⟨fun m => ?_, by rw [nx_stO]; rfl, by rw [pc_stO]; rfl⟩
  rw [get_stO (by rw [get_new, if_pos rfl]), get_new, get_new]
  split <;> rfl
theorem StOk.new {H : AH} {n off k : Nat} {cs : List AV} {e : TypeId} {ex : Bool} (hn : n = H.nx) (h : off + k ≤ cs.length) : StOk (H.new (.row cs e ex (.own none))) n off k := ⟨_, _, _, _, by rw [get_new, if_pos hn], h⟩
/-! ### Nothing turns but what may -/
structure Kept (W : Nat → Prop) (H H' : AH) : Prop where
  nx : H.nx ≤ H'.nx
  get : ∀ m, m < H.nx → ¬ W m → H'.get m = H.get m
theorem Kept.refl (W : Nat → Prop) (H : AH) : Kept W H H := ⟨Nat.le_refl _, fun _ _ _ => rfl⟩
theorem Kept.trans {W : Nat → Prop} {H H' H'' : AH} (h : Kept W H H') (g : Kept W H' H'') : Kept W H H'' := ⟨Nat.le_trans h.nx g.nx, fun m hm hw => (g.get m (Nat.lt_of_lt_of_le hm h.nx) hw).trans (h.get m hm hw)⟩
theorem Kept.mono {W W' : Nat → Prop} {H H' : AH} (h : Kept W H H') (g : ∀ m, m < H.nx → W m → W' m) : Kept W' H H' := ⟨h.nx, fun m hm hw => h.get m hm fun x => hw (g m hm x)⟩
/-- What is new may be written. -/
theorem Kept.trans' {W W' : Nat → Prop} {H H' H'' : AH} (h : Kept W H H') (g : Kept W' H' H'') (hw : ∀ m, m < H.nx → W' m → W m) : Kept W H H'' := ⟨Nat.le_trans h.nx g.nx, fun m hm hn => (g.get m (Nat.lt_of_lt_of_le hm h.nx) fun x => hn (hw m hm x)).trans (h.get m hm hn)⟩
theorem Kept.new (W : Nat → Prop) (H : AH) (o : AObj) : Kept W H (H.new o) := ⟨Nat.le_succ _, fun m hm _ => by rw [get_new, if_neg (by omega)]⟩
theorem Kept.put {W : Nat → Prop} {H : AH} {n : Nat} {o : AObj} (h : W n ∨ H.nx ≤ n) : Kept W H (H.put n o) := ⟨Nat.le_refl _, fun m hm hw => by
  rw [get_put, if_neg]
  rintro rfl
  rcases h with h | h
  · exact hw h
  · omega⟩
theorem Kept.write {W : Nat → Prop} {H : AH} {n : Nat} {cs : List AV} {e : TypeId} {ex : Bool} {old : Option Nat} (h : W n ∨ H.nx ≤ n) (h2 : ∀ m, old = some m → W m ∨ H.nx ≤ m) : Kept W H (H.write n cs e ex old) := ⟨by rw [nx_write]; exact Nat.le_refl _, fun m hm hw => by
  rw [get_write, if_neg, if_neg]
  · intro he
    rcases h2 m he with h | h
    · exact hw h
    · omega
  · rintro rfl
    rcases h with h | h
    · exact hw h
    · omega⟩
theorem Pok.mono {H H' : AH} {W W' : Nat → Prop} {pend : List Nat} (h : Pok H W pend) (hw : Wf H) (g : Kept W H H') (g2 : ∀ m, m < H.nx → W' m → W m) : Pok H' W' pend := fun p hp => by
  obtain ⟨h1, h2⟩ := h p hp
  obtain ⟨o, ho⟩ := Option.isSome_iff_exists.1 h1
  have hlt := hw p o ho
  exact ⟨by rw [g.get p hlt h2]; exact h1, fun hx => h2 (g2 p hlt hx)⟩
theorem Pok.weak {H : AH} {W W' : Nat → Prop} {pend : List Nat} (h : Pok H W pend) (g : ∀ m, W' m → W m) : Pok H W' pend := fun p hp => ⟨(h p hp).1, fun hx => (h p hp).2 (g p hx)⟩
theorem Pok.nil (H : AH) (W : Nat → Prop) : Pok H W [] := fun p hp => by cases hp
/-- What may be written is none of what was looked at ahead of its turn. -/
theorem AOk.of {H : AH} {W : Nat → Prop} {pend : List Nat} {n : Nat} {ns : List Nat} {o : AObj} (h : Pok H W pend) (ho : H.get n = some o) (hv : o.isView = false) (hold : ∀ m, o.old = some m → m ∈ n :: ns) (hW : ∀ m ∈ n :: ns, W m ∨ H.get m = none) : AOk H pend (n :: ns) := by
  unfold AOk apartOk
  rw [Bool.or_eq_true]
  right
  simp only [ho, hv, Bool.not_false, Bool.true_and, Bool.and_eq_true, List.all_eq_true]
  refine ⟨?_, fun p hp => ?_⟩
  · split
    · rename_i m hm
      simpa using hold m hm
    · rfl
  · obtain ⟨h1, h2⟩ := h p hp
    refine ⟨?_, h1⟩
    rw [Bool.not_eq_true']
    cases hc : List.contains (n :: ns) p with
    | false => rfl
    | true =>
      have hc : p ∈ n :: ns := by simpa using hc
      obtain ⟨o', ho'⟩ := Option.isSome_iff_exists.1 h1
      rcases hW p hc with h3 | h3
      · exact absurd h3 h2
      · rw [h3] at ho'; cases ho'
/-- One name that may be written. -/
theorem AOk.one {H : AH} {W : Nat → Prop} {pend : List Nat} {n : Nat} {o : AObj} (h : Pok H W pend) (ho : H.get n = some o) (hv : o.isView = false) (hold : o.old = none) (hW : W n) : AOk H pend [n] :=
  AOk.of h ho hv (fun m hm => by rw [hold] at hm; cases hm) fun m hm => by rw [List.mem_singleton.1 hm]; exact .inl hW
theorem AOk.nil (H : AH) (ns : List Nat) : AOk H [] ns := by unfold AOk apartOk; simp

/-- A row that was just made may be written. -/
theorem AOk.new {H : AH} {W : Nat → Prop} {pend : List Nat} {n : Nat} {cs : List AV} {e : TypeId} {ex : Bool} (h : Pok H W pend) (hw : Wf H) (hn : n = H.nx) : AOk (H.new (.row cs e ex (.own none))) pend (n :: stOld (H.new (.row cs e ex (.own none))) n) := by
  have hg : (H.new (.row cs e ex (.own none))).get n = some (.row cs e ex (.own none)) := by rw [get_new, if_pos hn]
  rw [stOld_eq hg]
  refine AOk.one (W := fun m => H.nx ≤ m) (fun p hp => ?_) hg rfl rfl (by rw [hn]; exact Nat.le_refl _)
  obtain ⟨h1, h2⟩ := h p hp
  obtain ⟨o, ho⟩ := Option.isSome_iff_exists.1 h1
  have := hw p o ho
  exact ⟨by rw [get_new, if_neg (by omega)]; exact h1, by omega⟩
theorem Wf.new {H : AH} (hw : Wf H) (o : AObj) : Wf (H.new o) := fun m x hx => by
  rw [get_new] at hx
  show m < H.nx + 1
  split at hx
  · omega
  · have := hw m x hx; omega
theorem Pok.new {H : AH} {W : Nat → Prop} {pend : List Nat} (h : Pok H W pend) (hw : Wf H) (o : AObj) : Pok (H.new o) W pend := h.mono hw (Kept.new W H o) fun _ _ x => x
/-- New names may be written. -/
theorem Pok.fresh {H : AH} {W : Nat → Prop} {pend : List Nat} (h : Pok H W pend) (hw : Wf H) : Pok H (fun m => W m ∨ H.nx ≤ m) pend := fun p hp => by
  obtain ⟨h1, h2⟩ := h p hp
  obtain ⟨o, ho⟩ := Option.isSome_iff_exists.1 h1
  have := hw p o ho
  exact ⟨h1, fun hx => by rcases hx with hx | hx; exact h2 hx; omega⟩

/-! ### Rows -/
theorem rdAt_row {H : AH} {n : Nat} {cs : List AV} {t : TypeId} {ex : Bool} {st : Go.Sx.St} (h : H.get n = some (.row cs t ex st)) (i : Nat) : rdAt H n i = cs[i]? := by unfold rdAt; rw [h]
theorem rdSeg_row {H : AH} {n : Nat} {cs : List AV} {t : TypeId} {ex : Bool} {st : Go.Sx.St} (h : H.get n = some (.row cs t ex st)) (i k : Nat) (hl : i + k ≤ cs.length) : rdSeg H n i k = some ((cs.drop i).take k) := by unfold rdSeg; rw [h]; simp [hl]
theorem rdAt_congr {H H' : AH} {n : Nat} (h : H'.get n = H.get n) (i : Nat) : rdAt H' n i = rdAt H n i := by unfold rdAt; rw [h]
theorem rdSeg_congr {H H' : AH} {n : Nat} (h : H'.get n = H.get n) (i k : Nat) : rdSeg H' n i k = rdSeg H n i k := by unfold rdSeg; rw [h]
theorem rdAt_lt {H : AH} {n i : Nat} {v : AV} (hw : Wf H) (h : rdAt H n i = some v) : n < H.nx := by
  unfold rdAt at h
  cases hg : H.get n with
  | none => rw [hg] at h; cases h
  | some o => exact hw n o hg

/-! ### Maps: keys and elements that are read through functions -/
structure KeyOk (P : Program) (kt : TypeId) {κ : Type} (kf : κ → AV) : Prop where
  eq : ∀ a b, ∃ r : Bool, aEqual P kt (kf a) (kf b) = some r ∧ (r = true ↔ a = b)
  same : ∀ a, same 9 (kf a) (kf a) = true
section
variable {P : Program} {κ β : Type} [DecidableEq κ] {kt : TypeId} {kf : κ → AV} {vf : β → AV}
def mget (l : List (κ × β × Nat)) (k : κ) : Option β := (l.find? fun e => decide (e.1 = k)).map (·.2.1)
def mput : List (κ × β × Nat) → κ → β → Nat → List (κ × β × Nat)
  | [], k, b, c => [(k, b, c)]
  | e :: r, k, b, c => if e.1 = k then (k, b, e.2.2) :: r else e :: mput r k b c
def hasK (l : List (κ × β × Nat)) (k : κ) : Bool := l.any fun e => decide (e.1 = k)
theorem mget_nil (k : κ) : mget ([] : List (κ × β × Nat)) k = none := rfl
theorem mget_cons (e : κ × β × Nat) (l : List (κ × β × Nat)) (k : κ) : mget (e :: l) k = if e.1 = k then some e.2.1 else mget l k := by
  unfold mget
  by_cases h : e.1 = k
  · simp [List.find?_cons, h]
  · simp [List.find?_cons, h]
theorem mget_mput (l : List (κ × β × Nat)) (k : κ) (b : β) (c : Nat) (j : κ) : mget (mput l k b c) j = if j = k then some b else mget l j := by
  induction l with
  | nil =>
    unfold mput; rw [mget_cons, mget_nil]
    by_cases h : j = k
    · simp [h]
    · rw [if_neg h, if_neg (fun x => h x.symm)]
  | cons e r ih =>
    unfold mput
    by_cases h : e.1 = k
    · rw [if_pos h, mget_cons, mget_cons]
      by_cases hj : j = k
      · simp [hj]
      · rw [if_neg (fun x => hj x.symm), if_neg hj, if_neg (fun x => hj (x.symm.trans h))]
    · rw [if_neg h, mget_cons, mget_cons, ih]
      by_cases hj : j = k
      · subst hj; rw [if_neg h, if_pos rfl, if_pos rfl]
      · simp [hj]
/-- The map reads as this list of entries. -/
def MapL (H : AH) (n : Nat) (kf : κ → AV) (vf : β → AV) (l : List (κ × β × Nat)) (c : Nat) : Prop := H.get n = some (.map (l.map fun e => (kf e.1, vf e.2.1, e.2.2)) c)
theorem aFind_map (hk : KeyOk P kt kf) (k : κ) : ∀ (l : List (κ × β × Nat)) (i : Nat), aFind P kt (kf k) (l.map fun e => (kf e.1, vf e.2.1, e.2.2)) i = some (match l.findIdx? (fun e => decide (e.1 = k)) with | some j => (mget l k).map fun b => (i + j, vf b) | none => none)
  | [], i => rfl
  | e :: r, i => by
    rw [List.map_cons]
    unfold aFind
    obtain ⟨x, hx, hr⟩ := hk.eq k e.1
    rw [hx]
    cases x with
    | true =>
      have : e.1 = k := (hr.1 rfl).symm
      simp [List.findIdx?_cons, this, mget_cons]
    | false =>
      have hne : ¬ e.1 = k := fun h => by have := hr.2 h.symm; cases this
      simp only [aFind_map hk k r (i + 1), List.findIdx?_cons, hne, decide_false, Bool.false_eq_true, if_false, mget_cons]
      cases h : List.findIdx? (fun e => decide (e.1 = k)) r with
      | none => simp
      | some j => simp; rw [show i + (j + 1) = i + 1 + j by omega]
theorem mget_findIdx {l : List (κ × β × Nat)} {k : κ} : (l.findIdx? fun e => decide (e.1 = k)) = none ↔ mget l k = none := by
  rw [List.findIdx?_eq_none_iff]
  unfold mget
  simp [List.find?_eq_none]
theorem hit_of (hk : KeyOk P kt kf) {H : AH} {n : Nat} {l : List (κ × β × Nat)} {c : Nat} (h : MapL H n kf vf l c) {k : κ} {b : β} (hb : mget l k = some b) : Hit P H n kt (kf k) (vf b) := by
  cases hi : l.findIdx? (fun e => decide (e.1 = k)) with
  | none => rw [mget_findIdx.1 hi] at hb; cases hb
  | some j => exact ⟨_, c, 0 + j, h, by rw [aFind_map hk, hi, hb]; rfl⟩
theorem miss_of (hk : KeyOk P kt kf) {H : AH} {n : Nat} {l : List (κ × β × Nat)} {c : Nat} (h : MapL H n kf vf l c) {k : κ} (hb : mget l k = none) : Miss P H n kt (kf k) := by
  refine ⟨_, c, h, ?_⟩
  rw [aFind_map hk, mget_findIdx.2 hb]
theorem isMap_of {H : AH} {n : Nat} {l : List (κ × β × Nat)} {c : Nat} (h : MapL H n kf vf l c) : IsMap H n := by
  have _d : DecidableEq κ := inferInstance
  exact ⟨_, _, h⟩
theorem mapLen_of {H : AH} {n : Nat} {l : List (κ × β × Nat)} {c : Nat} (h : MapL H n kf vf l c) : mapLen H n = l.length := by
  have _d : DecidableEq κ := inferInstance
  unfold mapLen; rw [h]; simp
theorem find_get {l : List (κ × β × Nat)} {k : κ} {j : Nat} (h : (l.findIdx? fun e => decide (e.1 = k)) = some j) : ∃ e, l[j]? = some e ∧ e.1 = k := by
  have h1 := List.findIdx?_eq_some_iff_getElem.1 h
  obtain ⟨hj, h2, _⟩ := h1
  exact ⟨l[j], List.getElem?_eq_getElem hj, by simpa using h2⟩
theorem msOk_of (hk : KeyOk P kt kf) {H : AH} {n : Nat} {l : List (κ × β × Nat)} {c : Nat} (h : MapL H n kf vf l c) (k : κ) : MsOk P H n kt (kf k) := by
  refine ⟨_, c, _, h, aFind_map hk k l 0, fun i v hv => ?_⟩
  cases hi : l.findIdx? (fun e => decide (e.1 = k)) with
  | none => rw [hi] at hv; cases hv
  | some j =>
    rw [hi] at hv
    obtain ⟨b, _, hb⟩ := Option.map_eq_some_iff.1 hv
    simp only [Prod.mk.injEq] at hb
    obtain ⟨e, he, hek⟩ := find_get hi
    refine ⟨(kf e.1, vf e.2.1, e.2.2), ?_, ?_⟩
    · rw [← hb.1, Nat.zero_add, List.getElem?_map, he]; rfl
    · rw [hek]; exact hk.same k
theorem modAt_map (k : κ) (b : β) : ∀ (l : List (κ × β × Nat)) (j c : Nat), (l.findIdx? fun e => decide (e.1 = k)) = some j → modAt (fun e => (kf k, vf b, e.2.2)) (l.map fun e => (kf e.1, vf e.2.1, e.2.2)) j = (mput l k b c).map fun e => (kf e.1, vf e.2.1, e.2.2)
  | [], j, c, h => by simp at h
  | e :: r, j, c, h => by
    unfold mput
    rw [List.findIdx?_cons] at h
    by_cases he : e.1 = k
    · simp [he] at h
      subst h
      rw [if_pos he]
      rfl
    · simp [he] at h
      obtain ⟨i, hi, rfl⟩ := h
      rw [if_neg he, List.map_cons, List.map_cons]
      show _ :: modAt _ (r.map _) i = _
      rw [modAt_map k b r i c hi]
theorem mput_miss : ∀ (l : List (κ × β × Nat)) (k : κ) (b : β) (c : Nat), (l.findIdx? fun e => decide (e.1 = k)) = none → mput l k b c = l ++ [(k, b, c)]
  | [], _, _, _, _ => rfl
  | e :: r, k, b, c, h => by
    rw [List.findIdx?_cons] at h
    by_cases he : e.1 = k
    · simp [he] at h
    · simp [he] at h
      unfold mput
      rw [if_neg he, mput_miss r k b c (by rw [List.findIdx?_eq_none_iff]; simpa using h)]
      rfl
def mclk (l : List (κ × β × Nat)) (k : κ) (c : Nat) : Nat := if (mget l k).isSome then c else c + 1
theorem mset_of (hk : KeyOk P kt kf) {H : AH} {n : Nat} {l : List (κ × β × Nat)} {c : Nat} (h : MapL H n kf vf l c) (k : κ) (b : β) : mset P H n kt (kf k) (vf b) = H.put n (.map ((mput l k b c).map fun e => (kf e.1, vf e.2.1, e.2.2)) (mclk l k c)) := by
  unfold mset
  rw [h]
  simp only [aFind_map hk k l 0]
  cases hi : l.findIdx? (fun e => decide (e.1 = k)) with
  | none =>
    have hg := mget_findIdx.1 hi
    simp only [mput_miss l k b c hi, mclk, hg]
    simp
  | some j =>
    have hg : mget l k ≠ none := fun hx => by rw [← mget_findIdx] at hx; rw [hx] at hi; cases hi
    obtain ⟨x, hx⟩ := Option.ne_none_iff_exists'.1 hg
    simp only [hx, Option.map_some, Nat.zero_add, modAt_map k b l j c hi, mclk]
    simp
theorem mapL_mset (hk : KeyOk P kt kf) {H : AH} {n : Nat} {l : List (κ × β × Nat)} {c : Nat} (h : MapL H n kf vf l c) (k : κ) (b : β) : MapL (mset P H n kt (kf k) (vf b)) n kf vf (mput l k b c) (mclk l k c) := by
  rw [mset_of hk h]
  unfold MapL
  rw [get_put, if_pos rfl]
theorem get_mset (H : AH) (n m : Nat) (kt : TypeId) (k v : AV) (h : m ≠ n) : (mset P H n kt k v).get m = H.get m := by
  unfold mset
  split
  · split
    · rw [get_put, if_neg h]
    · rw [get_put, if_neg h]
    · rfl
  · rfl
theorem nx_mset (H : AH) (n : Nat) (kt : TypeId) (k v : AV) : (mset P H n kt k v).nx = H.nx := by
  unfold mset
  split
  · split <;> rfl
  · rfl
/-- Keys and births are told apart. -/
structure MI (l : List (κ × β × Nat)) (c : Nat) : Prop where
  keys : (l.map (·.1)).Nodup
  born : (l.map (·.2.2)).Nodup
  lt : ∀ e ∈ l, e.2.2 < c
theorem MI.nil : MI ([] : List (κ × β × Nat)) 0 := by
  have _d : DecidableEq κ := inferInstance
  exact ⟨by simp, by simp, fun e h => by cases h⟩
theorem mput_keys : ∀ (l : List (κ × β × Nat)) (k : κ) (b : β) (c : Nat), ((mput l k b c).map (·.1) = l.map (·.1) ∧ (mput l k b c).map (·.2.2) = l.map (·.2.2) ∧ (mget l k).isSome) ∨ (mput l k b c = l ++ [(k, b, c)] ∧ mget l k = none)
  | [], k, b, c => .inr ⟨rfl, rfl⟩
  | e :: r, k, b, c => by
    unfold mput
    rw [mget_cons]
    by_cases h : e.1 = k
    · rw [if_pos h, if_pos h]; left; exact ⟨by simp [h], by simp, rfl⟩
    · rw [if_neg h, if_neg h]
      rcases mput_keys r k b c with ⟨h1, h2, h3⟩ | ⟨h1, h2⟩
      · left; exact ⟨by simp [h1], by simp [h2], h3⟩
      · right; exact ⟨by simp [h1], h2⟩
theorem mget_mem {l : List (κ × β × Nat)} {k : κ} : mget l k = none ↔ k ∉ l.map (·.1) := by
  unfold mget
  rw [Option.map_eq_none_iff, List.find?_eq_none, List.mem_map]
  constructor
  · rintro h ⟨e, he, rfl⟩
    exact absurd (h e he) (by simp)
  · intro h e he hx
    exact h ⟨e, he, by simpa using hx⟩
theorem MI.put {l : List (κ × β × Nat)} {c : Nat} (h : MI l c) (k : κ) (b : β) : MI (mput l k b c) (mclk l k c) := by
  rcases mput_keys l k b c with ⟨h1, h2, h3⟩ | ⟨h1, h2⟩
  · refine ⟨by rw [h1]; exact h.keys, by rw [h2]; exact h.born, fun e he => ?_⟩
    have : e.2.2 ∈ (mput l k b c).map (·.2.2) := List.mem_map_of_mem he
    rw [h2] at this
    obtain ⟨e', he', h'⟩ := List.mem_map.1 this
    unfold mclk; rw [if_pos h3, ← h']; exact h.lt e' he'
  · have hk := mget_mem.1 h2
    rw [h1]
    refine ⟨?_, ?_, fun e he => ?_⟩
    · rw [List.map_append, List.nodup_append]
      exact ⟨h.keys, by simp, fun a ha x hx => by simp at hx; subst hx; intro e; subst e; exact hk ha⟩
    · rw [List.map_append, List.nodup_append]
      refine ⟨h.born, by simp, fun a ha x hx => ?_⟩
      simp at hx; subst hx
      obtain ⟨e, he, rfl⟩ := List.mem_map.1 ha
      have := h.lt e he; omega
    · unfold mclk; rw [h2]
      rcases List.mem_append.1 he with he | he
      · have := h.lt e he; simp; omega
      · simp at he; subst he; simp
/-- The map reads as this function. -/
def MapF (H : AH) (n : Nat) (kf : κ → AV) (vf : β → AV) (f : κ → Option β) : Prop := ∃ l c, MapL H n kf vf l c ∧ (∀ k, mget l k = f k) ∧ MI l c
theorem MapF.hit (hk : KeyOk P kt kf) {H : AH} {n : Nat} {f : κ → Option β} (h : MapF H n kf vf f) {k : κ} {b : β} (hb : f k = some b) : Hit P H n kt (kf k) (vf b) := by
  obtain ⟨l, c, h1, h2, h3⟩ := h
  exact hit_of hk h1 (by rw [h2, hb])
theorem MapF.miss (hk : KeyOk P kt kf) {H : AH} {n : Nat} {f : κ → Option β} (h : MapF H n kf vf f) {k : κ} (hb : f k = none) : Miss P H n kt (kf k) := by
  obtain ⟨l, c, h1, h2, h3⟩ := h
  exact miss_of hk h1 (by rw [h2, hb])
theorem MapF.ms (hk : KeyOk P kt kf) {H : AH} {n : Nat} {f : κ → Option β} (h : MapF H n kf vf f) (k : κ) : MsOk P H n kt (kf k) := by
  obtain ⟨l, c, h1, h2, h3⟩ := h
  exact msOk_of hk h1 k
theorem MapF.set (hk : KeyOk P kt kf) {H : AH} {n : Nat} {f : κ → Option β} (h : MapF H n kf vf f) (k : κ) (b : β) : MapF (mset P H n kt (kf k) (vf b)) n kf vf (fun j => if j = k then some b else f j) := by
  obtain ⟨l, c, h1, h2, h3⟩ := h
  exact ⟨_, _, mapL_mset hk h1 k b, fun j => by rw [mget_mput, h2], h3.put k b⟩
theorem MapF.congr {H H' : AH} {n : Nat} {f : κ → Option β} (h : MapF H n kf vf f) (g : H'.get n = H.get n) : MapF H' n kf vf f := by
  obtain ⟨l, c, h1, h2, h3⟩ := h
  exact ⟨l, c, by unfold MapL; rw [g]; exact h1, h2, h3⟩
theorem MapF.new (H : AH) : MapF (H.new (.map [] 0)) H.nx kf vf (fun _ => none) := ⟨[], 0, by unfold MapL; rw [get_new, if_pos rfl]; rfl, fun _ => rfl, MI.nil⟩
theorem MapF.fn {H : AH} {n : Nat} {f g : κ → Option β} (h : MapF H n kf vf f) (e : ∀ k, f k = g k) : MapF H n kf vf g := by
  obtain ⟨l, c, h1, h2, h3⟩ := h
  exact ⟨l, c, h1, fun k => (h2 k).trans (e k), h3⟩
theorem MapF.lt {H : AH} (hw : Wf H) {n : Nat} {f : κ → Option β} (h : MapF H n kf vf f) : n < H.nx := by
  obtain ⟨l, c, h1, h2, h3⟩ := h
  exact hw n _ h1
theorem MapF.obj {H : AH} {n : Nat} {f : κ → Option β} (h : MapF H n kf vf f) : ∃ es c, H.get n = some (.map es c) := by
  obtain ⟨l, c, h1, h2, h3⟩ := h
  exact ⟨_, _, h1⟩
end
/-- Whole numbers as keys. -/
def kI (n : Int) : AV := .int .i64 n
theorem keyI {P : Program} {kt : TypeId} {k : IntKind} (h : P.underlying kt = some (.int k)) : KeyOk P kt kI := ⟨fun a b => ⟨a == b, by simp [aEqual, aEq, h, kI], by simp⟩, fun a => by simp [kI, same]⟩
end Go.Sy
/- dom.meet: the nearest that stands over two. -/
set_option linter.unusedVariables false
namespace Go.Dm
open Go Go.Sx Go.Sy Go.RowKit

noncomputable def P : Program := Go.Proofs.Try.prog

theorem names : (P.funcs.all fun fn => !(fn.name == "runtime.NumGoroutine")) = true := by kernel_rfl

theorem fine : Fine P := ⟨by kernel_rfl, fun f fn h => by have := Array.all_eq_true'.1 names fn (Array.mem_of_getElem? h); simpa using this⟩

theorem key3 : KeyOk P 3 kI := keyI (k := .i64) (by kernel_rfl)

noncomputable def mO : AFr := hd P 59 [.r, .l, .i]

noncomputable def mA : AFr := hd P 59 [.r, .l, .i, .i, .r, .i, .l, .i]

noncomputable def mB : AFr := hd P 59 [.r, .l, .i, .i, .r, .i, .r, .i]

theorem meet0 (w0 : World) (K : AM → Prop) (Kr : AV → AH → Prop) (below : List AFr) (d u : Nat) (a b : Int) (H : AH) : (trun P w0 59 K Kr 200 0 [] ⟨frOf P 59 [.ptr d 0, .map u, .int .i64 a, .int .i64 b], below, H⟩ .stop) = (K (AM.mk (w mO (tl [AV.ptr d 0, AV.map u, AV.int IntKind.i64 a, AV.int IntKind.i64 b, AV.tuple [], AV.tuple [], AV.tuple [], AV.tuple [], AV.int IntKind.i64 (0 : Int), AV.tuple [], AV.tuple [], AV.tuple [], AV.tuple [], AV.tuple [], AV.tuple [], AV.tuple [], AV.tuple [], AV.tuple [], AV.tuple [], AV.tuple [], AV.tuple [], AV.tuple [], AV.tuple [], AV.tuple [], AV.tuple [], AV.tuple [], AV.tuple [], AV.tuple [], AV.tuple [], AV.tuple [], AV.tuple [], AV.tuple [], AV.tuple [], AV.tuple [], AV.tuple [], AV.tuple [], AV.tuple [], AV.tuple [], AV.tuple [], AV.tuple [], AV.tuple [], AV.tuple [], AV.tuple [], AV.tuple [], AV.tuple []])) below H)) := by kernel_rfl

theorem meetO (w0 : World) (K : AM → Prop) (Kr : AV → AH → Prop) (below : List AFr) (z : Nat → AV) (d u : Nat) (a b : Int) (H : AH) : (trun P w0 59 K Kr 200 0 [] ⟨w mO (setL (tz 45 z) [(0, .ptr d 0), (1, .map u), (2, .int .i64 a), (3, .int .i64 b)]), below, H⟩ (.br .stop .stop)) = (((a != b) = true → K (AM.mk (w mA (tl [AV.ptr d 0, AV.map u, AV.int IntKind.i64 a, AV.int IntKind.i64 b, z 4, z 5, z 6, z 7, z 8, AV.int IntKind.i64 a, AV.int IntKind.i64 b, AV.bool true, z 12, z 13, z 14, z 15, z 16, z 17, z 18, z 19, z 20, z 21, z 22, z 23, z 24, z 25, z 26, z 27, z 28, z 29, z 30, z 31, z 32, z 33, z 34, z 35, z 36, z 37, z 38, z 39, z 40, z 41, z 42, z 43, z 44])) below H)) ∧ ((a != b) = false → Kr (AV.int IntKind.i64 a) H)) := by kernel_rfl

theorem meetA (w0 : World) (K : AM → Prop) (Kr : AV → AH → Prop) (below : List AFr) (z : Nat → AV) (d m u : Nat) (a b pa pb ua : Int) (H : AH) : (trun P w0 59 K Kr 200 0 [] ⟨w mA (setL (tz 45 z) [(0, .ptr d 0), (1, .map u), (2, .int .i64 a), (3, .int .i64 b)]), below, H⟩ (.v (.map m) (.v (.int .i64 pa) (.v (.map m) (.v (.int .i64 pb) (.br (.v (.int .i64 ua) .stop) .stop)))))) = (rdAt H d 3 = some (AV.map m) ∧ Hit P H m 3 (AV.int IntKind.i64 a) (AV.int IntKind.i64 pa) ∧ rdAt H d 3 = some (AV.map m) ∧ Hit P H m 3 (AV.int IntKind.i64 b) (AV.int IntKind.i64 pb) ∧ (decide (pa > pb) = true → Hit P H u 3 (AV.int IntKind.i64 a) (AV.int IntKind.i64 ua) ∧ K (AM.mk (w mA (tl [AV.ptr d 0, AV.map u, AV.int IntKind.i64 ua, AV.int IntKind.i64 b, z 4, z 5, z 6, z 7, z 8, z 9, z 10, z 11, AV.ptr d 0, AV.ptr d 0, AV.ptr d 3, AV.map m, AV.int IntKind.i64 a, AV.int IntKind.i64 pa, AV.ptr d 0, AV.ptr d 0, AV.ptr d 3, AV.map m, AV.int IntKind.i64 b, AV.int IntKind.i64 pb, AV.bool true, AV.map u, AV.int IntKind.i64 a, AV.int IntKind.i64 ua, z 28, z 29, z 30, z 31, z 32, z 33, z 34, z 35, z 36, z 37, z 38, z 39, z 40, z 41, z 42, z 43, z 44])) below H)) ∧ (decide (pa > pb) = false → K (AM.mk (w mB (tl [AV.ptr d 0, AV.map u, AV.int IntKind.i64 a, AV.int IntKind.i64 b, z 4, z 5, z 6, z 7, z 8, z 9, z 10, z 11, AV.ptr d 0, AV.ptr d 0, AV.ptr d 3, AV.map m, AV.int IntKind.i64 a, AV.int IntKind.i64 pa, AV.ptr d 0, AV.ptr d 0, AV.ptr d 3, AV.map m, AV.int IntKind.i64 b, AV.int IntKind.i64 pb, AV.bool false, z 25, z 26, z 27, z 28, z 29, z 30, z 31, z 32, z 33, z 34, z 35, z 36, z 37, z 38, z 39, z 40, z 41, z 42, z 43, z 44])) below H))) := by kernel_rfl

theorem meetB (w0 : World) (K : AM → Prop) (Kr : AV → AH → Prop) (below : List AFr) (z : Nat → AV) (d m u : Nat) (a b pa pb ub : Int) (H : AH) : (trun P w0 59 K Kr 200 0 [] ⟨w mB (setL (tz 45 z) [(0, .ptr d 0), (1, .map u), (2, .int .i64 a), (3, .int .i64 b)]), below, H⟩ (.v (.map m) (.v (.int .i64 pb) (.v (.map m) (.v (.int .i64 pa) (.br (.v (.int .i64 ub) .stop) .stop)))))) = (rdAt H d 3 = some (AV.map m) ∧ Hit P H m 3 (AV.int IntKind.i64 b) (AV.int IntKind.i64 pb) ∧ rdAt H d 3 = some (AV.map m) ∧ Hit P H m 3 (AV.int IntKind.i64 a) (AV.int IntKind.i64 pa) ∧ (decide (pb > pa) = true → Hit P H u 3 (AV.int IntKind.i64 b) (AV.int IntKind.i64 ub) ∧ K (AM.mk (w mB (tl [AV.ptr d 0, AV.map u, AV.int IntKind.i64 a, AV.int IntKind.i64 ub, z 4, z 5, z 6, z 7, z 8, z 9, z 10, z 11, z 12, z 13, z 14, z 15, z 16, z 17, z 18, z 19, z 20, z 21, z 22, z 23, z 24, z 25, z 26, z 27, AV.ptr d 0, AV.ptr d 0, AV.ptr d 3, AV.map m, AV.int IntKind.i64 b, AV.int IntKind.i64 pb, AV.ptr d 0, AV.ptr d 0, AV.ptr d 3, AV.map m, AV.int IntKind.i64 a, AV.int IntKind.i64 pa, AV.bool true, AV.map u, AV.int IntKind.i64 b, AV.int IntKind.i64 ub, z 44])) below H)) ∧ (decide (pb > pa) = false → K (AM.mk (w mO (tl [AV.ptr d 0, AV.map u, AV.int IntKind.i64 a, AV.int IntKind.i64 b, z 4, z 5, z 6, z 7, z 8, z 9, z 10, z 11, z 12, z 13, z 14, z 15, z 16, z 17, z 18, z 19, z 20, z 21, z 22, z 23, z 24, z 25, z 26, z 27, AV.ptr d 0, AV.ptr d 0, AV.ptr d 3, AV.map m, AV.int IntKind.i64 b, AV.int IntKind.i64 pb, AV.ptr d 0, AV.ptr d 0, AV.ptr d 3, AV.map m, AV.int IntKind.i64 a, AV.int IntKind.i64 pa, AV.bool false, z 41, z 42, z 43, z 44])) below H))) := by kernel_rfl

/-- From a and b one comes to r, going up. -/
inductive MeetR (pl up : Int → Option Int) : Int → Int → Int → Prop
  | done {a p : Int} : pl a = some p → MeetR pl up a a a
  | left {a b a' r pa pb : Int} : a ≠ b → pl a = some pa → pl b = some pb → pb < pa → up a = some a' → MeetR pl up a' b r → MeetR pl up a b r
  | right {a b b' r pa pb : Int} : a ≠ b → pl a = some pa → pl b = some pb → pa < pb → up b = some b' → MeetR pl up a b' r → MeetR pl up a b r

def mL (d u : Nat) (a b : Int) : List (Nat × AV) := [(0, .ptr d 0), (1, .map u), (2, .int .i64 a), (3, .int .i64 b)]

theorem meet_loops {w0 : World} {Kr : AV → AH → Prop} {below : List AFr} {d m u : Nat} {H : AH} {pl up : Int → Option Int} (h3 : rdAt H d 3 = some (.map m)) (hp : MapF H m kI kI pl) (hu : MapF H u kI kI up) {a b r : Int} (h : MeetR pl up a b r) (hk : Kr (.int .i64 r) H) :
    (∀ z, Leads P w0 (RetK P 59 below Kr) ⟨w mO (setL (tz 45 z) (mL d u a b)), below, H⟩) ∧ (∀ z, Leads P w0 (RetK P 59 below Kr) ⟨w mA (setL (tz 45 z) (mL d u a b)), below, H⟩) ∧ ∀ z, Leads P w0 (RetK P 59 below Kr) ⟨w mB (setL (tz 45 z) (mL d u a b)), below, H⟩ := by
  induction h with
  | @done a p ha =>
    have hO : ∀ z, Leads P w0 (RetK P 59 below Kr) ⟨w mO (setL (tz 45 z) (mL d u a a)), below, H⟩ := fun z => Leads.go fine (meetO w0 _ Kr below z d u a a H) rfl ⟨fun h => absurd h (by simp), fun _ => hk⟩
    have hit := hp.hit key3 ha
    have hB : ∀ z, Leads P w0 (RetK P 59 below Kr) ⟨w mB (setL (tz 45 z) (mL d u a a)), below, H⟩ := fun z => Leads.go fine (meetB w0 _ Kr below z d m u a a p p 0 H) rfl ⟨h3, hit, h3, hit, fun h => absurd h (by simp), fun _ => Leads.at (mL d u a a) (by kernel_rfl) hO⟩
    exact ⟨hO, fun z => Leads.go fine (meetA w0 _ Kr below z d m u a a p p 0 H) rfl ⟨h3, hit, h3, hit, fun h => absurd h (by simp), fun _ => Leads.at (mL d u a a) (by kernel_rfl) hB⟩, hB⟩
  | @left a b a' r pa pb hne ha hb hlt hup _ ih =>
    obtain ⟨_, iA, _⟩ := ih hk
    have ia := hp.hit key3 ha
    have ib := hp.hit key3 hb
    have hA : ∀ z, Leads P w0 (RetK P 59 below Kr) ⟨w mA (setL (tz 45 z) (mL d u a b)), below, H⟩ := fun z => Leads.go fine (meetA w0 _ Kr below z d m u a b pa pb a' H) rfl ⟨h3, ia, h3, ib, fun _ => ⟨hu.hit key3 hup, Leads.at (mL d u a' b) (by kernel_rfl) iA⟩, fun h => absurd hlt (by simpa using h)⟩
    have hO : ∀ z, Leads P w0 (RetK P 59 below Kr) ⟨w mO (setL (tz 45 z) (mL d u a b)), below, H⟩ := fun z => Leads.go fine (meetO w0 _ Kr below z d u a b H) rfl ⟨fun _ => Leads.at (mL d u a b) (by kernel_rfl) hA, fun h => absurd h (by simpa using hne)⟩
    exact ⟨hO, hA, fun z => Leads.go fine (meetB w0 _ Kr below z d m u a b pa pb 0 H) rfl ⟨h3, ib, h3, ia, fun h => absurd hlt (by simp at h; omega), fun _ => Leads.at (mL d u a b) (by kernel_rfl) hO⟩⟩
  | @right a b b' r pa pb hne ha hb hlt hup _ ih =>
    obtain ⟨_, _, iB⟩ := ih hk
    have ia := hp.hit key3 ha
    have ib := hp.hit key3 hb
    have hB : ∀ z, Leads P w0 (RetK P 59 below Kr) ⟨w mB (setL (tz 45 z) (mL d u a b)), below, H⟩ := fun z => Leads.go fine (meetB w0 _ Kr below z d m u a b pa pb b' H) rfl ⟨h3, ib, h3, ia, fun _ => ⟨hu.hit key3 hup, Leads.at (mL d u a b') (by kernel_rfl) iB⟩, fun h => absurd hlt (by simpa using h)⟩
    have hA : ∀ z, Leads P w0 (RetK P 59 below Kr) ⟨w mA (setL (tz 45 z) (mL d u a b)), below, H⟩ := fun z => Leads.go fine (meetA w0 _ Kr below z d m u a b pa pb 0 H) rfl ⟨h3, ia, h3, ib, fun h => absurd hlt (by simp at h; omega), fun _ => Leads.at (mL d u a b) (by kernel_rfl) hB⟩
    exact ⟨fun z => Leads.go fine (meetO w0 _ Kr below z d u a b H) rfl ⟨fun _ => Leads.at (mL d u a b) (by kernel_rfl) hA, fun h => absurd h (by simpa using hne)⟩, hA, hB⟩

/-- THE CONTRACT OF meet. -/
theorem meet_ret {w0 : World} {d m u : Nat} {H : AH} {pl up : Int → Option Int} (h3 : rdAt H d 3 = some (.map m)) (hp : MapF H m kI kI pl) (hu : MapF H u kI kI up) {a b r : Int} (h : MeetR pl up a b r) (W : Nat → Prop) :
    Ret P w0 59 [.ptr d 0, .map u, .int .i64 a, .int .i64 b] H W fun v H' => v = .int .i64 r ∧ H' = H := Ret.mk fun below _ =>
  Leads.go fine (meet0 w0 _ _ below d u a b H) (by kernel_rfl) (Leads.at (mL d u a b) (by kernel_rfl) (meet_loops h3 hp hu h ⟨rfl, rfl⟩).1)
end Go.Dm
/- Slices over parameters: what they read as; lists that grow. -/
set_option linter.unusedVariables false
set_option linter.unusedSimpArgs false
namespace Go.Sy
open Go Go.Sx Go.RowKit

def isSl : AV → Bool
  | .nslice _ _ => true
  | .slice _ _ _ _ => true
  | .eslice _ _ _ _ => true
  | .zslice _ _ _ _ => true
  | .hslice _ => true
  | _ => false
/-- A slice of elements of one cell reads as these. -/
structure SlR (H : AH) (v : AV) (cs : List AV) : Prop where
  sl : isSl v = true
  len : aLenOf v = some cs.length
  base : ∀ n off, slBase v = some (n, off) → ∃ r t ex st, H.get n = some (.row r t ex st) ∧ off + cs.length ≤ r.length ∧ (r.drop off).take cs.length = cs
  emp : slBase v = none → cs = []
section
variable {P : Program} {H H' : AH} {v : AV} {cs : List AV}
theorem SlR.single (h : SlR H v cs) : v.single = true := by
  have := h.sl
  cases v <;> first | rfl | cases this
theorem SlR.congr (h : SlR H v cs) (g : ∀ n off, slBase v = some (n, off) → H'.get n = H.get n) : SlR H' v cs :=
  ⟨h.sl, h.len, fun n off hb => by rw [g n off hb]; exact h.base n off hb, h.emp⟩
theorem SlR.kept {W : Nat → Prop} (h : SlR H v cs) (hw : Wf H) (g : Kept W H H') (hn : ∀ n off, slBase v = some (n, off) → ¬ W n) : SlR H' v cs :=
  h.congr fun n off hb => by
    obtain ⟨r, t, ex, st, h1, _⟩ := h.base n off hb
    exact g.get n (hw n _ h1) (hn n off hb)
theorem SlR.lt (h : SlR H v cs) (hw : Wf H) {n off : Nat} (hb : slBase v = some (n, off)) : n < H.nx := by
  obtain ⟨r, t, ex, st, h1, _⟩ := h.base n off hb
  exact hw n _ h1
theorem SlR.aLen (h : SlR H v cs) {t e : TypeId} (hu : P.underlying t = some (.slice e)) : aLen P H t v = some (.int .i64 (cs.length : Nat), []) := by
  have h1 := h.sl; have h2 := h.len
  cases v <;> simp [isSl, aLenOf] at h1 h2
  all_goals (simp [Go.Sx.aLen, hu, h2]; try omega)
theorem SlR.some_base (h : SlR H v cs) (hne : cs ≠ []) : ∃ n off, slBase v = some (n, off) := by
  cases hb : slBase v with
  | none => exact absurd (h.emp hb) hne
  | some x => exact ⟨x.1, x.2, rfl⟩
theorem SlR.at (h : SlR H v cs) {n off : Nat} (hb : slBase v = some (n, off)) {i : Nat} {c : AV} (hc : cs[i]? = some c) : SlAt v n off (i : Int) ∧ rdAt H n (off + i) = some c := by
  have hlt : i < cs.length := (List.getElem?_eq_some_iff.1 hc).1
  obtain ⟨r, t, ex, st, h1, h2, h3⟩ := h.base n off hb
  refine ⟨⟨hb, _, h.len, by omega, by omega⟩, ?_⟩
  rw [rdAt_row h1, ← hc, ← h3, List.getElem?_take, if_pos hlt, List.getElem?_drop]
theorem SlR.first (h : SlR H v cs) : aFirst H 1 cs.length v = some cs := by
  have h1 := h.sl; have h2 := h.len
  cases v with
  | nslice l c => have := h.emp rfl; subst this; rfl
  | zslice n off l sz => have := h.emp rfl; subst this; rfl
  | hslice a => have := h.emp rfl; subst this; rfl
  | slice n off l c =>
    obtain ⟨r, t, ex, st, q1, q2, q3⟩ := h.base n off rfl
    simp [aFirst, q1, q2, q3]
  | eslice n off l sz =>
    obtain ⟨r, t, ex, st, q1, q2, q3⟩ := h.base n off rfl
    simp [aFirst, q1, q2, q3]
  | _ => simp [isSl] at h1
theorem SlR.nil (H : AH) (c : Nat) : SlR H (.nslice 0 c) [] := ⟨rfl, rfl, fun n off h => by simp [slBase] at h, fun _ => rfl⟩
theorem SlR.of_row {n : Nat} {t : TypeId} {ex : Bool} {st : Go.Sx.St} {c : Nat} (h : H.get n = some (.row cs t ex st)) : SlR H (.slice n 0 cs.length c) cs :=
  ⟨rfl, rfl, fun m off hb => by simp [slBase] at hb; obtain ⟨rfl, rfl⟩ := hb; exact ⟨_, _, _, _, h, by simp, by simp⟩, fun h => by cases h⟩

/-! ### Lists that grow -/
structure ET (P : Program) (t e : TypeId) : Prop where
  und : P.underlying t = some (.slice e)
  sz : szOf P e = some 1
  z : ∃ zv, zeroT P e = some zv ∧ zv.cells.length = 1
  made : madeT P (some t) = false
  bytes : bytesT P e ≤ 64
theorem ET.roomy {t e : TypeId} (h : ET P t e) {n : Nat} (hn : n ≤ 100000000) : roomy P e n = true := by
  unfold Go.Sx.roomy
  rw [Bool.and_eq_true, Nat.ble_eq, Nat.ble_eq]
  have := h.bytes
  refine ⟨by omega, Nat.le_trans (Nat.mul_le_mul (show 8 * n + 8192 ≤ 800008192 by omega) this) (by decide)⟩
/-- A list of its own: nil, or to the end of a row. -/
def Lst (H : AH) (v : AV) (e : TypeId) (cs : List AV) : Prop := (v = .nslice 0 0 ∧ cs = []) ∨ ∃ n old, v = .eslice n 0 cs.length 1 ∧ H.get n = some (.row cs e false (.own old)) ∧ cs ≠ [] ∧ ∀ m, old = some m → m < n
/-- The names that go with a list. -/
def LN (H : AH) (v : AV) : Nat → Prop := fun m => ∃ n off, slBase v = some (n, off) ∧ (m = n ∨ m ∈ stOld H n)
theorem Lst.slr {e : TypeId} (h : Lst H v e cs) : SlR H v cs := by
  rcases h with ⟨rfl, rfl⟩ | ⟨n, old, rfl, h1, h2, h20⟩
  · exact SlR.nil H 0
  · exact ⟨rfl, rfl, fun m off hb => by simp [slBase] at hb; obtain ⟨rfl, rfl⟩ := hb; exact ⟨_, _, _, _, h1, by simp, by simp⟩, fun h => by cases h⟩
theorem Lst.nil (H : AH) (e : TypeId) : Lst H (.nslice 0 0) e [] := .inl ⟨rfl, rfl⟩
theorem LN_congr {n off : Nat} (h : slBase v = some (n, off)) (g : H'.get n = H.get n) (m : Nat) : LN H' v m ↔ LN H v m := by
  unfold LN stOld
  constructor
  · rintro ⟨a, b, h1, h2⟩
    rw [h] at h1; cases h1
    exact ⟨n, off, h, by rw [g] at h2; exact h2⟩
  · rintro ⟨a, b, h1, h2⟩
    rw [h] at h1; cases h1
    exact ⟨n, off, h, by rw [g]; exact h2⟩
theorem Lst.congr {e : TypeId} (h : Lst H v e cs) (g : ∀ n off, slBase v = some (n, off) → H'.get n = H.get n) : Lst H' v e cs := by
  rcases h with h | ⟨n, old, rfl, h1, h2⟩
  · exact .inl h
  · exact .inr ⟨n, old, rfl, by rw [g n 0 rfl]; exact h1, h2⟩
theorem Lst.lt {e : TypeId} (h : Lst H v e cs) (hw : Wf H) {m : Nat} (hm : LN H v m) : m < H.nx := by
  rcases h with ⟨rfl, rfl⟩ | ⟨n, old, rfl, h1, h2, h3⟩
  · obtain ⟨a, b, q, _⟩ := hm; cases q
  · obtain ⟨a, b, q1, q2⟩ := hm
    simp [slBase] at q1
    obtain ⟨rfl, rfl⟩ := q1
    have := hw n _ h1
    rcases q2 with rfl | q2
    · exact this
    · rw [stOld_eq h1] at q2
      have := h3 m (by simpa using q2)
      omega
/-- Something is put behind a list. -/
theorem Lst.append {t t2 e : TypeId} (hE : ET P t e) (hu2 : (P.underlying t2).isSome = true) (hm2 : madeT P (some t2) = false) {cs : List AV} (hw : Wf H) (h : Lst H v e cs) {x : AV} {new : List AV} (hx : aLenOf x = some new.length) (hf : aFirst H 1 new.length x = some new)
    (hs : new.all AV.single = true) (hr : cs.length + new.length ≤ 100000000) :
    ∃ v' H' ns, aAppend P H [t, t2] [v, x] = some [(.val v', H', ns)] ∧ Lst H' v' e (cs ++ new) ∧ Kept (LN H v) H H' ∧ (∀ m, LN H' v' m → LN H v m ∨ H.nx ≤ m) ∧
      (∀ (W : Nat → Prop) (pend : List Nat), Pok H W pend → (∀ m, LN H v m → W m ∨ H.get m = none) → AOk H pend ns) := by
  obtain ⟨zv, hz, hzl⟩ := hE.z
  have hroom := hE.roomy hr
  have hbase : aAppend P H [t, t2] [v, x] = appTo P H e 1 new.length new v := by
    unfold aAppend
    simp only [hE.und, hE.sz, hz, List.head?_cons, hm2, appN, hx, hf, Option.bind_some, Option.map_some, Bool.false_eq_true, if_false]
    rw [if_pos (by simp [hzl, hu2]), if_pos (by simp)]
  rw [hbase]
  rcases h with ⟨rfl, rfl⟩ | ⟨n, old, rfl, h1, h2, h20⟩
  · unfold appTo
    by_cases hn : new.length = 0
    · have : new = [] := List.length_eq_zero_iff.1 hn
      subst this
      exact ⟨.nslice 0 0, H, [], by simp, .inl ⟨rfl, rfl⟩, Kept.refl _ _, fun m hm => .inl hm, fun W pend _ _ => by unfold AOk apartOk; simp⟩
    · simp only [List.length_nil, Nat.zero_add] at hroom
      refine ⟨.eslice H.nx 0 new.length 1, H.new (.row new e false (.own none)), [], by simp only [hn, if_false, hroom, if_true], .inr ⟨H.nx, none, by simp, by rw [get_new, if_pos rfl]; simp, by simpa using fun h => hn (by rw [h]; rfl), fun m h => by cases h⟩, Kept.new _ _ _, fun m hm => ?_, fun W pend _ _ => by unfold AOk apartOk; simp⟩
      obtain ⟨a, b, q1, q2⟩ := hm
      simp [slBase] at q1
      obtain ⟨rfl, rfl⟩ := q1
      rw [stOld_eq (by rw [get_new, if_pos rfl])] at q2
      rcases q2 with rfl | q2
      · exact .inr (Nat.le_refl _)
      · cases q2
  · have hlt : n < H.nx ∨ True := .inr trivial
    unfold appTo
    simp only [appEnd, h1]
    by_cases hn : new.length = 0
    · have : new = [] := List.length_eq_zero_iff.1 hn
      subst this
      refine ⟨.eslice n 0 cs.length 1, H, [], by simp, .inr ⟨n, old, by simp, by simpa using h1, by simpa using h2, h20⟩, Kept.refl _ _, fun m hm => .inl hm, fun W pend _ _ => by unfold AOk apartOk; simp⟩
    · rw [if_neg (by simp; omega), if_pos (by simpa using hs)]
      simp only [hn, if_false, hroom, Bool.not_true, Bool.false_eq_true]
      refine ⟨_, _, _, rfl, .inr ⟨H.nx, some n, by simp, ?_, by simpa using fun h => absurd h h2, fun m h => by simp at h; subst h; exact hw _ _ h1⟩, ?_, fun m hm => ?_, fun W pend hp hw => ?_⟩
      · have : ((H.unold old).put n (.row cs e false .view)).nx = H.nx := nx_unold H old
        rw [get_new, if_pos this.symm]; simp
      · refine ⟨by show H.nx ≤ ((H.unold old).put n _).nx + 1; rw [AH.nx_put, nx_unold]; omega, fun m hm hw => ?_⟩
        rw [get_new, if_neg (by rw [AH.nx_put, nx_unold]; omega), get_put, if_neg, get_unold, if_neg]
        · intro ho; exact hw ⟨n, 0, rfl, .inr (by rw [stOld_eq h1, ho]; simp)⟩
        · rintro rfl; exact hw ⟨m, 0, rfl, .inl rfl⟩
      · obtain ⟨a, b, q1, q2⟩ := hm
        simp [slBase, nx_unold] at q1
        obtain ⟨rfl, rfl⟩ := q1
        have hg : (((H.unold old).put n (.row cs e false .view)).new (.row (cs.drop 0 ++ new) e false (.own (some n)))).get H.nx = some (.row (cs.drop 0 ++ new) e false (.own (some n))) := by rw [get_new, if_pos (by rw [AH.nx_put, nx_unold])]
        rw [stOld_eq hg] at q2
        rcases q2 with rfl | q2
        · exact .inr (Nat.le_refl _)
        · simp at q2; subst q2; exact .inl ⟨m, 0, rfl, .inl rfl⟩
      · refine AOk.of hp h1 rfl (fun m hm => ?_) (fun m hm => ?_)
        · cases old with
          | none => cases hm
          | some o => simp [AObj.old] at hm; subst hm; simp
        · have hq : LN H (.eslice n 0 cs.length 1) m := ⟨n, 0, rfl, by
            rcases List.mem_cons.1 hm with rfl | hm
            · exact .inl rfl
            · exact .inr (by rw [stOld_eq h1]; exact hm)⟩
          rcases hw m hq with h | h
          · exact .inl h
          · exact .inr h
theorem Lst.single {e : TypeId} (h : Lst H v e cs) : v.single = true := h.slr.single
/-- One cell of a list is written. -/
theorem Lst.store {e : TypeId} (h : Lst H v e cs) {n off : Nat} (hb : slBase v = some (n, off)) {i : Nat} (hi : i < cs.length) (c : AV) :
    StOk H n (off + i) 1 ∧ Lst (stO H n (off + i) [c]) v e (cs.set i c) ∧ Kept (LN H v) H (stO H n (off + i) [c]) ∧ (∀ m, LN (stO H n (off + i) [c]) v m → LN H v m) ∧
      (∀ (W : Nat → Prop) (pend : List Nat), Pok H W pend → (∀ m, LN H v m → W m ∨ H.get m = none) → AOk H pend (n :: stOld H n)) := by
  rcases h with ⟨rfl, rfl⟩ | ⟨n', old, rfl, h1, h2, h20⟩
  · cases hb
  · simp [slBase] at hb
    obtain ⟨rfl, rfl⟩ := hb
    rw [Nat.zero_add]
    have he := stO_eq (vs := [c]) (off := i) h1
    rw [setAt_one _ _ _ hi] at he
    refine ⟨⟨_, _, _, _, h1, by omega⟩, ?_, ?_, fun m hm => ?_, fun W pend hp hw => ?_⟩
    · rw [he]
      refine .inr ⟨n', none, by simp, ?_, by simpa using h2, fun m h => by cases h⟩
      rw [get_write, if_pos rfl]
    · rw [he]
      exact Kept.write (.inl ⟨n', 0, rfl, .inl rfl⟩) fun m hm => .inl ⟨n', 0, rfl, .inr (by rw [stOld_eq h1, hm]; simp)⟩
    · obtain ⟨a, b, q1, q2⟩ := hm
      simp [slBase] at q1
      obtain ⟨rfl, rfl⟩ := q1
      rw [he, stOld_eq (by rw [get_write, if_pos rfl])] at q2
      rcases q2 with rfl | q2
      · exact ⟨m, 0, rfl, .inl rfl⟩
      · cases q2
    · refine AOk.of hp h1 rfl (fun m hm => ?_) (fun m hm => ?_)
      · rw [stOld_eq h1]
        cases old with
        | none => cases hm
        | some o => simp [AObj.old] at hm; subst hm; simp
      · have hq : LN H (.eslice n' 0 cs.length 1) m := ⟨n', 0, rfl, by
          rcases List.mem_cons.1 hm with rfl | hm
          · exact .inl rfl
          · exact .inr hm⟩
        rcases hw m hq with h | h
        · exact .inl h
        · exact .inr h
end
end Go.Sy
namespace Go.Sy
open Go Go.Sx Go.RowKit
/-- A slice of slices of whole numbers, all within names of S. -/
structure Mat (H : AH) (S : Nat → Prop) (v : AV) (g : List (List Int)) (hs : List AV) : Prop where
  top : SlR H v hs
  topS : ∀ n off, slBase v = some (n, off) → S n
  len : hs.length = g.length
  row : ∀ (i : Nat) (h : AV) (l : List Int), hs[i]? = some h → g[i]? = some l → SlR H h (l.map kI) ∧ ∀ n off, slBase h = some (n, off) → S n
theorem Mat.congr {H H' : AH} {S : Nat → Prop} {v : AV} {g : List (List Int)} {hs : List AV} (h : Mat H S v g hs) (e : ∀ m, S m → H'.get m = H.get m) : Mat H' S v g hs :=
  ⟨h.top.congr fun n off hb => e n (h.topS n off hb), h.topS, h.len, fun i x l h1 h2 => ⟨(h.row i x l h1 h2).1.congr fun n off hb => e n ((h.row i x l h1 h2).2 n off hb), (h.row i x l h1 h2).2⟩⟩
theorem Mat.mono {H : AH} {S S' : Nat → Prop} {v : AV} {g : List (List Int)} {hs : List AV} (h : Mat H S v g hs) (e : ∀ m, S m → S' m) : Mat H S' v g hs :=
  ⟨h.top, fun n off hb => e n (h.topS n off hb), h.len, fun i x l h1 h2 => ⟨(h.row i x l h1 h2).1, fun n off hb => e n ((h.row i x l h1 h2).2 n off hb)⟩⟩
/-- Row i, as it is come to. -/
theorem Mat.at {H : AH} {S : Nat → Prop} {v : AV} {g : List (List Int)} {hs : List AV} (h : Mat H S v g hs) {i : Nat} {l : List Int} (hl : g[i]? = some l) : ∃ n off x, SlAt v n off (i : Int) ∧ rdAt H n (off + i) = some x ∧ S n ∧ SlR H x (l.map kI) ∧ ∀ n off, slBase x = some (n, off) → S n := by
  have hlt : i < hs.length := by rw [h.len]; exact (List.getElem?_eq_some_iff.1 hl).1
  have hx : hs[i]? = some hs[i] := List.getElem?_eq_getElem hlt
  obtain ⟨n, off, hb⟩ := h.top.some_base (fun e => by rw [e] at hlt; simp at hlt)
  obtain ⟨q1, q2⟩ := h.top.at hb hx
  exact ⟨n, off, _, q1, q2, h.topS n off hb, h.row i _ l hx hl⟩
/-- Number i of a slice of whole numbers, as it is come to. -/
theorem SlR.int {H : AH} {v : AV} {l : List Int} (h : SlR H v (l.map kI)) {i : Nat} {x : Int} (hx : l[i]? = some x) : ∃ n off, slBase v = some (n, off) ∧ SlAt v n off (i : Int) ∧ rdAt H n (off + i) = some (.int .i64 x) := by
  have hc : (l.map kI)[i]? = some (kI x) := by rw [List.getElem?_map, hx]; rfl
  obtain ⟨n, off, hb⟩ := h.some_base (fun e => by rw [e] at hc; cases hc)
  obtain ⟨q1, q2⟩ := h.at hb hc
  exact ⟨n, off, hb, q1, q2⟩
end Go.Sy
/- Depth-first search, plain. No program. -/
namespace Go.Proofs.DomP
abbrev Seen := Int → Bool
def mark (n : Int) (s : Seen) : Seen := fun k => if k = n then true else s k
def dfsL (rec : Int → Seen → List Int → Option (Seen × List Int)) : List Int → Seen → List Int → Option (Seen × List Int)
  | [], s, d => some (s, d)
  | t :: r, s, d => if s t = true then dfsL rec r s d else (rec t s d).bind fun x => dfsL rec r x.1 x.2
/-- One node: it is seen, then its ways, then it is done. -/
def dfsN (g : List (List Int)) : Nat → Int → Seen → List Int → Option (Seen × List Int)
  | 0, _, _, _ => none
  | k + 1, n, s, d => (dfsL (dfsN g k) (g.getD n.toNat []) (mark n s) d).map fun x => (x.1, x.2 ++ [n])
/-- How many of the first m are not seen. -/
def left : Nat → Seen → Nat
  | 0, _ => 0
  | m + 1, s => left m s + if s (m : Int) = true then 0 else 1
theorem left_mono {s s' : Seen} (h : ∀ k, s k = true → s' k = true) : ∀ m, left m s' ≤ left m s
  | 0 => Nat.le_refl _
  | m + 1 => by
    have := left_mono h m
    unfold left
    by_cases c : s (m : Int) = true
    · rw [if_pos c, if_pos (h _ c)]
      omega
    · rw [if_neg c]
      split <;> omega
theorem left_mark {s : Seen} {n : Int} (hs : s n = false) (h0 : 0 ≤ n) : ∀ m : Nat, n < (m : Int) → left m (mark n s) + 1 = left m s
  | 0, h => by omega
  | m + 1, h => by
    unfold left
    by_cases c : n = (m : Int)
    · have e : left m (mark n s) = left m s := by
        have aux : ∀ q : Nat, (q : Int) ≤ n → left q (mark n s) = left q s := by
          intro q
          induction q with
          | zero => intro _; rfl
          | succ q ih =>
            intro hq
            unfold left
            rw [ih (by omega)]
            have : mark n s (q : Int) = s (q : Int) := by unfold mark; rw [if_neg (by omega)]
            rw [this]
        exact aux m (by omega)
      rw [e, ← c, hs]
      simp [mark]
    · have ih := left_mark hs h0 m (by omega)
      have : mark n s (m : Int) = s (m : Int) := by unfold mark; rw [if_neg (fun e => c e.symm)]
      rw [this]
      omega
/-- All ways go to nodes. -/
def Good (g : List (List Int)) : Prop := ∀ l ∈ g, ∀ t ∈ l, 0 ≤ t ∧ t < (g.length : Int)
theorem good_at {g : List (List Int)} (h : Good g) (n : Nat) : ∀ t ∈ g.getD n [], 0 ≤ t ∧ t < (g.length : Int) := by
  intro t ht
  rw [List.getD_eq_getElem?_getD] at ht
  cases hq : g[n]? with
  | none => rw [hq] at ht; simp at ht
  | some l =>
    rw [hq] at ht
    exact h l (List.mem_of_getElem? hq) t ht
/-- The search ends. -/
theorem dfsN_some {g : List (List Int)} (hg : Good g) : ∀ (k : Nat) (n : Int) (s : Seen) (d : List Int), left g.length s ≤ k → s n = false → 0 ≤ n → n < (g.length : Int) →
    ∃ s' d', dfsN g k n s d = some (s', d') ∧ (∀ q, s q = true → s' q = true)
  | 0, n, s, d, hk, hs, h0, h1 => by
    have := left_mark hs h0 g.length h1
    omega
  | k + 1, n, s, d, hk, hs, h0, h1 => by
    have hm := left_mark hs h0 g.length h1
    have hl : ∀ (l : List Int), (∀ t ∈ l, 0 ≤ t ∧ t < (g.length : Int)) → ∀ (s1 : Seen) (d1 : List Int), left g.length s1 ≤ k → ∃ s' d', dfsL (dfsN g k) l s1 d1 = some (s', d') ∧ (∀ q, s1 q = true → s' q = true) := by
      intro l
      induction l with
      | nil => intro _ s1 d1 _; exact ⟨s1, d1, rfl, fun _ h => h⟩
      | cons t r ih =>
        intro ht s1 d1 hl1
        unfold dfsL
        by_cases c : s1 t = true
        · rw [if_pos c]
          exact ih (fun x hx => ht x (by simp [hx])) s1 d1 hl1
        · rw [if_neg c]
          obtain ⟨s2, d2, e2, m2⟩ := dfsN_some hg k t s1 d1 hl1 (by simpa using c) (ht t (by simp)).1 (ht t (by simp)).2
          obtain ⟨s3, d3, e3, m3⟩ := ih (fun x hx => ht x (by simp [hx])) s2 d2 (Nat.le_trans (left_mono m2 _) hl1)
          exact ⟨s3, d3, by rw [e2]; exact e3, fun q hq => m3 q (m2 q hq)⟩
    obtain ⟨s', d', e, m⟩ := hl (g.getD n.toNat []) (good_at hg _) (mark n s) d (by omega)
    refine ⟨s', d' ++ [n], by unfold dfsN; rw [e]; rfl, fun q hq => m q ?_⟩
    unfold mark
    split
    · rfl
    · exact hq
/-- What a search adds: R says what may stand there without a way from a later one. -/
structure Adds (g : List (List Int)) (s s' : Seen) (new : List Int) (R : Int → Prop) : Prop where
  seen : ∀ q, s' q = true ↔ (s q = true ∨ q ∈ new)
  nodup : new.Nodup
  fresh : ∀ q ∈ new, s q = false
  outs : ∀ q ∈ new, ∀ t ∈ g.getD q.toNat [], s' t = true
  from_ : ∀ (i : Nat) (q : Int), new[i]? = some q → R q ∨ ∃ (j : Nat) (p : Int), i < j ∧ new[j]? = some p ∧ q ∈ g.getD p.toNat []
  range : ∀ q ∈ new, 0 ≤ q ∧ q < (g.length : Int)
theorem Adds.nil (g : List (List Int)) (s : Seen) (R : Int → Prop) : Adds g s s [] R := ⟨by simp, by simp, by simp, by simp, by simp, by simp⟩
theorem Adds.app {g : List (List Int)} {s s1 s2 : Seen} {a b : List Int} {R R1 R2 : Int → Prop} (h1 : Adds g s s1 a R1) (h2 : Adds g s1 s2 b R2) (r1 : ∀ q, R1 q → R q) (r2 : ∀ q, R2 q → R q) : Adds g s s2 (a ++ b) R where
  seen q := by
    rw [h2.seen, h1.seen, List.mem_append, or_assoc]
  nodup := by
    rw [List.nodup_append]
    refine ⟨h1.nodup, h2.nodup, fun x hx y hy e => ?_⟩
    subst e
    have := h2.fresh x hy
    have := (h1.seen x).2 (.inr hx)
    simp_all
  fresh q hq := by
    rcases List.mem_append.1 hq with h | h
    · exact h1.fresh q h
    · have := h2.fresh q h
      cases hs : s q with
      | false => rfl
      | true =>
        have := (h1.seen q).2 (.inl hs)
        simp_all
  outs q hq t ht := by
    rcases List.mem_append.1 hq with h | h
    · exact (h2.seen t).2 (.inl (h1.outs q h t ht))
    · exact h2.outs q h t ht
  from_ i q hi := by
    by_cases c : i < a.length
    · rw [List.getElem?_append_left c] at hi
      rcases h1.from_ i q hi with h | ⟨j, p, hj, hp, hq⟩
      · exact .inl (r1 q h)
      · exact .inr ⟨j, p, hj, by rw [List.getElem?_append_left (List.getElem?_eq_some_iff.1 hp).1]; exact hp, hq⟩
    · rw [List.getElem?_append_right (by omega)] at hi
      rcases h2.from_ _ q hi with h | ⟨j, p, hj, hp, hq⟩
      · exact .inl (r2 q h)
      · exact .inr ⟨a.length + j, p, by omega, by rw [List.getElem?_append_right (by omega)]; simpa using hp, hq⟩
  range q hq := by
    rcases List.mem_append.1 hq with h | h
    · exact h1.range q h
    · exact h2.range q h
theorem dfsN_adds {g : List (List Int)} (hg : Good g) : ∀ (k : Nat) (n : Int) (s : Seen) (d : List Int) (s' : Seen) (d' : List Int), s n = false → 0 ≤ n → n < (g.length : Int) → dfsN g k n s d = some (s', d') →
    ∃ new, d' = d ++ (new ++ [n]) ∧ Adds g s s' (new ++ [n]) (fun q => q = n)
  | 0, n, s, d, s', d', _, _, _, h => by simp [dfsN] at h
  | k + 1, n, s, d, s', d', hs, h0, h1, h => by
    have hl : ∀ (l : List Int), (∀ t ∈ l, 0 ≤ t ∧ t < (g.length : Int)) → ∀ (s1 : Seen) (d1 : List Int) (s2 : Seen) (d2 : List Int), dfsL (dfsN g k) l s1 d1 = some (s2, d2) →
        ∃ new, d2 = d1 ++ new ∧ Adds g s1 s2 new (fun q => q ∈ l) ∧ ∀ t ∈ l, s2 t = true := by
      intro l
      induction l with
      | nil =>
        intro _ s1 d1 s2 d2 h
        simp only [dfsL, Option.some.injEq, Prod.mk.injEq] at h
        obtain ⟨rfl, rfl⟩ := h
        exact ⟨[], by simp, Adds.nil _ _ _, by simp⟩
      | cons t r ih =>
        intro ht s1 d1 s2 d2 h
        unfold dfsL at h
        by_cases c : s1 t = true
        · rw [if_pos c] at h
          obtain ⟨new, e, a, m⟩ := ih (fun x hx => ht x (by simp [hx])) s1 d1 s2 d2 h
          refine ⟨new, e, Adds.app (Adds.nil g s1 (fun _ => False)) a (fun _ h => h.elim) (fun q h => by simp [h]), fun x hx => ?_⟩
          rcases List.mem_cons.1 hx with rfl | hx
          · exact (a.seen x).2 (.inl c)
          · exact m x hx
        · rw [if_neg c] at h
          obtain ⟨⟨s3, d3⟩, e3, h⟩ := Option.bind_eq_some_iff.1 h
          obtain ⟨n1, rfl, a1⟩ := dfsN_adds hg k t s1 d1 s3 d3 (by simpa using c) (ht t (by simp)).1 (ht t (by simp)).2 e3
          obtain ⟨n2, e2, a2, m2⟩ := ih (fun x hx => ht x (by simp [hx])) s3 _ s2 d2 h
          refine ⟨(n1 ++ [t]) ++ n2, by rw [e2]; simp, Adds.app a1 a2 (fun q h => by simp [h]) (fun q h => by simp [h]), fun x hx => ?_⟩
          rcases List.mem_cons.1 hx with rfl | hx
          · exact (a2.seen x).2 (.inl ((a1.seen x).2 (.inr (by simp))))
          · exact m2 x hx
    unfold dfsN at h
    obtain ⟨⟨s2, d2⟩, e2, h⟩ := Option.map_eq_some_iff.1 h
    simp only [Prod.mk.injEq] at h
    obtain ⟨rfl, rfl⟩ := h
    obtain ⟨new, rfl, a, m⟩ := hl _ (good_at hg _) _ _ _ _ e2
    have hn : n ∉ new := fun hn => by
      have := a.fresh n hn
      simp [mark] at this
    refine ⟨new, by simp, ?_⟩
    refine ⟨fun q => ?_, ?_, fun q hq => ?_, fun q hq t ht => ?_, fun i q hi => ?_, fun q hq => ?_⟩
    · rw [a.seen]
      unfold mark
      by_cases c : q = n
      · simp [c]
      · simp [c]
    · rw [List.nodup_append]
      exact ⟨a.nodup, by simp, fun x hx y hy e => hn (by simp at hy; rw [← hy, ← e]; exact hx)⟩
    · rcases List.mem_append.1 hq with h | h
      · have := a.fresh q h
        unfold mark at this
        split at this
        · cases this
        · exact this
      · simp at h
        rw [h]
        exact hs
    · rcases List.mem_append.1 hq with h | h
      · exact a.outs q h t ht
      · simp at h
        subst h
        exact m t ht
    · by_cases c : i < new.length
      · rw [List.getElem?_append_left c] at hi
        rcases a.from_ i q hi with h | ⟨j, p, hj, hp, hq⟩
        · exact .inr ⟨new.length, n, c, by simp, h⟩
        · exact .inr ⟨j, p, hj, by rw [List.getElem?_append_left (List.getElem?_eq_some_iff.1 hp).1]; exact hp, hq⟩
      · rw [List.getElem?_append_right (by omega)] at hi
        have hil := (List.getElem?_eq_some_iff.1 hi).1
        have : i - new.length = 0 := by simp at hil; omega
        rw [this] at hi
        simp at hi
        exact .inl hi.symm
    · rcases List.mem_append.1 hq with h | h
      · exact a.range q h
      · simp at h
        subst h
        exact ⟨h0, h1⟩
end Go.Proofs.DomP
/- dom.walk: the search. -/
set_option linter.unusedVariables false
namespace Go.Dm
open Go Go.Sx Go.Sy Go.RowKit Go.Proofs.DomP

theorem et34 : ET P 34 3 := ⟨by kernel_rfl, by kernel_rfl, ⟨.int .i64 0, by kernel_rfl, rfl⟩, by kernel_rfl, by rw [show bytesT P 3 = 8 by kernel_rfl]; decide⟩

noncomputable def dL : AFr := hd P 57 [.r, .l, .r, .i]

theorem deep0 (w0 : World) (K : AM → Prop) (Kr : AV → AH → Prop) (below : List AFr) (bs bd bf sn d gn goff len : Nat) (vg hv : AV) (n : Int) (H : AH) : (trun P w0 57 K Kr 200 0 [] ⟨frOf P 57 [.int .i64 n, .ptr bs 0, .ptr bd 0, .ptr bf 0], below, H⟩ (.v (.map sn) (.v (.ptr d 0) (.v vg (.bs gn goff (.v hv (.ln len .stop))))))) = (rdAt H bs 0 = some (AV.map sn) ∧ MsOk P H sn 3 (AV.int IntKind.i64 n) ∧ apartOk H (stackPend below) [sn] = true ∧ rdAt (mset P H sn 3 (AV.int IntKind.i64 n) (AV.bool true)) bd 0 = some (AV.ptr d 0) ∧ rdAt (mset P H sn 3 (AV.int IntKind.i64 n) (AV.bool true)) d 0 = some vg ∧ SlAt vg gn goff n ∧ rdAt (mset P H sn 3 (AV.int IntKind.i64 n) (AV.bool true)) gn (goff + Int.toNat n * 1) = some hv ∧ aLen P (mset P H sn 3 (AV.int IntKind.i64 n) (AV.bool true)) 34 hv = some (AV.int IntKind.i64 (↑len : Int), []) ∧ K (AM.mk (w dL (tl [AV.int IntKind.i64 n, AV.ptr bs 0, AV.ptr bd 0, AV.ptr bf 0, AV.tuple [], AV.tuple [], AV.tuple [], AV.map sn, AV.int IntKind.i64 n, AV.ptr d 0, AV.ptr d 0, AV.ptr d 0, vg, AV.int IntKind.i64 n, AV.ptr gn (goff + Int.toNat n * 1), hv, AV.int IntKind.i64 (↑len : Int), AV.int IntKind.i64 (0 : Int), AV.tuple [], AV.tuple [], AV.tuple [], AV.tuple [], AV.tuple [], AV.tuple [], AV.tuple [], AV.tuple [], AV.tuple [], AV.tuple [], AV.tuple [], AV.tuple [], AV.tuple [], AV.tuple [], AV.tuple [], AV.tuple [], AV.tuple [], AV.tuple [], AV.tuple [], AV.tuple [], AV.tuple []])) below (mset P H sn 3 (AV.int IntKind.i64 n) (AV.bool true)))) := by kernel_rfl

theorem deepSeen (w0 : World) (K : AM → Prop) (Kr : AV → AH → Prop) (below : List AFr) (z : Nat → AV) (bs bd bf sn hn hoff len : Nat) (hv : AV) (n i t : Int) (H : AH) : (trun P w0 57 K Kr 200 0 [] ⟨w dL (setL (tz 39 z) [(0, .int .i64 n), (1, .ptr bs 0), (2, .ptr bd 0), (3, .ptr bf 0), (15, hv), (16, .int .i64 len), (17, .int .i64 i)]), below, H⟩ (.tt (.bs hn hoff (.v (.int .i64 t) (.v (.map sn) (.v (.bool true) (.ff .stop))))))) = (decide (i < (↑len : Int)) = true ∧ SlAt hv hn hoff i ∧ rdAt H hn (hoff + Int.toNat i * 1) = some (AV.int IntKind.i64 t) ∧ rdAt H bs 0 = some (AV.map sn) ∧ Hit P H sn 3 (AV.int IntKind.i64 t) (AV.bool true) ∧ (!true) = false ∧ K (AM.mk (w dL (tl [AV.int IntKind.i64 n, AV.ptr bs 0, AV.ptr bd 0, AV.ptr bf 0, z 4, z 5, AV.int IntKind.i64 t, z 7, z 8, z 9, z 10, z 11, z 12, z 13, z 14, hv, AV.int IntKind.i64 (↑len : Int), AV.int IntKind.i64 (IntKind.wrap IntKind.i64 (i + (1 : Int))), AV.bool true, AV.ptr hn (hoff + Int.toNat i * 1), AV.int IntKind.i64 t, AV.map sn, AV.int IntKind.i64 t, AV.bool true, AV.bool false, z 25, z 26, z 27, AV.int IntKind.i64 (IntKind.wrap IntKind.i64 (i + (1 : Int))), z 29, z 30, z 31, z 32, z 33, z 34, z 35, z 36, z 37, z 38])) below H)) := by kernel_rfl

theorem deepNew (w0 : World) (K : AM → Prop) (Kr : AV → AH → Prop) (below : List AFr) (z : Nat → AV) (bs bd bf sn hn hoff len : Nat) (hv : AV) (n i t : Int) (H : AH) (W : Nat → Prop) (Q : Unit → AH → Prop) : (trun P w0 57 K Kr 200 0 [] ⟨w dL (setL (tz 39 z) [(0, .int .i64 n), (1, .ptr bs 0), (2, .ptr bd 0), (3, .ptr bf 0), (15, hv), (16, .int .i64 len), (17, .int .i64 i)]), below, H⟩ (.tt (.bs hn hoff (.v (.int .i64 t) (.v (.map sn) (.ff (.tt (.v (.func 57 [] [.ptr bs 0, .ptr bd 0, .ptr bf 0]) (.call Unit W (fun _ => .tuple []) Q (fun _ _ => .stop)))))))))) = (decide (i < (↑len : Int)) = true ∧ SlAt hv hn hoff i ∧ rdAt H hn (hoff + Int.toNat i * 1) = some (AV.int IntKind.i64 t) ∧ rdAt H bs 0 = some (AV.map sn) ∧ Miss P H sn 3 (AV.int IntKind.i64 t) ∧ (!false) = true ∧ rdAt H bf 0 = some (AV.func 57 [] [AV.ptr bs 0, AV.ptr bd 0, AV.ptr bf 0]) ∧ True ∧ (Ret P w0 57 [AV.int IntKind.i64 t, AV.ptr bs 0, AV.ptr bd 0, AV.ptr bf 0] H W fun (v : AV) (H' : AH) ↦ ∃ (x : Unit), v = AV.tuple [] ∧ Q x H') ∧ Pok H W (stackPend below) ∧ ∀ (x : Unit) (H' : AH), Q x H' → K (AM.mk (w dL (tl [AV.int IntKind.i64 n, AV.ptr bs 0, AV.ptr bd 0, AV.ptr bf 0, z 4, z 5, AV.int IntKind.i64 t, z 7, z 8, z 9, z 10, z 11, z 12, z 13, z 14, hv, AV.int IntKind.i64 (↑len : Int), AV.int IntKind.i64 (IntKind.wrap IntKind.i64 (i + (1 : Int))), AV.bool true, AV.ptr hn (hoff + Int.toNat i * 1), AV.int IntKind.i64 t, AV.map sn, AV.int IntKind.i64 t, AV.bool false, AV.bool true, AV.func 57 [] [AV.ptr bs 0, AV.ptr bd 0, AV.ptr bf 0], AV.int IntKind.i64 t, AV.tuple [], AV.int IntKind.i64 (IntKind.wrap IntKind.i64 (i + (1 : Int))), z 29, z 30, z 31, z 32, z 33, z 34, z 35, z 36, z 37, z 38])) below H')) := by kernel_rfl

theorem deepEnd (w0 : World) (K : AM → Prop) (Kr : AV → AH → Prop) (below : List AFr) (z : Nat → AV) (bs bd bf d len : Nat) (hv vo vo' : AV) (n i : Int) (H H' : AH) (ns : List Nat) : (trun P w0 57 K Kr 200 0 [] ⟨w dL (setL (tz 39 z) [(0, .int .i64 n), (1, .ptr bs 0), (2, .ptr bd 0), (3, .ptr bf 0), (15, hv), (16, .int .i64 len), (17, .int .i64 i)]), below, H⟩ (.ff (.v (.ptr d 0) (.v (.ptr d 0) (.v vo (.r (.val vo', H', ns) .stop)))))) = (decide (i < (↑len : Int)) = false ∧ rdAt H bd 0 = some (AV.ptr d 0) ∧ rdAt H bd 0 = some (AV.ptr d 0) ∧ rdAt H d 2 = some vo ∧ True ∧ aAppend P (AH.new H (AObj.row [AV.int IntKind.i64 n] 3 true (St.own none))) [34, 34] [vo, AV.slice (AH.nx H) 0 1 1] = some [(AN.val vo', H', ns)] ∧ apartOk (AH.new H (AObj.row [AV.int IntKind.i64 n] 3 true (St.own none))) (bd :: stackPend below) ns = true ∧ AV.single vo' = true ∧ StOk H' d 2 1 ∧ apartOk H' (stackPend below) (d :: stOld H' d) = true ∧ Kr (AV.tuple []) (stO H' d 2 [vo'])) := by kernel_rfl

section
variable {w0 : World} {H0 : AH} {S : Nat → Prop} {bs bd bf d sn : Nat} {vg vp vm vi : AV} {g : List (List Int)} {hs : List AV}

/-- What stays while the search runs. -/
structure DEnv (H0 : AH) (S : Nat → Prop) (bs bd bf d sn : Nat) (vg : AV) (g : List (List Int)) (hs : List AV) : Prop where
  hbs : rdAt H0 bs 0 = some (.map sn)
  hbd : rdAt H0 bd 0 = some (.ptr d 0)
  hbf : rdAt H0 bf 0 = some (.func 57 [] [.ptr bs 0, .ptr bd 0, .ptr bf 0])
  s1 : S bs
  s2 : S bd
  s3 : S bf
  mat : Mat H0 S vg g hs
  small : ∀ l ∈ g, l.length ≤ 1024
  good : Go.Proofs.DomP.Good g

/-- Where the search stands. -/
structure DSt (H0 : AH) (S : Nat → Prop) (d sn : Nat) (vg vp vm vi : AV) (H : AH) (vo : AV) (s : Seen) (ord : List Int) : Prop where
  same : ∀ m, S m → H.get m = H0.get m
  row : H.get d = some (.row [vg, vp, vo, vm, vi] 52 true (.own none))
  seen : MapF H sn kI AV.bool (fun k => if s k = true then some true else none)
  ord : Lst H vo 3 (ord.map kI)
  dsn : d ≠ sn
  ld : ¬ LN H vo d
  ls : ¬ LN H vo sn
  st : ∀ m, S m → m < H.nx ∧ m ≠ d ∧ m ≠ sn ∧ ¬ LN H vo m

def DO (d sn : Nat) (H : AH) (vo : AV) : Nat → Prop := fun m => m = d ∨ m = sn ∨ LN H vo m

structure DStep (d sn : Nat) (H : AH) (vo : AV) (H' : AH) (vo' : AV) : Prop where
  kept : Kept (DO d sn H vo) H H'
  ln : ∀ m, LN H' vo' m → LN H vo m ∨ H.nx ≤ m

theorem DStep.refl (H : AH) (vo : AV) : DStep d sn H vo H vo := ⟨Kept.refl _ _, fun m h => .inl h⟩

theorem DStep.trans {H H' H'' : AH} {vo vo' vo'' : AV} (h : DStep d sn H vo H' vo') (g : DStep d sn H' vo' H'' vo'') : DStep d sn H vo H'' vo'' :=
  ⟨h.kept.trans' g.kept fun m hm hw => by
    rcases hw with hw | hw | hw
    · exact .inl hw
    · exact .inr (.inl hw)
    · rcases h.ln m hw with hw | hw
      · exact .inr (.inr hw)
      · omega, fun m hm => by
    rcases g.ln m hm with hm | hm
    · exact h.ln m hm
    · have := h.kept.nx; omega⟩

theorem DStep.pok {H H' : AH} {vo vo' : AV} {pend : List Nat} (h : DStep d sn H vo H' vo') (hw : Wf H) (hp : Pok H (DO d sn H vo) pend) : Pok H' (DO d sn H' vo') pend :=
  hp.mono hw h.kept fun m hm hx => by
    rcases hx with hx | hx | hx
    · exact .inl hx
    · exact .inr (.inl hx)
    · rcases h.ln m hx with hx | hx
      · exact .inr (.inr hx)
      · omega

theorem dfs_len {g : List (List Int)} : ∀ (k : Nat) (n : Int) (s : Seen) (d : List Int) (s' : Seen) (d' : List Int), dfsN g k n s d = some (s', d') → d.length < d'.length
  | 0, n, s, d, s', d', h => by simp [dfsN] at h
  | k + 1, n, s, d, s', d', h => by
    have hl : ∀ (l : List Int) (s1 : Seen) (d1 : List Int) (s2 : Seen) (d2 : List Int), dfsL (dfsN g k) l s1 d1 = some (s2, d2) → d1.length ≤ d2.length := by
      intro l
      induction l with
      | nil => intro s1 d1 s2 d2 h; simp only [dfsL, Option.some.injEq, Prod.mk.injEq] at h; rw [h.2]; exact Nat.le_refl _
      | cons t r ih =>
        intro s1 d1 s2 d2 h
        unfold dfsL at h
        split at h
        · exact ih _ _ _ _ h
        · obtain ⟨⟨s3, d3⟩, e3, h⟩ := Option.bind_eq_some_iff.1 h
          have := dfs_len k t s1 d1 s3 d3 e3
          have := ih _ _ _ _ h
          dsimp only at this
          omega
    unfold dfsN at h
    obtain ⟨⟨s2, d2⟩, e2, h⟩ := Option.map_eq_some_iff.1 h
    simp only [Prod.mk.injEq] at h
    obtain ⟨rfl, rfl⟩ := h
    have := hl _ _ _ _ _ e2
    simp
    omega

theorem dfsL_len {g : List (List Int)} {k : Nat} : ∀ (l : List Int) (s1 : Seen) (d1 : List Int) (s2 : Seen) (d2 : List Int), dfsL (dfsN g k) l s1 d1 = some (s2, d2) → d1.length ≤ d2.length
  | [], s1, d1, s2, d2, h => by simp only [dfsL, Option.some.injEq, Prod.mk.injEq] at h; rw [h.2]; exact Nat.le_refl _
  | t :: r, s1, d1, s2, d2, h => by
    unfold dfsL at h
    split at h
    · exact dfsL_len r _ _ _ _ h
    · obtain ⟨⟨s3, d3⟩, e3, h⟩ := Option.bind_eq_some_iff.1 h
      have := dfs_len k t s1 d1 s3 d3 e3
      have := dfsL_len r _ _ _ _ h
      dsimp only at this
      omega

/-- The end of a node: it is put behind the order. -/
theorem deep_put {H : AH} {vo : AV} {s : Seen} {ord : List Int} (hw : Wf H) (h : DSt H0 S d sn vg vp vm vi H vo s ord) (n : Int) (hlen : ord.length + 1 ≤ 100000000) :
    ∃ v' H' ns, aAppend P (H.new (.row [.int .i64 n] 3 true (.own none))) [34, 34] [vo, .slice H.nx 0 1 1] = some [(.val v', H', ns)] ∧ AV.single v' = true ∧ StOk H' d 2 1 ∧
      DSt H0 S d sn vg vp vm vi (stO H' d 2 [v']) v' s (ord ++ [n]) ∧ DStep d sn H vo (stO H' d 2 [v']) v' ∧
      (∀ pend, Pok H (DO d sn H vo) pend → AOk (H.new (.row [.int .i64 n] 3 true (.own none))) pend ns ∧ AOk H' pend (d :: stOld H' d)) := by
  have hdlt := hw d _ h.row
  let Hb := H.new (.row [.int .i64 n] 3 true (.own none))
  have hbget : ∀ m, m < H.nx → Hb.get m = H.get m := fun m hm => by show (H.new _).get m = _; rw [get_new, if_neg (by omega)]
  have hl0 : Lst Hb vo 3 (ord.map kI) := h.ord.congr fun m off hb => hbget m (h.ord.slr.lt hw hb)
  have hln : ∀ m, LN Hb vo m ↔ LN H vo m := fun m => by
    cases hb : slBase vo with
    | none => unfold LN; rw [hb]; simp
    | some x => exact LN_congr hb (hbget x.1 (h.ord.slr.lt hw hb)) m
  obtain ⟨v', H', ns, h1, h2, h3, h4, h5⟩ := hl0.append et34 (t2 := 34) (by kernel_rfl) et34.made (hw.new _) (x := .slice H.nx 0 1 1) (new := [.int .i64 n]) rfl
    (by show aFirst (H.new _) 1 1 (.slice H.nx 0 1 1) = _; simp [aFirst, get_new]) rfl (by simpa using hlen)
  have hnx : H.nx + 1 ≤ H'.nx := h3.nx
  have hkept : ∀ m, m < H.nx → ¬ LN H vo m → H'.get m = H.get m := fun m hm hx => by
    rw [h3.get m (Nat.lt_succ_of_lt hm) (fun x => hx ((hln m).1 x)), hbget m hm]
  have hd' : H'.get d = some (.row [vg, vp, vo, vm, vi] 52 true (.own none)) := by rw [hkept d hdlt h.ld]; exact h.row
  have hst2 : stO H' d 2 [v'] = H'.put d (.row [vg, vp, v', vm, vi] 52 true (.own none)) := stO_eq (vs := [v']) (off := 2) hd'
  have hln' : ∀ m, LN H' v' m → LN H vo m ∨ H.nx ≤ m := fun m hm => by
    rcases h4 m hm with h | h
    · exact .inl ((hln m).1 h)
    · have : H.nx + 1 ≤ m := h; exact .inr (by omega)
  have hdb : ∀ a off, slBase v' = some (a, off) → a ≠ d := fun a off hb e => by
    subst e
    rcases hln' a ⟨a, off, hb, .inl rfl⟩ with h' | h'
    · exact h.ld h'
    · omega
  have hln2 : ∀ m, LN (stO H' d 2 [v']) v' m ↔ LN H' v' m := fun m => by
    cases hb : slBase v' with
    | none => unfold LN; rw [hb]; simp
    | some x => exact LN_congr hb (by rw [hst2, get_put, if_neg (hdb x.1 x.2 hb)]) m
  refine ⟨v', H', ns, h1, h2.single, ⟨_, _, _, _, hd', by simp⟩, ?_, ⟨⟨?_, fun m hm hx => ?_⟩, fun m hm => hln' m ((hln2 m).1 hm)⟩, fun pend hp => ?_⟩
  · refine ⟨fun m hm => ?_, ?_, ?_, ?_, h.dsn, fun hx => ?_, fun hx => ?_, fun m hm => ?_⟩
    · obtain ⟨q1, q2, q3, q4⟩ := h.st m hm
      rw [hst2, get_put, if_neg q2, hkept m q1 q4]; exact h.same m hm
    · rw [hst2, get_put, if_pos rfl]
    · refine h.seen.congr ?_
      have := h.seen.lt hw
      rw [hst2, get_put, if_neg (fun e => h.dsn e.symm), hkept sn this h.ls]
    · rw [List.map_append]
      exact h2.congr fun a off hb => by rw [hst2, get_put, if_neg (hdb a off hb)]
    · rcases hln' d ((hln2 d).1 hx) with h' | h'
      · exact h.ld h'
      · omega
    · have := h.seen.lt hw
      rcases hln' sn ((hln2 sn).1 hx) with h' | h'
      · exact h.ls h'
      · omega
    · obtain ⟨q1, q2, q3, q4⟩ := h.st m hm
      refine ⟨by rw [nx_stO]; omega, q2, q3, fun hx => ?_⟩
      rcases hln' m ((hln2 m).1 hx) with h' | h'
      · exact q4 h'
      · omega
  · rw [nx_stO]; omega
  · rw [hst2, get_put, if_neg (fun e => hx (.inl e)), hkept m hm fun e => hx (.inr (.inr e))]
  · have hpb : Pok Hb (DO d sn H vo) pend := hp.mono hw (Kept.new _ _ _) fun m _ hx => hx
    refine ⟨h5 _ pend hpb fun m hm => .inl (.inr (.inr ((hln m).1 hm))), ?_⟩
    rw [stOld_eq hd']
    have hp' : Pok H' (DO d sn H vo) pend := hp.mono hw ⟨by omega, fun m hm hx => hkept m hm fun e => hx (.inr (.inr e))⟩ fun m _ hx => hx
    exact AOk.one hp' hd' rfl rfl (.inl rfl)

def dHead (bs bd bf : Nat) (n : Int) (hv : AV) (len : Nat) (i : Int) : List (Nat × AV) := [(0, .int .i64 n), (1, .ptr bs 0), (2, .ptr bd 0), (3, .ptr bf 0), (15, hv), (16, .int .i64 len), (17, .int .i64 i)]

def DRet (H0 : AH) (S : Nat → Prop) (d sn : Nat) (vg vp vm vi : AV) (H : AH) (vo : AV) (s : Seen) (ord : List Int) : AV → AH → Prop := fun v H' => v = .tuple [] ∧ ∃ vo', DSt H0 S d sn vg vp vm vi H' vo' s ord ∧ DStep d sn H vo H' vo'

theorem seen_hit {H : AH} {vo : AV} {s : Seen} {ord : List Int} (h : DSt H0 S d sn vg vp vm vi H vo s ord) {t : Int} (ht : s t = true) : Hit P H sn 3 (.int .i64 t) (.bool true) := h.seen.hit (vf := AV.bool) key3 (k := t) (b := true) (by simp [ht])

theorem seen_miss {H : AH} {vo : AV} {s : Seen} {ord : List Int} (h : DSt H0 S d sn vg vp vm vi H vo s ord) {t : Int} (ht : ¬ s t = true) : Miss P H sn 3 (.int .i64 t) := h.seen.miss (vf := AV.bool) key3 (k := t) (by simp [ht])

theorem DSt.rd {H : AH} {vo : AV} {s : Seen} {ord : List Int} (h : DSt H0 S d sn vg vp vm vi H vo s ord) {m off : Nat} (hm : S m) : rdAt H m off = rdAt H0 m off := rdAt_congr (h.same m hm) off

theorem deep_loop (E : DEnv H0 S bs bd bf d sn vg g hs) {k : Nat} {n : Int} {below : List AFr} {H : AH} {vo : AV} {hv : AV} {l : List Int} (hl : SlR H0 hv (l.map kI)) (hlS : ∀ a off, slBase hv = some (a, off) → S a) (hgood : ∀ t ∈ l, 0 ≤ t ∧ t < (g.length : Int)) (hsm : l.length ≤ 1024) (hw0 : Wf H) (hp : Pok H (DO d sn H vo) (stackPend below)) {s2 : Seen} {ord2 : List Int} (hlen : ord2.length + 1 ≤ 100000000)
    (ih : ∀ (t : Int) (s : Seen) (ord : List Int) (s' : Seen) (ord' : List Int) (H : AH) (vo : AV), DSt H0 S d sn vg vp vm vi H vo s ord → s t = false → 0 ≤ t → t < (g.length : Int) → dfsN g k t s ord = some (s', ord') → ord'.length ≤ 100000000 → Ret P w0 57 [.int .i64 t, .ptr bs 0, .ptr bd 0, .ptr bf 0] H (DO d sn H vo) (DRet H0 S d sn vg vp vm vi H vo s' ord')) :
    ∀ (r : List Int) (j : Nat) (Hc : AH) (voc : AV) (s1 : Seen) (ord1 : List Int), l.drop j = r → j ≤ l.length → DSt H0 S d sn vg vp vm vi Hc voc s1 ord1 → DStep d sn H vo Hc voc → dfsL (dfsN g k) r s1 ord1 = some (s2, ord2) →
      ∀ z, Leads P w0 (RetK P 57 below (DRet H0 S d sn vg vp vm vi H vo s2 (ord2 ++ [n]))) ⟨w dL (setL (tz 39 z) (dHead bs bd bf n hv l.length j)), below, Hc⟩
  | [], j, Hc, voc, s1, ord1, hdrop, hj, h, hst, hd, z => by
    refine Leads.wf fun hw => ?_
    simp only [dfsL, Option.some.injEq, Prod.mk.injEq] at hd
    obtain ⟨rfl, rfl⟩ := hd
    have hjl : j = l.length := by
      have := congrArg List.length hdrop
      simp at this
      omega
    obtain ⟨v', H', ns, q1, q2, q3, q4, q5, q6⟩ := deep_put hw h n hlen
    have hpc := hst.pok hw0 hp
    have hpb : Pok Hc (DO d sn Hc voc) (bd :: stackPend below) := fun p hp' => by
      rcases List.mem_cons.1 hp' with rfl | hp'
      · obtain ⟨a1, a2, a3, a4⟩ := h.st p E.s2
        refine ⟨?_, fun hx => ?_⟩
        · have := h.rd (off := 0) E.s2
          rw [E.hbd] at this
          unfold rdAt at this
          cases hg : Hc.get p with
          | none => rw [hg] at this; cases this
          | some o => rfl
        · rcases hx with hx | hx | hx
          · exact a2 hx
          · exact a3 hx
          · exact a4 hx
      · exact hpc p hp'
    exact Leads.go fine (deepEnd w0 _ _ below z bs bd bf d l.length hv voc v' n j Hc H' ns) rfl ⟨by simp [hjl], (h.rd E.s2).trans E.hbd, (h.rd E.s2).trans E.hbd, by rw [rdAt_row h.row]; rfl, trivial, q1, (q6 _ hpb).1, q2, q3, (q6 _ hpc).2, rfl, v', q4, hst.trans q5⟩
  | t :: r, j, Hc, voc, s1, ord1, hdrop, hj, h, hst, hd, z => by
    refine Leads.wf fun hw => ?_
    have hlt : j < l.length := by
      rcases Nat.lt_or_ge j l.length with h | h
      · exact h
      · rw [List.drop_eq_nil_of_le h] at hdrop; cases hdrop
    have hjt : l[j]? = some t := by
      have := List.drop_eq_getElem_cons hlt
      rw [this] at hdrop
      injection hdrop with h1 h2
      rw [List.getElem?_eq_getElem hlt, h1]
    have hdr : l.drop (j + 1) = r := by
      have := List.drop_eq_getElem_cons hlt
      rw [this] at hdrop
      injection hdrop with h1 h2
    have htl : t ∈ l := List.mem_of_getElem? hjt
    obtain ⟨a, off, hb, q1, q2⟩ := hl.int hjt
    have q2' : rdAt Hc a (off + Int.toNat (j : Int) * 1) = some (.int .i64 t) := by
      rw [h.rd (hlS a off hb)]; simpa using q2
    have hwr : IntKind.wrap .i64 ((j : Int) + 1) = ((j + 1 : Nat) : Int) := by rw [wrapI (by omega) (by omega)]; rfl
    unfold dfsL at hd
    by_cases c : s1 t = true
    · rw [if_pos c] at hd
      refine Leads.go fine (deepSeen w0 _ _ below z bs bd bf sn a off l.length hv n j t Hc) rfl ⟨by simpa using hlt, q1, q2', (h.rd E.s1).trans E.hbs, seen_hit h c, rfl, ?_⟩
      rw [hwr]
      exact Leads.at (dHead bs bd bf n hv l.length (j + 1 : Nat)) (by kernel_rfl) (deep_loop E hl hlS hgood hsm hw0 hp hlen ih r (j + 1) Hc voc s1 ord1 hdr hlt h hst hd)
    · rw [if_neg c] at hd
      obtain ⟨⟨s3, ord3⟩, e3, hd⟩ := Option.bind_eq_some_iff.1 hd
      dsimp only at hd
      have hle := dfsL_len r _ _ _ _ hd
      have hret := ih t s1 ord1 s3 ord3 Hc voc h (by simpa using c) (hgood t htl).1 (hgood t htl).2 e3 (by omega)
      refine Leads.go fine (deepNew w0 _ _ below z bs bd bf sn a off l.length hv n j t Hc (DO d sn Hc voc) (fun _ H' => DRet H0 S d sn vg vp vm vi Hc voc s3 ord3 (.tuple []) H')) rfl
        ⟨by simpa using hlt, q1, q2', (h.rd E.s1).trans E.hbs, seen_miss h c, rfl, (h.rd E.s3).trans E.hbf, trivial, hret.mono (fun v H' q => ⟨(), q.1, by rw [← q.1]; exact q⟩), hst.pok hw0 hp, fun _ H' hq => ?_⟩
      obtain ⟨_, vo', q3, q4⟩ := hq
      rw [hwr]
      exact Leads.at (dHead bs bd bf n hv l.length (j + 1 : Nat)) (by kernel_rfl) (deep_loop E hl hlS hgood hsm hw0 hp hlen ih r (j + 1) H' vo' s3 ord3 hdr hlt q3 (hst.trans q4) hd)

/-- THE CONTRACT OF deep. -/
theorem deep_ret (E : DEnv H0 S bs bd bf d sn vg g hs) : ∀ (k : Nat) (n : Int) (s : Seen) (ord : List Int) (s' : Seen) (ord' : List Int) (H : AH) (vo : AV), DSt H0 S d sn vg vp vm vi H vo s ord → s n = false → 0 ≤ n → n < (g.length : Int) → dfsN g k n s ord = some (s', ord') → ord'.length ≤ 100000000 →
      Ret P w0 57 [.int .i64 n, .ptr bs 0, .ptr bd 0, .ptr bf 0] H (DO d sn H vo) (DRet H0 S d sn vg vp vm vi H vo s' ord')
  | 0, n, s, ord, s', ord', H, vo, h, hs, h0, h1, hd, hlen => by simp [dfsN] at hd
  | k + 1, n, s, ord, s', ord', H, vo, h, hs, h0, h1, hd, hlen => Ret.mk fun below hp => by
    refine Leads.wf fun hw => ?_
    unfold dfsN at hd
    obtain ⟨⟨s2, ord2⟩, e2, hd⟩ := Option.map_eq_some_iff.1 hd
    simp only [Prod.mk.injEq] at hd
    obtain ⟨rfl, rfl⟩ := hd
    have hlt : n.toNat < g.length := by omega
    have hgl : g[n.toNat]? = some g[n.toNat] := List.getElem?_eq_getElem hlt
    have hgd : g.getD n.toNat [] = g[n.toNat] := by rw [List.getD_eq_getElem?_getD, hgl]; rfl
    obtain ⟨gn, goff, hv, q1, q2, q3, q4, q5⟩ := E.mat.at hgl
    let H1 := mset P H sn 3 (.int .i64 n) (.bool true)
    have hg1 : ∀ m, m ≠ sn → H1.get m = H.get m := fun m hm => get_mset H sn m 3 _ _ hm
    have hn1 : H1.nx = H.nx := nx_mset _ _ _ _ _
    have hln : ∀ m, LN H1 vo m ↔ LN H vo m := fun m => by
      cases hb : slBase vo with
      | none => unfold LN; rw [hb]; simp
      | some x => exact LN_congr hb (hg1 x.1 fun e => h.ls ⟨x.1, x.2, hb, .inl e.symm⟩) m
    have h1s : DSt H0 S d sn vg vp vm vi H1 vo (Go.Proofs.DomP.mark n s) ord := by
      refine ⟨fun m hm => by rw [hg1 m (h.st m hm).2.2.1]; exact h.same m hm, by rw [hg1 d h.dsn]; exact h.row, ?_, h.ord.congr fun a off hb => hg1 a fun e => h.ls ⟨a, off, hb, .inl e.symm⟩, h.dsn, fun hx => h.ld ((hln d).1 hx), fun hx => h.ls ((hln sn).1 hx), fun m hm => ?_⟩
      · refine MapF.fn (h.seen.set (vf := AV.bool) key3 n true) fun j => ?_
        unfold Go.Proofs.DomP.mark
        by_cases hj : j = n
        · rw [if_pos hj, if_pos hj]; rfl
        · rw [if_neg hj, if_neg hj]
      · obtain ⟨a1, a2, a3, a4⟩ := h.st m hm
        exact ⟨by rw [hn1]; exact a1, a2, a3, fun hx => a4 ((hln m).1 hx)⟩
    have hstep : DStep d sn H vo H1 vo := ⟨⟨by rw [hn1]; exact Nat.le_refl _, fun m hm hx => hg1 m fun e => hx (.inr (.inl e))⟩, fun m hm => .inl ((hln m).1 hm)⟩
    have hsl := E.small _ (List.mem_of_getElem? hgl)
    have hlen2 : ord2.length + 1 ≤ 100000000 := by simpa using hlen
    obtain ⟨es, c, hobj⟩ := h.seen.obj
    refine Leads.go fine (deep0 w0 _ _ below bs bd bf sn d gn goff (g[n.toNat]).length vg hv n H) (by kernel_rfl) ⟨(h.rd E.s1).trans E.hbs, h.seen.ms (vf := AV.bool) key3 n, AOk.one hp hobj rfl rfl (.inr (.inl rfl)), (h1s.rd E.s2).trans E.hbd, by show rdAt H1 d 0 = _; rw [rdAt_row h1s.row]; rfl, by have := q1; rwa [show ((n.toNat : Nat) : Int) = n by omega] at this, by show rdAt H1 gn _ = _; rw [h1s.rd q3]; simpa using q2, ?_, ?_⟩
    · have := (q4.congr fun a off hb => h1s.same a (q5 a off hb)).aLen (P := P) et34.und
      simpa using this
    · rw [hgd] at e2
      have hloop := deep_loop (w0 := w0) (below := below) (n := n) (vp := vp) (vm := vm) (vi := vi) E q4 q5 (fun t ht => good_at E.good n.toNat t (by rw [hgd]; exact ht)) hsl hw hp hlen2 (deep_ret E k) _ 0 H1 vo (Go.Proofs.DomP.mark n s) ord rfl (Nat.zero_le _) h1s hstep e2
      exact Leads.at (dHead bs bd bf n hv (g[n.toNat]).length (0 : Nat)) (by kernel_rfl) hloop
end
end Go.Dm
