/- The engine and the contracts, part 2. No condition beyond the hypotheses of each theorem. -/
import Derived.Test.YtkcdnpbcbmcgkaaG01
import Derived.IntWalk
/- A world turns: a new block, a row written, a map written; the symbolic heap turns with it. -/
namespace Go.Sx
open Go Go.RowKit
section
variable {E E' : Env} {ι : Val} {B : Base} {w0 w : World} {H : AH}
theorem TMR_ext {tm : TM} {C : Array Value} (h : Ext E E') (g : TMR E ι tm C) : TMR E' ι tm C := ⟨g.1, fun i => cv_ext h _ _ (g.2 i)⟩
theorem cvE_ext (h : Ext E E') {es : List (AV × AV × Nat)} {ces : List MapEntry} (g : cvE E ι es = some ces) : cvE E' ι es = some ces := by
  obtain ⟨h1, h2⟩ := cvE_get g
  exact cvE_of_get h1 fun i e he => by
    obtain ⟨k, v, a, b, c⟩ := h2 i e he
    exact ⟨k, v, cv_ext h _ _ a, cv_ext h _ _ b, c⟩
theorem RowR_ext (h : Ext E E') {cells : List AV} {t : TypeId} {ex : Bool} {e : Nat × Nat × Nat} {cs : Array Value} {fz : Nat × Nat} (g : RowR E ι cells t ex e cs fz) : RowR E' ι cells t ex e cs fz :=
  ⟨fun i v hv => by obtain ⟨c, a, b⟩ := g.at_ i v hv; exact ⟨c, cv_ext h _ _ a, b⟩, g.len, g.fits, g.exact, g.free⟩
theorem OR_ext (h : Ext E E') {o : AObj} {e : Nat × Nat × Nat} {x : Option Obj} (g : OR E ι o e x) : OR E' ι o e x := by
  cases g with
  | row r => exact .row (RowR_ext h r)
  | map r => exact .map (cvE_ext h r)
  | iter0 hz => exact .iter0 hz
  | iter hz r => exact .iter hz (h _ _ r)
  | loop r s => exact .loop (TMR_ext h r) (h _ _ s)
  | there => exact .there
  | gone => exact .gone
theorem get_app_lt {x : Nat × Nat × Nat} {n : Nat} {e : Nat × Nat × Nat} (h : (E ++ [x])[n]? = some e) : E[n]? = some e ∨ (n = E.length ∧ e = x) := by
  rw [List.getElem?_append] at h
  split at h
  · exact .inl h
  · rename_i hl
    right
    have : n - E.length = 0 := by
      rcases Nat.eq_zero_or_pos (n - E.length) with h0 | h0
      · exact h0
      · rw [List.getElem?_eq_none (by simp; omega)] at h; cases h
    rw [this] at h
    simp at h
    exact ⟨by omega, h.symm⟩
theorem get_app_self (x : Nat × Nat × Nat) : (E ++ [x])[E.length]? = some x := by simp
/-- A world whose blocks below B, and streams, stay, and whose heap does not shrink. -/
theorem HR.new (h : HR B w0 E ι H w) (ob : Obj) (o : AObj) (hi : Nat) (hr : OR (E ++ [(w.heap.size, 0, hi)]) ι o (w.heap.size, 0, hi) (some ob)) :
    HR B w0 (E ++ [(w.heap.size, 0, hi)]) ι (H.new o) { w with heap := w.heap.push ob } := by
  have hnone : H.get E.length = none ∨ ∃ o', H.get E.length = some o' := by cases H.get E.length <;> simp
  have hfree : H.get H.nx = none := by
    cases hg : H.get H.nx with
    | none => rfl
    | some o' =>
      obtain ⟨e, he, _⟩ := h.obj _ _ hg
      rw [h.nx] at he
      simp at he
  have hold2 : ∀ k e p, H.get k = some p → (E ++ [(w.heap.size, 0, hi)])[k]? = some e → E[k]? = some e := fun k e p hk he => by
    obtain ⟨e', he', _⟩ := h.obj k p hk
    have := Ext.app E (w.heap.size, 0, hi) k e' he'; rw [he] at this; injection this with this; rw [this]; exact he'
  have hOwn : ∀ (n : Nat) (o' : AObj) (e : Nat × Nat × Nat), (H.new o).get n = some o' → o'.isView = false → (E ++ [(w.heap.size, 0, hi)])[n]? = some e → B.own e.1 ∨ w0.heap.size ≤ e.1 := fun n o' e hn hv he => by
    rw [AH.get_new] at hn
    split at hn
    · rename_i hnn
      subst hnn
      rw [h.nx, get_app_self] at he
      injection he with he
      subst he
      exact .inr h.base
    · exact h.own n o' e hn hv (hold2 n e o' hn he)
  refine ⟨?_, ?_, ?_, ?_, ?_, ?_, h.pc, hOwn, h.ext.trans (Ext.app _ _)⟩
  · exact h.below.then rfl rfl rfl (by simp) fun k hk _ => by
      show (w.heap.push ob)[k]? = _
      rw [Array.getElem?_push, if_neg (by have := h.base; omega)]
  · have := h.base; simp; omega
  · simp [h.nx]
  · intro n e he
    rcases get_app_lt he with he | ⟨_, rfl⟩
    · have := h.inb n e he; simp; omega
    · simp
  · intro n p hp
    rw [AH.get_new] at hp
    split at hp
    · rename_i hn
      injection hp with hp; subst hp hn
      refine ⟨_, by rw [h.nx]; exact get_app_self _, ?_⟩
      show OR _ _ _ _ (w.heap.push ob)[w.heap.size]?
      rw [Array.getElem?_push, if_pos rfl]
      exact hr
    · obtain ⟨e, he, g⟩ := h.obj n p hp
      have hin := h.inb n e he
      refine ⟨e, Ext.app _ _ n e he, ?_⟩
      show OR _ _ _ _ (w.heap.push ob)[e.1]?
      rw [Array.getElem?_push, if_neg (by omega)]
      exact OR_ext (Ext.app _ _) g
  · intro n m p q e d hp hq hnm he hd hed
    rw [AH.get_new] at hp hq
    have hold : ∀ k e p, H.get k = some p → (E ++ [(w.heap.size, 0, hi)])[k]? = some e → k ≠ H.nx ∧ E[k]? = some e ∧ e.1 < w.heap.size := fun k e p hk he => by
      obtain ⟨e', he', _⟩ := h.obj k p hk
      have : E[k]? = some e := by have := Ext.app E (w.heap.size, 0, hi) k e' he'; rw [he] at this; injection this with this; rw [this]; exact he'
      refine ⟨fun hk' => ?_, this, h.inb k e this⟩
      rw [hk', hfree] at hk; cases hk
    split at hp
    · rename_i hn
      split at hq
      · rename_i hm; exact absurd (hn.trans hm.symm) hnm
      · have h3 := hold m d q hq hd
        rw [hn, h.nx, get_app_self] at he
        injection he with he
        rw [← he] at hed
        simp only at hed
        omega
    · split at hq
      · rename_i hm
        have h3 := hold n e p hp he
        rw [hm, h.nx, get_app_self] at hd
        injection hd with hd
        rw [← hd] at hed
        simp only at hed
        omega
      · exact h.sep n m p q e d hp hq hnm (hold n e p hp he).2.1 (hold m d q hq hd).2.1 hed
theorem HR.drew (h : HR B w0 E ι H w) (k : Nat) : HR B w0 E ι H { w with drawn := k } :=
  ⟨⟨h.below.os, h.below.tape, h.below.output, h.below.size, h.below.block⟩, h.base, h.nx, h.inb, h.obj, h.sep, h.pc, h.own, h.ext⟩
/-- Names go; what is left is said as before. -/
theorem HR.del (h : HR B w0 E ι H w) (n : Nat) : HR B w0 E ι (H.del n) w := by
  refine ⟨h.below, h.base, h.nx, h.inb, fun m o hm => ?_, fun a b o p e d ha hb => ?_, h.pc, fun a o e ha => by
    rw [AH.get_del] at ha
    split at ha
    · cases ha
    · exact h.own a o e ha, h.ext⟩
  · rw [AH.get_del] at hm
    split at hm
    · cases hm
    · exact h.obj m o hm
  · rw [AH.get_del] at ha hb
    split at ha
    · cases ha
    · split at hb
      · cases hb
      · exact h.sep a b o p e d ha hb
theorem HR.unold (h : HR B w0 E ι H w) (old : Option Nat) : HR B w0 E ι (H.unold old) w := by
  cases old with
  | none => exact h
  | some m => exact h.del m
theorem AH.get_unold {old : Option Nat} {m : Nat} {o : AObj} (h : (H.unold old).get m = some o) : H.get m = some o ∧ some m ≠ old := by
  cases old with
  | none => exact ⟨h, by simp⟩
  | some k =>
    show _ ∧ _
    rw [show (H.unold (some k)).get m = (H.del k).get m from rfl, AH.get_del] at h
    split at h
    · cases h
    · rename_i hmk; exact ⟨h, fun e => hmk (by injection e)⟩
/-- The block of one name is laid anew; all names that shared it are gone. -/
theorem HR.put (h : HR B w0 E ι H w) {n : Nat} {o : AObj} (hn : H.get n = some o) (hv : o.isView = false) {e : Nat × Nat × Nat} (he : E[n]? = some e) (o' : AObj) (ob : Obj) (hr : OR E ι o' e (some ob)) :
    HR B w0 E ι ((H.unold o.old).put n o') { w with heap := w.heap.setIfInBounds e.1 ob } := by
  have hin := h.inb n e he
  have away : ∀ m p d, (H.unold o.old).get m = some p → m ≠ n → E[m]? = some d → d.1 ≠ e.1 := fun m p d hm hmn hd heq => by
    obtain ⟨hm, ho⟩ := AH.get_unold hm
    exact ho ((h.sep n m o p e d hn hm (Ne.symm hmn) he hd heq.symm).2 hv).symm
  have get_ne : ∀ k, k ≠ e.1 → (w.heap.setIfInBounds e.1 ob)[k]? = w.heap[k]? := fun k hk => by rw [Array.getElem?_setIfInBounds_ne (Ne.symm hk)]
  have hown := h.own n o e hn hv he
  have hOwn : ∀ (m : Nat) (p : AObj) (d : Nat × Nat × Nat), ((H.unold o.old).put n o').get m = some p → p.isView = false → E[m]? = some d → B.own d.1 ∨ w0.heap.size ≤ d.1 := fun m p d hm hpv hd => by
    rw [AH.get_put] at hm
    split at hm
    · rename_i hmn
      subst hmn
      rw [he] at hd
      injection hd with hd
      subst hd
      exact hown
    · exact h.own m p d (AH.get_unold hm).1 hpv hd
  refine ⟨?_, ?_, ?_, ?_, ?_, ?_, (h.unold o.old).pc, hOwn, h.ext⟩
  · refine h.below.then rfl rfl rfl (by simp) fun k hk hb => get_ne k ?_
    rintro rfl
    rcases hown with ho | ho
    · exact hb ho
    · omega
  · have := h.base; simp; omega
  · have := (h.unold o.old).nx; simpa using this
  · intro m d hd; have := h.inb m d hd; simp; omega
  · intro m p hp
    rw [AH.get_put] at hp
    split at hp
    · rename_i hm
      injection hp with hp; subst hp hm
      refine ⟨e, he, ?_⟩
      show OR _ _ _ _ (w.heap.setIfInBounds e.1 ob)[e.1]?
      rw [Array.getElem?_setIfInBounds, if_pos rfl, if_pos hin]
      exact hr
    · rename_i hm
      obtain ⟨d, hd, g⟩ := h.obj m p (AH.get_unold hp).1
      refine ⟨d, hd, ?_⟩
      show OR _ _ _ _ (w.heap.setIfInBounds e.1 ob)[d.1]?
      rw [get_ne _ (away m p d hp hm hd)]
      exact g
  · intro a b p q c d ha hb hab hc hd hcd
    rw [AH.get_put] at ha hb
    split at ha
    · rename_i han
      split at hb
      · rename_i hbn; exact absurd (han.trans hbn.symm) hab
      · rename_i hbn
        subst han
        rw [he] at hc; injection hc with hc; subst hc
        exact absurd hcd.symm (away b q d hb hbn hd)
    · rename_i han
      split at hb
      · rename_i hbn
        subst hbn
        rw [he] at hd; injection hd with hd; subst hd
        exact absurd hcd (away a p c ha han hc)
      · exact h.sep a b p q c d (AH.get_unold ha).1 (AH.get_unold hb).1 hab hc hd hcd

/-! ### Cells are stored -/
variable {P : Program}
theorem setCell_row {b k : Nat} {cs : Array Value} {t : TypeId} {fz : Nat × Nat} (hb : w.heap[b]? = some (.cells cs t fz)) (v : Value) :
    w.setCell ⟨b, k, none⟩ v = { w with heap := w.heap.setIfInBounds b (.cells (cs.setIfInBounds k v) t fz) } := by
  unfold World.setCell
  congr 1
  apply Array.ext_getElem?
  intro i
  rw [Array.getElem?_modify, Array.getElem?_setIfInBounds]
  by_cases hi : b = i
  · subst hi
    have hlt := (Array.getElem?_eq_some_iff.1 hb).1
    have hb' : w.heap[b] = .cells cs t fz := by rw [Array.getElem?_eq_getElem hlt] at hb; injection hb
    simp [hlt, hb']
  · simp [hi]
theorem run_storeSeg {t : TypeId} {fz : Nat × Nat} {b : Nat} : ∀ (vs : List Value) (w : World) (cs : Array Value) (off i : Nat), w.heap[b]? = some (.cells cs t fz) → off + i + vs.length ≤ cs.size → (∀ k, off + i ≤ k → k < off + i + vs.length → ¬ (fz.1 ≤ k ∧ k < fz.2)) → (∀ v ∈ vs, v.oneCell' = true) →
    (storeCells ⟨b, off, none⟩ vs i).run P w = .ok () { w with heap := w.heap.setIfInBounds b (.cells (seg cs (off + i) vs) t fz) }
  | [], w, cs, off, i, hb, _, _, _ => by
    simp only [storeCells, seg, Sem.run_pure]
    congr 1
    have : w.heap.setIfInBounds b (.cells cs t fz) = w.heap := by
      apply Array.ext_getElem?
      intro k
      rw [Array.getElem?_setIfInBounds]
      by_cases hk : b = k
      · subst hk
        have hlt := (Array.getElem?_eq_some_iff.1 hb).1
        rw [if_pos rfl, if_pos hlt, hb]
      · rw [if_neg hk]
    rw [this]
  | v :: r, w, cs, off, i, hb, hs, hf, hv => by
    simp only [List.length_cons] at hs
    have h1 : w.cell? ⟨b, off + i, none⟩ = some (cs[off + i]'(by omega)) := by rw [cell_of_heap hb, Array.getElem?_eq_getElem]
    have h2 : w.frozen? ⟨b, off + i, none⟩ = false := by
      have := hf (off + i) (by omega) (by simp)
      simp only [World.frozen?, hb]
      cases hx : (decide (fz.1 ≤ off + i) && decide (off + i < fz.2)) with
      | false => rfl
      | true => simp at hx; exact absurd hx this
    have hblt := (Array.getElem?_eq_some_iff.1 hb).1
    simp only [storeCells, Sem.run_bind, addr_add]
    rw [run_store _ _ _ _ _ (hv v (by simp)), h1]
    simp only [h2, Bool.false_eq_true, if_false, Result.andThen_ok]
    rw [setCell_row hb]
    have ih := run_storeSeg (t := t) (fz := fz) (b := b) r { w with heap := w.heap.setIfInBounds b (.cells (cs.setIfInBounds (off + i) v) t fz) } (cs.setIfInBounds (off + i) v) off (i + 1)
      (by show (w.heap.setIfInBounds b _)[b]? = _; rw [Array.getElem?_setIfInBounds, if_pos rfl, if_pos hblt]) (by simp; omega) (fun k h1 h2 => hf k (by omega) (by simp only [List.length_cons]; omega)) (fun u hu => hv u (by simp [hu]))
    rw [ih]
    congr 2
    show (w.heap.setIfInBounds b _).setIfInBounds b _ = _
    rw [Array.setIfInBounds_setIfInBounds]
    rfl
end
end Go.Sx
/- Operations that make memory, or write it: what the symbolic run says of them holds. -/
namespace Go.Sx
open Go Go.RowKit
section
variable (E : Env) (ι : Val)
/-- Blocks other than those of these names stay. -/
def Touch (ns : List Nat) (w w' : World) : Prop := ∀ b, b < w.heap.size → (∀ m ∈ ns, ∀ e, E[m]? = some e → e.1 ≠ b) → w'.heap[b]? = w.heap[b]?
def NR : AN → Next → Prop
  | .val v, .value c => cv E ι v = some c
  | .skip, .skip => True
  | .enter f args, .enter g cs => f = g ∧ ∃ l, cvs E ι args = some l ∧ cs = l.toArray
  | .round l fn tm a b, .round k g C a' b' => (∃ e, E[l]? = some e ∧ e.1 = k) ∧ fn = g ∧ TMR E ι tm C ∧ a = a' ∧ b = b'
  | _, _ => False
end
/-- One of the ways r that the symbolic run names is what comes. -/
def WOk (P : Program) (B : Base) (w0 : World) (E : Env) (ι : Val) (w : World) (s : Sem Next) (rs : List AR) : Prop :=
  ∃ n w', s.run P w = .ok n w' ∧ ∃ r ∈ rs, ∃ E', Ext E E' ∧ HR B w0 E' ι r.2.1 w' ∧ NR E' ι r.1 n ∧ Touch E (r.2.2.take 1) w w' ∧ w.heap.size ≤ w'.heap.size
section
variable {P : Program} {E : Env} {ι : Val} {tm : TM} {ρ : Operand → Value} {B : Base} {w0 w : World} {H : AH} {o : Oper}
theorem Touch.push {ns : List Nat} (ob : Obj) : Touch E ns w { w with heap := w.heap.push ob } := fun b hb _ => by
  show (w.heap.push ob)[b]? = _
  rw [Array.getElem?_push, if_neg (by omega)]
theorem Touch.refl {ns : List Nat} (w : World) : Touch E ns w w := fun _ _ _ => rfl
theorem Touch.drewPush {ns : List Nat} (ob : Obj) (k : Nat) : Touch E ns w { w with heap := w.heap.push ob, drawn := k } := fun b hb _ => by
  show (w.heap.push ob)[b]? = _
  rw [Array.getElem?_push, if_neg (by omega)]
theorem Touch.set {ns : List Nat} {n : Nat} (hn : n ∈ ns) {e : Nat × Nat × Nat} (he : E[n]? = some e) (ob : Obj) : Touch E ns w { w with heap := w.heap.setIfInBounds e.1 ob } := fun b hb h => by
  show (w.heap.setIfInBounds e.1 ob)[b]? = _
  rw [Array.getElem?_setIfInBounds_ne (h n hn e he)]
theorem WOk.mem {s : Sem Next} {n : Next} {w' : World} {r : AR} {rs : List AR} {E' : Env} (h1 : s.run P w = .ok n w') (hm : r ∈ rs) (h2 : Ext E E') (h3 : HR B w0 E' ι r.2.1 w') (h4 : NR E' ι r.1 n) (h5 : Touch E (r.2.2.take 1) w w') (h6 : w.heap.size ≤ w'.heap.size) : WOk P B w0 E ι w s rs :=
  ⟨n, w', h1, r, hm, E', h2, h3, h4, h5, h6⟩
theorem WOk.one {s : Sem Next} {n : Next} {w' : World} {r : AR} {E' : Env} (h1 : s.run P w = .ok n w') (h2 : Ext E E') (h3 : HR B w0 E' ι r.2.1 w') (h4 : NR E' ι r.1 n) (h5 : Touch E (r.2.2.take 1) w w') (h6 : w.heap.size ≤ w'.heap.size) : WOk P B w0 E ι w s [r] :=
  WOk.mem h1 (by simp) h2 h3 h4 h5 h6
/-- What makes one new block, and hands its address back. -/
theorem WOk.new {s : Sem Next} {c : Value} {ob : Obj} {ao : AObj} {v : AV} {hi : Nat} (h1 : s.run P w = .ok (.value c) { w with heap := w.heap.push ob }) (h3 : HR B w0 (E ++ [(w.heap.size, 0, hi)]) ι (H.new ao) { w with heap := w.heap.push ob })
    (h4 : cv (E ++ [(w.heap.size, 0, hi)]) ι v = some c) : WOk P B w0 E ι w s [(.val v, H.new ao, [])] :=
  WOk.one h1 (Ext.app _ _) h3 h4 (Touch.push _) (by simp)
/-- A new row, all of it known. -/
theorem rowNew {cells : List AV} {cs : Array Value} (h : cvs E ι cells = some cs.toList) (t : TypeId) (b : Nat) : RowR E ι cells t true (b, 0, cs.size) cs (0, 0) := by
  obtain ⟨h1, h2⟩ := cvs_get h
  simp at h1
  refine ⟨fun i v hv => ?_, by simp; omega, Nat.le_refl _, fun _ => by simp; omega, fun i _ hi => by omega⟩
  obtain ⟨c, a, b⟩ := h2 i v hv
  exact ⟨c, a, by simpa using b⟩
theorem newRow_ok (hh : HR B w0 E ι H w) {cells : List AV} {cs : Array Value} (hc : cvs E ι cells = some cs.toList) (t : TypeId) :
    (newRow t cs).run P w = .ok ⟨w.heap.size, 0, none⟩ { w with heap := w.heap.push (.cells cs t) } ∧ HR B w0 (E ++ [(w.heap.size, 0, cs.size)]) ι (H.new (.row cells t true (.own none))) { w with heap := w.heap.push (.cells cs t) } :=
  ⟨by simp [newRow], hh.new _ _ cs.size (.row (RowR_ext (Ext.app _ _) (rowNew hc t w.heap.size)))⟩
theorem cv_newptr (hh : HR B w0 E ι H w) (hi : Nat) : cv (E ++ [(w.heap.size, 0, hi)]) ι (.ptr H.nx 0) = some (.pointer (some ⟨w.heap.size, 0, none⟩)) := by
  simp only [cv, hh.nx, get_app_self, Option.map_some]
theorem wAlloc_ok (hι : Scalars ι) (hh : HR B w0 E ι H w) {t : TypeId} (ho : o.op = .alloc t) {rs : List AR} (h : wAlloc P H t = some rs) : WOk P B w0 E ι w (execOp ρ o) rs := by
  unfold wAlloc at h
  obtain ⟨z, hz, rfl⟩ := Option.map_eq_some_iff.1 h
  obtain ⟨c, hr, hc⟩ := run_zeroT (P := P) (E := E) (ι := ι) (w := w) hz
  obtain ⟨h1, h2⟩ := newRow_ok (P := P) hh (cv_cells hι hc) t
  exact WOk.new (by simp only [execOp, ho, Instr.alloc, Sem.run_bind, hr, Result.andThen_ok, newVar, h1, Sem.run_pure]) h2 (cv_newptr hh _)
theorem wBox_ok (hι : Scalars ι) (hh : HR B w0 E ι H w) (hρ : Opv E ι tm ρ) {t : TypeId} {x : Operand} (ho : o.op = .box t x) {rs : List AR} (h : wBox H tm t x = some rs) : WOk P B w0 E ι w (execOp ρ o) rs := by
  unfold wBox at h
  obtain ⟨v, hv, rfl⟩ := Option.map_eq_some_iff.1 h
  obtain ⟨h1, h2⟩ := newRow_ok (P := P) hh (cv_cells hι (hρ x v hv)) t
  exact WOk.new (by simp only [execOp, ho, Instr.box, Sem.run_bind, Result.andThen_ok, newVar, h1, Sem.run_pure]) h2 (cv_newptr hh _)

/-! ### Rows of zeros -/
theorem reps_get (z : List AV) (hz : 0 < z.length) : ∀ (n i : Nat), (reps z n)[i]? = if i < n * z.length then z[i % z.length]? else none
  | 0, i => by simp [reps]
  | n + 1, i => by
    unfold reps
    by_cases h : i < z.length
    · rw [List.getElem?_append_left h, if_pos (by rw [Nat.add_mul]; omega), Nat.mod_eq_of_lt h]
    · rw [List.getElem?_append_right (by omega), reps_get z hz n]
      have e : (i - z.length) % z.length = i % z.length := by
        rw [← Nat.mod_eq_sub_mod (by omega)]
      rw [e]
      by_cases h2 : i < (n + 1) * z.length
      · rw [if_pos h2, if_pos (by rw [Nat.add_mul] at h2; omega)]
      · rw [if_neg h2, if_neg (by rw [Nat.add_mul] at h2; omega)]
theorem reps_len (z : List AV) : ∀ n, (reps z n).length = n * z.length
  | 0 => by simp [reps]
  | n + 1 => by unfold reps; rw [List.length_append, reps_len z n, Nat.add_mul]; omega
theorem cvs_reps {z : List AV} {c : Array Value} (h : cvs E ι z = some c.toList) (hz : 0 < z.length) (n : Nat) : cvs E ι (reps z n) = some ((Array.range (n * c.size)).map fun i => c[i % c.size]!).toList := by
  obtain ⟨h1, h2⟩ := cvs_get h
  simp at h1
  refine cvs_of_get (by simp [reps_len, h1]) fun i v hv => ?_
  rw [reps_get z hz] at hv
  split at hv
  · rename_i hi
    obtain ⟨x, a, b⟩ := h2 _ v hv
    refine ⟨x, a, ?_⟩
    have hm : i % c.size < c.size := Nat.mod_lt _ (by omega)
    rw [← h1] at hi b
    rw [Array.getElem?_toList, Array.getElem?_eq_getElem hm] at b
    injection b with b
    rw [Array.getElem?_toList, Array.getElem?_map, Array.getElem?_eq_getElem (by simpa using hi), Option.map_some, Array.getElem_range, getElem!_pos c _ hm, b]
  · cases hv
theorem range0 : Array.range 0 = #[] := rfl
theorem szOf_eq {t : TypeId} {n : Nat} (h : szOf P t = some n) : ∃ i, P.info? t = some i ∧ i.size = n := Option.map_eq_some_iff.1 h
theorem cv_newslice (hh : HR B w0 E ι H w) (hi l c : Nat) : cv (E ++ [(w.heap.size, 0, hi)]) ι (.slice H.nx 0 l c) = some (.slice (some ⟨w.heap.size, 0, none⟩) l c) := by
  simp only [cv, hh.nx, get_app_self, Option.map_some]
theorem wBuildSlice_ok (hι : Scalars ι) (hh : HR B w0 E ι H w) (hρ : Opv E ι tm ρ) {t : TypeId} {len : Nat} {parts : Array (Nat × Operand)} (ho : o.op = .buildSlice t len parts) {rs : List AR} (h : wBuildSlice P H tm t len parts = some rs) : WOk P B w0 E ι w (execOp ρ o) rs := by
  unfold wBuildSlice at h
  split at h
  · rename_i e hu
    split at h
    · rename_i size z ps hs hz hps
      split at h
      · rename_i hc
        simp only [Bool.and_eq_true, decide_eq_true_eq] at hc
        obtain ⟨⟨hc1, hc2⟩, hc3⟩ := hc
        obtain ⟨cs, hcs, rfl⟩ := Option.map_eq_some_iff.1 h
        obtain ⟨c, hr, hcv⟩ := run_zeroT (P := P) (E := E) (ι := ι) (w := w) hz
        have hcc := cv_cells hι hcv
        have hsz : c.cells.size = size := by have := (cvs_get hcc).1; simp at this; omega
        have hreps := cvs_reps hcc (by omega) len
        obtain ⟨r, hfill, hrc⟩ := fill_ok hι ps _ _ _ cs hreps (opvp_cvp hρ _ _ hps) hcs
        obtain ⟨h1, h2⟩ := newRow_ok (P := P) hh hrc e
        have hpl : (parts.map fun (i, x) => (i, ρ x)).toList = parts.toList.map fun (i, x) => (i, ρ x) := by simp
        have hrun : (Instr.buildSlice t len (parts.map fun (i, x) => (i, ρ x))).run P w = .ok (.slice (some ⟨w.heap.size, 0, none⟩) len len) { w with heap := w.heap.push (.cells r e) } := by
          have hbig : ¬ (len * size > 2 ^ 24) := by simp; omega
          by_cases h0 : len * size = 0
          · have hl0 : len = 0 := by
              rcases Nat.mul_eq_zero.1 h0 with h | h
              · exact h
              · omega
            subst hl0
            simp only [Nat.zero_mul, range0, Array.map_empty] at hfill
            simp only [Instr.buildSlice, Sem.run_bind, run_undl hu, Result.andThen_ok, run_szOf hs, Nat.zero_mul, if_true, range0, Array.map_empty]
            rw [if_neg (by simp)]
            simp only [Sem.run_pure, Result.andThen_ok, hpl, hfill, h1, Sem.run_bind]
          · simp only [Instr.buildSlice, Sem.run_bind, run_undl hu, Result.andThen_ok, run_szOf hs]
            rw [if_neg hbig]
            simp only [Sem.run_pure, Result.andThen_ok, h0, if_false, Sem.run_bind, hr]
            rw [hsz] at hfill
            simp only [hsz, hpl, hfill, h1, Result.andThen_ok, Sem.run_bind, Sem.run_pure]
        exact WOk.new (by simp only [execOp, ho, Sem.run_bind, hrun, Result.andThen_ok, Sem.run_pure]) h2 (cv_newslice hh _ _ _)
      · cases h
    · cases h
  · cases h
theorem wMakeMap_ok (hh : HR B w0 E ι H w) (hρ : Opv E ι tm ρ) {t : TypeId} {r : Option Operand} (ho : o.op = .makeMap t r) {rs : List AR} (h : wMakeMap P H tm t r = some rs) : WOk P B w0 E ι w (execOp ρ o) rs := by
  have h2 : HR B w0 (E ++ [(w.heap.size, 0, 0)]) ι (H.new (.map [] 0)) { w with heap := w.heap.push (.map #[] 0) } := hh.new _ _ 0 (.map (ces := []) rfl)
  have hcv : cv (E ++ [(w.heap.size, 0, 0)]) ι (.map H.nx) = some (.map (some w.heap.size)) := by simp only [cv, hh.nx, get_app_self, Option.map_some]
  unfold wMakeMap at h
  split at h
  · simp only [Option.some.injEq] at h; subst h
    exact WOk.new (by simp [execOp, ho, Instr.makeMap]) h2 hcv
  · rename_i x
    split at h
    · rename_i p k n hm hx
      simp only [Option.some.injEq] at h; subst h
      have h1 := hρ x _ hx
      simp only [cv, Option.some.injEq] at h1
      have hu := mapK_eq (P := P) (t := t) (kt := p.1) (et := p.2) hm
      exact WOk.new (by simp [execOp, ho, Instr.makeMap, run_undl hu, ← h1, asInt, asIntOf]) h2 hcv
    · cases h
theorem wrap64_small {x : Int} (h0 : 0 ≤ x) (h1 : x ≤ 9223372036854775807) : IntKind.i64.wrap x = x := IntWalk.i64_in _ (by omega)
theorem wMakeSlice_ok (hι : Scalars ι) (hh : HR B w0 E ι H w) (hρ : Opv E ι tm ρ) {t : TypeId} {l c : Operand} (ho : o.op = .makeSlice t l c) {rs : List AR} (h : wMakeSlice P H tm t l c = some rs) : WOk P B w0 E ι w (execOp ρ o) rs := by
  unfold wMakeSlice at h
  split at h
  · rename_i e k1 ln k2 cn hu hl hc
    split at h
    · rename_i size z hs hz
      split at h
      · rename_i hcond
        simp only [Bool.and_eq_true, decide_eq_true_eq] at hcond
        obtain ⟨⟨⟨⟨⟨c1, c2⟩, c3⟩, c4⟩, c5⟩, c6⟩ := hcond
        simp only [Option.some.injEq] at h; subst h
        have h1 := hρ l _ hl
        have h2 := hρ c _ hc
        simp only [cv, Option.some.injEq] at h1 h2
        obtain ⟨zc, hr, hcv⟩ := run_zeroT (P := P) (E := E) (ι := ι) (w := w) hz
        have hcc := cv_cells hι hcv
        have hsz : zc.cells.size = size := by have := (cvs_get hcc).1; simp at this; omega
        have hreps := cvs_reps hcc (by omega) cn.toNat
        obtain ⟨q1, q2⟩ := newRow_ok (P := P) hh hreps e
        obtain ⟨i, hi, hisz⟩ := szOf_eq hs
        have hby : bytesT P e = i.bytes := by simp [bytesT, hi]
        have hrun : (Instr.makeSlice t (.int k1 ln) (.int k2 cn)).run P w = .ok (.slice (some ⟨w.heap.size, 0, none⟩) ln.toNat cn.toNat) { w with heap := w.heap.push (.cells ((Array.range (cn.toNat * zc.cells.size)).map fun i => zc.cells[i % zc.cells.size]!) e) } := by
          have w1 : IntKind.i64.wrap ln = ln := wrap64_small c1 (by omega)
          have w2 : IntKind.i64.wrap cn = cn := wrap64_small (by omega) (by omega)
          have hb : (i.bytes : Int) * cn ≤ 140737488355328 := by
            rw [hby] at c4
            have : (i.bytes : Int) * cn = ((cn.toNat * i.bytes : Nat) : Int) := by
              rw [Int.natCast_mul, Int.mul_comm, Int.toNat_of_nonneg (by omega)]
            omega
          simp only [Instr.makeSlice, Sem.run_bind, run_undl hu, Result.andThen_ok, asInt, asIntOf, Sem.run_pure, typeInfo, run_program, hi, w1, w2]
          have hcd : ((decide (cn < 0) || decide ((i.bytes : Int) * cn > 2 ^ 48)) || decide (ln < 0) || decide (ln > cn)) = false := by
            simp
            omega
          have hcd' : ¬ (((decide (cn < 0) || decide ((i.bytes : Int) * cn > 2 ^ 48)) || decide (ln < 0) || decide (ln > cn)) = true) := by rw [hcd]; simp
          rw [if_neg hcd']
          simp only [Sem.run_pure, Result.andThen_ok, Sem.run_bind, run_askRoom, run_szOf hs]
          by_cases h0 : cn.toNat * size = 0
          · have hc0 : cn.toNat = 0 := by
              rcases Nat.mul_eq_zero.1 h0 with h | h
              · exact h
              · omega
            simp only [hc0, Nat.zero_mul, range0, Array.map_empty] at q1
            simp [hc0, range0, q1]
          · simp only [h0, if_false, Sem.run_bind, hr, Result.andThen_ok, Sem.run_pure]
            rw [hsz] at q1
            simp only [hsz, q1, Result.andThen_ok]
        exact WOk.new (by simp only [execOp, ho, ← h1, ← h2, Sem.run_bind, hrun, Result.andThen_ok, Sem.run_pure]) q2 (cv_newslice hh _ _ _)
      · cases h
    · cases h
  · cases h
end
end Go.Sx
/- Stores; maps written, walked over; calls. -/
namespace Go.Sx
open Go Go.RowKit
section
variable {P : Program} {E : Env} {ι : Val} {tm : TM} {ρ : Operand → Value} {B : Base} {w0 w : World} {H : AH} {o : Oper}
theorem RowR.seg {cells : List AV} {t : TypeId} {ex : Bool} {e : Nat × Nat × Nat} {cs : Array Value} {fz : Nat × Nat} (hr : RowR E ι cells t ex e cs fz) {vs : List AV} {ws : List Value} (hv : cvs E ι vs = some ws) {off : Nat} (h : off + vs.length ≤ cells.length) :
    RowR E ι (setAt cells off vs) t ex e (Sx.seg cs (e.2.1 + off) ws) fz := by
  obtain ⟨v1, v2⟩ := cvs_get hv
  have hl := hr.len
  have hf := hr.fits
  have hsz : e.2.1 + off + ws.length ≤ cs.size := by omega
  refine ⟨fun i v hi => ?_, by rw [setAt_len _ _ _ h]; exact hl, by rw [seg_size]; exact hf, fun hx => by rw [setAt_len _ _ _ h]; exact hr.exact hx, hr.free⟩
  rw [setAt_get _ _ _ _ h] at hi
  rw [seg_get _ _ _ _ hsz]
  by_cases c : off ≤ i ∧ i < off + vs.length
  · rw [if_pos c] at hi
    rw [if_pos (by omega)]
    obtain ⟨x, a, b⟩ := v2 _ _ hi
    refine ⟨x, a, ?_⟩
    rw [← b]
    congr 1
    omega
  · rw [if_neg c] at hi
    rw [if_neg (by omega)]
    exact hr.at_ i v hi
theorem singles_one (hι : Scalars ι) {vs : List AV} {ws : List Value} (hv : cvs E ι vs = some ws) (hs : vs.all AV.single = true) : ∀ v ∈ ws, v.oneCell' = true := by
  induction vs generalizing ws with
  | nil => rw [cvs_nil] at hv; injection hv with hv; subst hv; simp
  | cons x r ih =>
    obtain ⟨a, b, h1, h2, rfl⟩ := cvs_cons.1 hv
    simp only [List.all_cons, Bool.and_eq_true] at hs
    intro v hv
    rcases List.mem_cons.1 hv with rfl | hv
    · exact cv_single hι h1 hs.1
    · exact ih h2 hs.2 v hv
/-- A segment of a row that is owned is written. -/
theorem rowWrite (hι : Scalars ι) (hh : HR B w0 E ι H w) {n : Nat} {cells : List AV} {t : TypeId} {ex : Bool} {old : Option Nat} (hg : H.get n = some (.row cells t ex (.own old))) {e : Nat × Nat × Nat} (he : E[n]? = some e)
    {vs : List AV} {ws : List Value} (hv : cvs E ι vs = some ws) (hs : ∀ v ∈ ws, v.oneCell' = true) {off : Nat} (h : off + vs.length ≤ cells.length) :
    ∃ ob, (storeCells ⟨e.1, e.2.1 + off, none⟩ ws).run P w = .ok () { w with heap := w.heap.setIfInBounds e.1 ob } ∧ HR B w0 E ι (H.write n (setAt cells off vs) t ex old) { w with heap := w.heap.setIfInBounds e.1 ob } := by
  obtain ⟨e', he', hr⟩ := hh.obj n _ hg
  rw [he] at he'; injection he' with he'; subst he'
  generalize hob : w.heap[e.1]? = ob at hr
  cases hr with
  | @row _ _ _ _ _ cs fz hr =>
    have hl := hr.len
    have hf := hr.fits
    have h1 := (cvs_get hv).1
    have hrun := run_storeSeg (P := P) ws w cs (e.2.1 + off) 0 hob (by omega) (fun k h1 h2 => hr.free k (by omega) (by have := hr.len; omega)) hs
    refine ⟨_, hrun, ?_⟩
    have := hh.put hg rfl he (.row (setAt cells off vs) t ex (.own none)) _ (.row (hr.seg hv h))
    exact this
theorem wStore_ok (hι : Scalars ι) (hh : HR B w0 E ι H w) (hρ : Opv E ι tm ρ) {t : TypeId} {a x : Operand} (ho : o.op = .store t a x) {rs : List AR} (h : wStore P H tm t a x = some rs) : WOk P B w0 E ι w (execOp ρ o) rs := by
  unfold wStore at h
  split at h
  · rename_i n off v ha hx
    obtain ⟨r, hr, rfl⟩ := Option.map_eq_some_iff.1 h
    unfold aStore at hr
    split at hr
    · rename_i cells t' ex old k hg hk
      split at hr
      · rename_i hc
        simp only [Bool.and_eq_true, decide_eq_true_eq] at hc
        obtain ⟨⟨c1, c2⟩, c3⟩ := hc
        simp only [Option.some.injEq] at hr; subst hr
        have h1 := hρ a _ ha
        have h2 := hρ x _ hx
        simp only [cv, Option.map_eq_some_iff] at h1
        obtain ⟨e, he, h1⟩ := h1
        have hcc := cv_cells hι h2
        have hone := singles_one hι hcc c3
        obtain ⟨ob, hrun, hH⟩ := rowWrite (P := P) hι hh hg he hcc hone (off := off) (by omega)
        have hsz : (ρ x).cells.size = k := by have := (cvs_get hcc).1; simp at this; omega
        refine WOk.one (n := .skip) ?_ (Ext.refl E) hH trivial (Touch.set (by simp) he ob) (by simp)
        simp only [execOp, ho, ← h1, Instr.storeAt, Instr.sureAddr, Sem.run_bind, Sem.run_pure, Result.andThen_ok, storeVar, run_szOf hk, hsz, ne_eq, not_true_eq_false, if_false, hrun]
      · cases hr
    · cases hr
  · cases h

/-! ### Maps are written -/
theorem run_setObj {r : Nat} {ob ob' : Obj} (h : w.heap[r]? = some ob) (hc : ∀ c t f, ob ≠ .cells c t f) : (setObj r ob').run P w = .ok () { w with heap := w.heap.setIfInBounds r ob' } := by
  simp only [setObj, Sem.run, h]
mutual
theorem same_bits : ∀ (d D : Nat) (x y : AV) (a b : Value), d ≤ D → cv E ι x = some a → cv E ι y = some b → same d x y = true → Instr.sameBits D a b = true
  | 0, _, _, _, _, _, _, _, _, h => by simp [same] at h
  | d + 1, 0, _, _, _, _, hD, _, _, _ => by omega
  | d + 1, D + 1, x, y, a, b, hD, hx, hy, h => by
    cases x <;> cases y <;> simp only [same, Bool.false_eq_true] at h
    · simp only [cv, Option.some.injEq] at hx hy; subst hx hy; simpa [Instr.sameBits] using h
    · simp only [cv, Option.some.injEq] at hx hy; subst hx hy; simpa [Instr.sameBits] using h
    · simp only [cv, Option.some.injEq] at hx hy; subst hx hy
      simp only [Instr.sameBits, bytes_eq]; exact h
    · simp only [cv, Option.map_eq_some_iff] at hx hy
      obtain ⟨l, hl, rfl⟩ := hx
      obtain ⟨m, hm, rfl⟩ := hy
      have := sames_bits d D _ _ l m (by omega) hl hm h
      simp only [Instr.sameBits, Bool.and_eq_true, beq_iff_eq]
      exact ⟨by simpa using this.1, this.2⟩
theorem sames_bits : ∀ (d D : Nat) (x y : List AV) (a b : List Value), d ≤ D → cvs E ι x = some a → cvs E ι y = some b → sames d x y = true → a.length = b.length ∧ ((a.zip b).all fun (x, y) => Instr.sameBits D x y) = true
  | _, _, [], [], a, b, _, hx, hy, _ => by
    rw [cvs_nil] at hx hy; injection hx with hx; injection hy with hy; subst hx hy
    simp
  | _, _, [], _ :: _, _, _, _, _, _, h => by simp [sames] at h
  | _, _, _ :: _, [], _, _, _, _, _, h => by simp [sames] at h
  | d, D, x :: xs, y :: ys, a, b, hD, hx, hy, h => by
    obtain ⟨a1, a2, h1, h2, rfl⟩ := cvs_cons.1 hx
    obtain ⟨b1, b2, h3, h4, rfl⟩ := cvs_cons.1 hy
    simp only [sames, Bool.and_eq_true] at h
    have i1 := same_bits d D x y a1 b1 hD h1 h3 h.1
    have i2 := sames_bits d D xs ys a2 b2 hD h2 h4 h.2
    exact ⟨by simp [i2.1], by simp [i1]; simpa using i2.2⟩
end
theorem modAt_get {α : Type} (f : α → α) : ∀ (l : List α) (i j : Nat), (modAt f l i)[j]? = if j = i then (l[j]?).map f else l[j]?
  | [], i, j => by simp [modAt]
  | x :: r, 0, 0 => by simp [modAt]
  | x :: r, 0, j + 1 => by simp [modAt]
  | x :: r, i + 1, 0 => by simp [modAt]
  | x :: r, i + 1, j + 1 => by simp [modAt, modAt_get f r i j]
theorem modAt_len {α : Type} (f : α → α) : ∀ (l : List α) (i : Nat), (modAt f l i).length = l.length
  | [], _ => rfl
  | _ :: _, 0 => rfl
  | _ :: r, i + 1 => by simp [modAt, modAt_len f r i]
/-- One entry of a map is turned. -/
theorem cvE_mod {es : List (AV × AV × Nat)} {ces : List MapEntry} (h : cvE E ι es = some ces) (i : Nat) {f : AV × AV × Nat → AV × AV × Nat} {g : MapEntry → MapEntry} (hf : ∀ e k v, es[i]? = some e → cv E ι e.1 = some k → cv E ι e.2.1 = some v →
      cv E ι (f e).1 = some (g ⟨k, v, e.2.2⟩).key ∧ cv E ι (f e).2.1 = some (g ⟨k, v, e.2.2⟩).val ∧ (f e).2.2 = (g ⟨k, v, e.2.2⟩).born) :
    cvE E ι (modAt f es i) = some (ces.toArray.modify i g).toList := by
  obtain ⟨h1, h2⟩ := cvE_get h
  refine cvE_of_get (by simp [modAt_len, h1]) fun j e he => ?_
  rw [modAt_get] at he
  rw [Array.getElem?_toList, Array.getElem?_modify]
  by_cases c : j = i
  · subst c
    rw [if_pos rfl] at he
    obtain ⟨e', he', rfl⟩ := Option.map_eq_some_iff.1 he
    obtain ⟨k, v, a, b, d⟩ := h2 j e' he'
    obtain ⟨p, q, r⟩ := hf e' k v he' a b
    refine ⟨_, _, p, q, ?_⟩
    simp [d, r]
  · rw [if_neg c] at he
    obtain ⟨k, v, a, b, d⟩ := h2 j e he
    exact ⟨k, v, a, b, by simp [Ne.symm c, d]⟩
theorem cvE_snoc {es : List (AV × AV × Nat)} {ces : List MapEntry} (h : cvE E ι es = some ces) {k v : AV} {a b : Value} (hk : cv E ι k = some a) (hv : cv E ι v = some b) (c : Nat) : cvE E ι (es ++ [(k, v, c)]) = some (ces.toArray.push ⟨a, b, c⟩).toList := by
  obtain ⟨h1, h2⟩ := cvE_get h
  refine cvE_of_get (by simp [h1]) fun j e he => ?_
  by_cases hj : j < es.length
  · rw [List.getElem?_append_left hj] at he
    obtain ⟨k', v', p, q, r⟩ := h2 j e he
    exact ⟨k', v', p, q, by simp [List.getElem?_append_left (show j < ces.length by omega), r]⟩
  · rw [List.getElem?_append_right (by omega)] at he
    have : j - es.length = 0 := by
      rcases Nat.eq_zero_or_pos (j - es.length) with h0 | h0
      · exact h0
      · rw [List.getElem?_eq_none (by simp; omega)] at he; cases he
    rw [this] at he
    simp at he
    subst he
    have hj : j = ces.length := by omega
    exact ⟨a, b, hk, hv, by simp [hj]⟩
/-- The map behind a name. -/
theorem HR.map' (hh : HR B w0 E ι H w) {n : Nat} {es : List (AV × AV × Nat)} {clock : Nat} (hg : H.get n = some (.map es clock)) {e : Nat × Nat × Nat} (he : E[n]? = some e) : ∃ ces, cvE E ι es = some ces ∧ w.heap[e.1]? = some (.map ces.toArray clock) := by
  obtain ⟨e', he', hr⟩ := hh.obj n _ hg
  rw [he] at he'; injection he' with he'; subst he'
  generalize hob : w.heap[e.1]? = ob at hr
  cases hr with
  | map hE => exact ⟨_, hE, rfl⟩
theorem run_mapUpdate (hh : HR B w0 E ι H w) {t : TypeId} {m k v : AV} {mv kv vv : Value} (hm : cv E ι m = some mv) (hk : cv E ι k = some kv) (hv : cv E ι v = some vv) {rs : List AR} (h : aMapPut P H t m k v = some rs) :
    ∃ n es e ob, rs = [(.skip, H.put n es, [n])] ∧ E[n]? = some e ∧ (Instr.mapUpdate t mv kv vv).run P w = .ok () { w with heap := w.heap.setIfInBounds e.1 ob } ∧ HR B w0 E ι (H.put n es) { w with heap := w.heap.setIfInBounds e.1 ob } := by
  unfold aMapPut at h
  split at h
  · rename_i kt et n hmk
    have hu := mapK_eq hmk
    split at h
    · rename_i es clock hg
      simp only [cv, Option.map_eq_some_iff] at hm
      obtain ⟨e, he, rfl⟩ := hm
      obtain ⟨ces, hE, hb⟩ := hh.map' hg he
      have hgo := run_getObj (P := P) hb (by simp)
      split at h
      · rename_i hko
        obtain ⟨u, hku⟩ := keyOk_undl hko
        have hck := run_keyOk (P := P) (w := w) false 9 10000 kt k _ (by decide) hk hko
        split at h
        · rename_i i u' hf
          obtain ⟨r', h1, h2⟩ := run_aFind (P := P) (w := w) hku hk hE hf
          cases r' with
          | none => exact h2.elim
          | some y =>
            obtain ⟨j, v'⟩ := y
            obtain ⟨rfl, _, _, e0, he0, _⟩ := h2
            rw [Nat.sub_zero] at he0
            rw [he0] at h
            dsimp only at h
            split at h
            · rename_i hsame
              simp only [Option.some.injEq] at h
              obtain ⟨k0, v0, q1, q2, q3⟩ := (cvE_get hE).2 _ _ he0
              have hst : (Instr.keyThatStays k0 kv).run P w = .ok kv w := by
                unfold Instr.keyThatStays
                rw [same_bits 9 10000 _ _ _ _ (by decide) q1 hk hsame]
                rfl
              have hE2 := cvE_mod hE i (f := fun e => (k, v, e.2.2)) (g := fun e => { e with key := kv, val := vv }) (fun e k' v' _ _ _ => ⟨hk, hv, rfl⟩)
              refine ⟨n, _, e, _, h.symm, he, ?_, hh.put hg rfl he _ _ (.map hE2)⟩
              simp [Instr.mapUpdate, run_undl hu, hgo, hck, h1, q3, hst, run_setObj hb]
            · cases h
        · rename_i hf
          obtain ⟨r', h1, h2⟩ := run_aFind (P := P) (w := w) hku hk hE hf
          cases r' with
          | some _ => exact h2.elim
          | none =>
            simp only [Option.some.injEq] at h
            refine ⟨n, _, e, _, h.symm, he, ?_, hh.put hg rfl he _ _ (.map (cvE_snoc hE hk hv clock))⟩
            simp [Instr.mapUpdate, run_undl hu, hgo, hck, h1, run_setObj hb]
        · cases h
      · cases h
    · cases h
  · cases h
theorem wMapPut_ok (hh : HR B w0 E ι H w) (hρ : Opv E ι tm ρ) {t : TypeId} {m k x : Operand} (ho : o.op = .mapUpdate t m k x ∨ o.op = .insert t m k x) {rs : List AR} (h : wMapPut P H tm t m k x = some rs) : WOk P B w0 E ι w (execOp ρ o) rs := by
  unfold wMapPut at h
  split at h
  · rename_i a b c ha hb hc
    obtain ⟨n, es, e, ob, rfl, he, hr, hH⟩ := run_mapUpdate hh (hρ m a ha) (hρ k b hb) (hρ x c hc) h
    refine WOk.one (n := .skip) ?_ (Ext.refl E) hH trivial (Touch.set (by simp) he ob) (by simp)
    rcases ho with ho | ho <;> simp only [execOp, ho, Sem.run_bind, hr, Result.andThen_ok, Sem.run_pure]
  · cases h
theorem wMapEntry_ok (hh : HR B w0 E ι H w) (hρ : Opv E ι tm ρ) {t : TypeId} {m k : Operand} (ho : o.op = .mapEntry t m k) {rs : List AR} (h : wMapEntry P H tm t m k = some rs) : WOk P B w0 E ι w (execOp ρ o) rs := by
  unfold wMapEntry at h
  split at h
  · rename_i am ak ha hb
    have hm := hρ m _ ha
    have hk := hρ k _ hb
    unfold aMapEntry at h
    split at h
    · rename_i kt et n hmk
      have hu := mapK_eq hmk
      split at h
      · rename_i es clock hg
        simp only [cv, Option.map_eq_some_iff] at hm
        obtain ⟨e, he, hm⟩ := hm
        obtain ⟨ces, hE, hbl⟩ := hh.map' hg he
        have hgo := run_getObj (P := P) hbl (by simp)
        split at h
        · rename_i hko
          obtain ⟨u, hku⟩ := keyOk_undl hko
          have hck := run_keyOk (P := P) (w := w) false 9 10000 kt ak _ (by decide) hk hko
          split at h
          · rename_i i u' hf
            obtain ⟨r', h1, h2⟩ := run_aFind (P := P) (w := w) hku hk hE hf
            cases r' with
            | none => exact h2.elim
            | some y =>
              obtain ⟨j, v'⟩ := y
              obtain ⟨rfl, hv', _, e0, he0, _⟩ := h2
              rw [Nat.sub_zero] at he0
              rw [he0] at h
              dsimp only at h
              split at h
              · rename_i hsame
                simp only [Option.some.injEq] at h; subst h
                obtain ⟨k0, v0, q1, q2, q3⟩ := (cvE_get hE).2 _ _ he0
                have hst : (Instr.keyThatStays k0 (ρ k)).run P w = .ok (ρ k) w := by
                  unfold Instr.keyThatStays
                  rw [same_bits 9 10000 _ _ _ _ (by decide) q1 hk hsame]
                  rfl
                have hE2 := cvE_mod hE i (f := fun e => (ak, e.2.1, e.2.2)) (g := fun e => { e with key := ρ k }) (fun e k' v' _ _ hv => ⟨hk, hv, rfl⟩)
                refine WOk.one (n := .value (.tuple #[v', .int .i64 e0.2.2])) ?_ (Ext.refl E) (hh.put hg rfl he _ _ (.map hE2)) (by simp [NR, cv, cvs, hv']) (Touch.set (by simp) he _) (by simp)
                simp [execOp, ho, ← hm, Instr.mapEntry, run_undl hu, hgo, hck, h1, q3, hst, run_setObj hbl, goInt]
              · cases h
          · rename_i hf
            obtain ⟨r', h1, h2⟩ := run_aFind (P := P) (w := w) hku hk hE hf
            cases r' with
            | some _ => exact h2.elim
            | none =>
              obtain ⟨z, hz, rfl⟩ := Option.map_eq_some_iff.1 h
              obtain ⟨zc, hzr, hzc⟩ := run_zeroT (P := P) (E := E) (ι := ι) (w := w) hz
              refine WOk.one (n := .value (.tuple #[zc, .int .i64 clock])) ?_ (Ext.refl E) (hh.put hg rfl he _ _ (.map (cvE_snoc hE hk hzc clock))) (by simp [NR, cv, cvs, hzc]) (Touch.set (by simp) he _) (by simp)
              simp [execOp, ho, ← hm, Instr.mapEntry, run_undl hu, hgo, hck, h1, hzr, run_setObj hbl, goInt]
          · cases h
        · cases h
      · cases h
    · cases h
  · cases h
theorem aBorn_find {b : Int} : ∀ (es : List (AV × AV × Nat)) (ces : List MapEntry) (i j : Nat), cvE E ι es = some ces → aBorn b es i = some j → i ≤ j ∧ ces.findIdx? (fun e => (e.born : Int) == b) = some (j - i)
  | [], _, _, _, _, h => by simp [aBorn] at h
  | e :: es, ces, i, j, hE, h => by
    simp only [cvE, Option.bind_eq_some_iff, Option.map_eq_some_iff] at hE
    obtain ⟨k, hk, v, hv, c, hc, rfl⟩ := hE
    unfold aBorn at h
    by_cases hb : ((e.2.2 : Nat) : Int) == b
    · rw [if_pos hb] at h
      simp only [Option.some.injEq] at h; subst h
      refine ⟨Nat.le_refl _, ?_⟩
      simp [List.findIdx?_cons, hb]
    · rw [if_neg hb] at h
      obtain ⟨h1, h2⟩ := aBorn_find es c (i + 1) j hc h
      refine ⟨by omega, ?_⟩
      have hb' : ((e.2.2 : Nat) : Int) ≠ b := by simpa using hb
      simp only [List.findIdx?_cons]
      have : (((e.2.2 : Nat) : Int) == b) = false := by simpa using hb'
      simp only [this, Bool.false_eq_true, if_false, h2, Option.map_some]
      congr 1
      omega
theorem wEntryStore_ok (hh : HR B w0 E ι H w) (hρ : Opv E ι tm ρ) {t : TypeId} {m s x : Operand} (ho : o.op = .entryStore t m s x) {rs : List AR} (h : wEntryStore H tm m s x = some rs) : WOk P B w0 E ι w (execOp ρ o) rs := by
  unfold wEntryStore at h
  split at h
  · rename_i am as ax ha hb hc
    have hm := hρ m _ ha
    have hs := hρ s _ hb
    have hx := hρ x _ hc
    unfold aEntryStore at h
    split at h
    · rename_i n kk b
      split at h
      · rename_i es clock hg
        obtain ⟨i, hi, rfl⟩ := Option.map_eq_some_iff.1 h
        simp only [cv, Option.map_eq_some_iff, Option.some.injEq] at hm hs
        obtain ⟨e, he, hm⟩ := hm
        obtain ⟨ces, hE, hbl⟩ := hh.map' hg he
        have hgo := run_getObj (P := P) hbl (by simp)
        have hf := (aBorn_find es ces 0 i hE hi).2
        rw [Nat.sub_zero] at hf
        have hE2 := cvE_mod hE i (f := fun e => (e.1, ax, e.2.2)) (g := fun e => { e with val := ρ x }) (fun e k' v' _ hk' _ => ⟨hk', hx, rfl⟩)
        refine WOk.one (n := .skip) ?_ (Ext.refl E) (hh.put hg rfl he _ _ (.map hE2)) trivial (Touch.set (by simp) he _) (by simp)
        simp [execOp, ho, ← hm, ← hs, Instr.entryStore, hgo, asInt, asIntOf, hf, run_setObj hbl]
      · cases h
    · cases h
  · cases h
end
end Go.Sx
/- Maps walked over; calls; delete. -/
set_option linter.unusedSimpArgs false
namespace Go.Sx
open Go Go.RowKit
/-- What the program must be like. -/
structure Fine (P : Program) : Prop where
  mixed : P.follows .mixedOrders = true
  names : ∀ (f : Nat) fn, P.funcs[f]? = some fn → (fn.name == "runtime.NumGoroutine") = false
section
variable {P : Program} {E : Env} {ι : Val} {tm : TM} {ρ : Operand → Value} {B : Base} {w0 w : World} {H : AH} {o : Oper}
theorem wRange_ok (hh : HR B w0 E ι H w) (hρ : Opv E ι tm ρ) {t : TypeId} {x : Operand} (ho : o.op = .range t x) {rs : List AR} (h : wRange P H tm t x = some rs) : WOk P B w0 E ι w (execOp ρ o) rs := by
  unfold wRange at h
  split at h
  · rename_i p hm hx
    simp only [Option.some.injEq] at h; subst h
    have hu := mapK_eq (P := P) (t := t) (kt := p.1) (et := p.2) hm
    have h1 := hρ x _ hx
    simp only [cv, Option.some.injEq] at h1
    exact WOk.new (hi := 0) (by simp [execOp, ho, ← h1, Instr.range, run_undl hu]) (hh.new (.mapIter none 0 #[] 0) _ 0 (.iter0 rfl)) (cv_newptr hh _)
  · rename_i p n hm hx
    have hu := mapK_eq (P := P) (t := t) (kt := p.1) (et := p.2) hm
    split at h
    · rename_i es clock hg
      simp only [Option.some.injEq] at h; subst h
      have h1 := hρ x _ hx
      simp only [cv, Option.map_eq_some_iff] at h1
      obtain ⟨e, he, h1⟩ := h1
      obtain ⟨ces, hE, hb⟩ := hh.map' hg he
      have hgo := run_getObj (P := P) hb (by simp)
      exact WOk.new (hi := 0) (by simp [execOp, ho, ← h1, Instr.range, run_undl hu, hgo]) (hh.new _ _ 0 (.iter (l := []) rfl (Ext.app _ _ n e he))) (cv_newptr hh _)
    · cases h
  · cases h
theorem cvE_filter (p : Nat → Bool) : ∀ (es : List (AV × AV × Nat)) (ces : List MapEntry), cvE E ι es = some ces → cvE E ι (es.filter fun e => p e.2.2) = some (ces.filter fun e => p e.born)
  | [], ces, h => by simp only [cvE, Option.some.injEq] at h; subst h; rfl
  | e :: r, ces, h => by
    simp only [cvE, Option.bind_eq_some_iff, Option.map_eq_some_iff] at h
    obtain ⟨k, hk, v, hv, c, hc, rfl⟩ := h
    have ih := cvE_filter p r c hc
    cases hp : p e.2.2 with
    | true => simp [hp, cvE, hk, hv, ih]
    | false => simp [hp, ih]
theorem cvE_app {a b : List (AV × AV × Nat)} {c d : List MapEntry} (h : cvE E ι a = some c) (g : cvE E ι b = some d) : cvE E ι (a ++ b) = some (c ++ d) := by
  induction a generalizing c with
  | nil => simp only [cvE, Option.some.injEq] at h; subst h; exact g
  | cons e r ih =>
    simp only [cvE, Option.bind_eq_some_iff, Option.map_eq_some_iff] at h
    obtain ⟨k, hk, v, hv, q, hq, rfl⟩ := h
    simp [cvE, hk, hv, ih hq]
theorem cvE_empty {es : List (AV × AV × Nat)} {ces : List MapEntry} (h : cvE E ι es = some ces) : ces.isEmpty = es.isEmpty := by
  have := (cvE_get h).1
  cases es <;> cases ces <;> simp_all
theorem cvE_allB (p : Nat → Bool) {es : List (AV × AV × Nat)} {ces : List MapEntry} (h : cvE E ι es = some ces) : (ces.all fun e => p e.born) = es.all fun e => p e.2.2 := by
  induction es generalizing ces with
  | nil => simp only [cvE, Option.some.injEq] at h; subst h; rfl
  | cons e r ih =>
    simp only [cvE, Option.bind_eq_some_iff, Option.map_eq_some_iff] at h
    obtain ⟨k, hk, v, hv, q, hq, rfl⟩ := h
    simp [ih hq]
theorem ble_eq (a b : Nat) : Nat.ble a b = decide (a ≤ b) := by
  rw [Bool.eq_iff_iff]; simp [Nat.ble_eq]
theorem blt_eq (a b : Nat) : Nat.blt a b = decide (a < b) := by
  show Nat.ble (a + 1) b = _
  rw [ble_eq]
  rfl
theorem run_choose_lt {n : Nat} (hn : 0 < n) : ∃ k i, (choose (.mapNext n)).run P w = .ok i { w with drawn := k } ∧ i < n := by
  rw [run_choose]
  split
  · exact ⟨w.drawn, 0, rfl, hn⟩
  · exact ⟨w.drawn + 1, _, rfl, Nat.mod_lt _ hn⟩
theorem wNext_ok (hh : HR B w0 E ι H w) (hρ : Opv E ι tm ρ) {x : Operand} (ho : o.op = .next x false) {rs : List AR} (h : (opv tm x).bind (aNext H) = some rs) : WOk P B w0 E ι w (execOp ρ o) rs := by
  obtain ⟨it, hit, h⟩ := Option.bind_eq_some_iff.1 h
  have h1 := hρ x _ hit
  unfold aNext at h
  split at h
  · rename_i n
    simp only [cv, Option.map_eq_some_iff] at h1
    obtain ⟨d, hd, h1⟩ := h1
    split at h
    · rename_i s0 l0 k0 hg
      simp only [Option.some.injEq] at h; subst h
      obtain ⟨d', hd', hr⟩ := hh.obj n _ hg
      rw [hd] at hd'; injection hd' with hd'; subst hd'
      generalize hob : w.heap[d.1]? = ob at hr
      cases hr with
      | iter0 hz =>
        refine WOk.one (n := .value (.tuple #[.bool false])) ?_ (Ext.refl E) hh (by simp [NR, cv, cvs]) (Touch.refl w) (Nat.le_refl _)
        simp [execOp, ho, ← h1, Instr.next, hz, run_getObj hob]
    · rename_i m since seen last hg
      split at h
      · rename_i es clock hgm
        split at h
        · cases h
        · rename_i hnot
          simp only [Option.some.injEq] at h
          obtain ⟨d', hd', hr⟩ := hh.obj n _ hg
          rw [hd] at hd'; injection hd' with hd'; subst hd'
          generalize hob : w.heap[d.1]? = ob at hr
          cases hr with
          | @iter _ _ _ _ _ em hz hem =>
            obtain ⟨ces, hE, hbm⟩ := hh.map' hgm hem
            -- the candidates
            generalize hL : (es.filter fun e => !seen.contains e.2.2) = left at h
            have hLc : cvE E ι left = some (ces.filter fun e => !seen.contains e.born) := by rw [← hL]; exact cvE_filter (fun b => !seen.contains b) es ces hE
            generalize hO : (left.filter fun e => Nat.blt e.2.2 since) = old at h
            generalize hN : (left.filter fun e => !Nat.blt e.2.2 since) = new at h
            have hOc : cvE E ι old = some ((ces.filter fun e => !seen.contains e.born).filter fun e => Nat.blt e.born since) := by rw [← hO]; exact cvE_filter (fun b => Nat.blt b since) left _ hLc
            have hNc : cvE E ι new = some ((ces.filter fun e => !seen.contains e.born).filter fun e => !Nat.blt e.born since) := by rw [← hN]; exact cvE_filter (fun b => !Nat.blt b since) left _ hLc
            generalize hOv : ((ces.filter fun e => !seen.contains e.born).filter fun e => Nat.blt e.born since) = oldc at hOc
            generalize hNv : ((ces.filter fun e => !seen.contains e.born).filter fun e => !Nat.blt e.born since) = newc at hNc
            have hcand : ∃ cand : List (Option MapEntry), cand = (if oldc.isEmpty then [none] else []) ++ (oldc ++ newc).map some ∧ 0 < cand.length := by
              refine ⟨_, rfl, ?_⟩
              cases oldc <;> simp
            obtain ⟨cand, hcd, hpos⟩ := hcand
            obtain ⟨k, i, hch, hi⟩ := run_choose_lt (P := P) (w := w) hpos
            have hrun : ∀ r w2, (match cand[i]? with
                | some (some e) => r = Value.tuple #[.bool true, e.key, e.val] ∧ w2 = { w with drawn := k, heap := w.heap.setIfInBounds d.1 (.mapIter (some em.1) since (seen.toArray.push e.born) clock) }
                | some none => r = Value.tuple #[.bool false] ∧ w2 = { w with drawn := k }
                | none => False) → (execOp ρ o).run P w = .ok (.value r) w2 := by
              intro r w2 hrw
              have hsize : (((if ((ces.toArray.filter fun e => !seen.toArray.contains e.born).filter fun e => decide (e.born < since)).isEmpty then #[none] else #[]) ++
                  ((((ces.toArray.filter fun e => !seen.toArray.contains e.born).filter fun e => decide (e.born < since)) ++ ((ces.toArray.filter fun e => !seen.toArray.contains e.born).filter fun e => decide (e.born ≥ since))).map some)) : Array (Option MapEntry)) = cand.toArray := by
                have f1 : (ces.toArray.filter fun e => !seen.toArray.contains e.born) = (ces.filter fun e => !seen.contains e.born).toArray := by simp
                rw [f1]
                have f2 : ((ces.filter fun e => !seen.contains e.born).toArray.filter fun e => decide (e.born < since)) = oldc.toArray := by
                  rw [← hOv, List.filter_toArray]
                  congr 2
                  funext e
                  rw [blt_eq]
                have f3 : ((ces.filter fun e => !seen.contains e.born).toArray.filter fun e => decide (e.born ≥ since)) = newc.toArray := by
                  rw [← hNv, List.filter_toArray]
                  congr 2
                  funext e
                  rw [blt_eq, ← decide_not]
                  congr 1
                  simp
                rw [f2, f3, hcd]
                cases oldc <;> simp
              have hno : ¬ ((!seen.toArray.isEmpty && !ces.toArray.isEmpty && ces.toArray.all fun e => decide (e.born ≥ last)) = true) := by
                intro hx
                apply hnot
                have e1 : (ces.toArray.all fun e => decide (e.born ≥ last)) = es.all fun e => Nat.ble last e.2.2 := by
                  rw [← cvE_allB (fun b => Nat.ble last b) hE]
                  simp [ble_eq]
                have e2 : ces.toArray.isEmpty = es.isEmpty := by rw [← cvE_empty hE]; simp
                rw [e1, e2] at hx
                simpa using hx
              simp only [execOp, ho, ← h1, Instr.next, hz, Nat.zero_add, Sem.run_bind, run_getObj hob (by simp), Result.andThen_ok, run_getObj hbm (by simp)]
              rw [if_neg hno]
              simp only [Sem.run_pure, Result.andThen_ok, Sem.run_bind]
              rw [hsize]
              simp only [List.size_toArray, hch, List.getElem?_toArray, Result.andThen_ok]
              cases hc : cand[i]? with
              | none => rw [hc] at hrw; exact hrw.elim
              | some q =>
                rw [hc] at hrw
                cases q with
                | none => obtain ⟨rfl, rfl⟩ := hrw; rfl
                | some e =>
                  obtain ⟨rfl, rfl⟩ := hrw
                  simp only [Sem.run_bind, run_setObj (w := { w with drawn := k }) (r := d.1) hob (by simp), Result.andThen_ok, Sem.run_pure]
            have hsz : ∀ e, cand[i]? = some (some e) → ∃ a ∈ old ++ new, cv E ι a.1 = some e.key ∧ cv E ι a.2.1 = some e.val ∧ a.2.2 = e.born := fun e he => by
              have hmem : e ∈ oldc ++ newc := by
                have := List.mem_of_getElem? he
                rw [hcd] at this
                rcases List.mem_append.1 this with h | h
                · split at h <;> simp at h
                · simpa using h
              obtain ⟨j, hj⟩ := List.getElem?_of_mem hmem
              have happ := cvE_app hOc hNc
              obtain ⟨g1, g2⟩ := cvE_get happ
              have hlt : j < (old ++ new).length := by rw [← g1]; exact (List.getElem?_eq_some_iff.1 hj).1
              obtain ⟨kk, vv, a1, a2, a3⟩ := g2 j _ (List.getElem?_eq_getElem hlt)
              rw [hj] at a3; injection a3 with a3
              exact ⟨_, List.getElem_mem hlt, by rw [a1, a3], by rw [a2, a3], by rw [a3]⟩
            cases hc : cand[i]? with
            | none =>
              have := List.getElem?_eq_none_iff.1 hc
              omega
            | some q =>
              cases q with
              | none =>
                have hold : old.isEmpty = true := by
                  rw [← cvE_empty hOc]
                  have := List.mem_of_getElem? hc
                  rw [hcd] at this
                  rcases List.mem_append.1 this with h | h
                  · split at h
                    · assumption
                    · simp at h
                  · simp at h
                refine WOk.mem (n := .value (.tuple #[.bool false])) (hrun _ { w with drawn := k } (by rw [hc]; exact ⟨rfl, rfl⟩)) (r := (.val (.tuple [.bool false]), H, [])) ?_ (Ext.refl E) (hh.drew k) (by simp [NR, cv, cvs]) (fun b _ _ => rfl) (Nat.le_refl _)
                rw [← h, hold]
                simp
              | some e =>
                obtain ⟨a, ha, a1, a2, a3⟩ := hsz e hc
                refine WOk.mem (n := .value (.tuple #[.bool true, e.key, e.val])) (hrun _ _ (by rw [hc]; exact ⟨rfl, rfl⟩)) (r := (.val (.tuple [.bool true, a.1, a.2.1]), H.put n (.iter (some m) since (seen ++ [a.2.2]) clock), [n])) ?_ (Ext.refl E) ?_ ?_ ?_ (by simp)
                · rw [← h]
                  refine List.mem_append_right _ (List.mem_map.2 ⟨a, ha, rfl⟩)
                · have := (hh.put hg rfl hd (.iter (some m) since (seen ++ [a.2.2]) clock) (.mapIter (some em.1) since (seen.toArray.push e.born) clock) (by
                    have : seen.toArray.push e.born = (seen ++ [a.2.2]).toArray := by rw [a3]; simp
                    rw [this]
                    exact .iter hz hem)).drew k
                  exact this
                · simp [NR, cv, cvs, a1, a2]
                · intro b hb hne
                  show (w.heap.setIfInBounds d.1 _)[b]? = _
                  rw [Array.getElem?_setIfInBounds_ne (hne n (by simp) d hd)]
      · cases h
    · cases h
  · cases h

/-! ### Calls -/
theorem TM.get_set (tm : TM) (i j : Nat) (v : AV) : (tm.set i v).get j = if j = i ∧ i < tm.n then v else tm.get j := by
  unfold TM.set TM.get
  rw [blt_eq]
  by_cases h : i < tm.n
  · simp only [h, decide_true, cond_true, Tr.get_set]
    by_cases hj : j = i
    · simp [hj]
    · simp [hj]
  · simp [h]
theorem TMR_set {C : Array Value} (h : TMR E ι tm C) {v : AV} {c : Value} (hv : cv E ι v = some c) (i : Nat) : TMR E ι (tm.set i v) (C.setIfInBounds i c) := by
  obtain ⟨h1, h2⟩ := h
  have hn : (tm.set i v).n = tm.n := by unfold TM.set; cases Nat.blt i tm.n <;> rfl
  refine ⟨by simp [hn, h1], fun j => ?_⟩
  rw [TM.get_set]
  by_cases hj : j = i ∧ i < tm.n
  · rw [if_pos hj, hv, hj.1]
    simp [h1, hj.2]
  · rw [if_neg hj, h2 j]
    congr 1
    simp only [Array.getD_eq_getD_getElem?]
    by_cases hji : j = i
    · subst hji
      have : ¬ j < C.size := by rw [h1]; exact fun hl => hj ⟨rfl, hl⟩
      simp [Array.getElem?_eq_none (show C.size ≤ j by omega), Array.getElem?_setIfInBounds, this]
    · rw [Array.getElem?_setIfInBounds_ne (Ne.symm hji)]
theorem TMR_setTmps : ∀ (ts : List Tmp) (as : List AV) (cs : List Value) (tm : TM) (C : Array Value), TMR E ι tm C → cvs E ι as = some cs → TMR E ι (setTmps tm ts as) ((ts.zip cs).foldl (fun tmps (x : Tmp × Value) => tmps.setIfInBounds x.1 x.2) C)
  | [], as, cs, tm, C, h, _ => by simpa [setTmps] using h
  | t :: ts, [], cs, tm, C, h, hc => by
    rw [cvs_nil] at hc; injection hc with hc; subst hc
    simpa [setTmps] using h
  | t :: ts, a :: as, cs, tm, C, h, hc => by
    obtain ⟨x, y, h1, h2, rfl⟩ := cvs_cons.1 hc
    simp only [setTmps, List.zip_cons_cons, List.foldl_cons]
    exact TMR_setTmps ts as y _ _ (TMR_set h h1 t) h2
/-! ### Functions without a body -/
theorem byteN_eq (c : UInt8) : ∀ (l : List UInt8) (n : Nat), byteN c l n = l.foldl (fun n x => if x == c then n + 1 else n) n
  | [], _ => rfl
  | x :: r, n => by simp only [byteN, List.foldl_cons]; exact byteN_eq c r _
theorem bytes_get! (l : List UInt8) (i : Nat) (x : UInt8) (h : l[i]? = some x) : (⟨l.toArray⟩ : ByteArray)[i]! = x := by
  obtain ⟨hi, e⟩ := List.getElem?_eq_some_iff.1 h
  have hs : i < (⟨l.toArray⟩ : ByteArray).size := by show i < l.toArray.size; simpa using hi
  rw [getElem!_pos (⟨l.toArray⟩ : ByteArray) i hs]
  show l.toArray[i]'(by simpa using hi) = x
  simpa using e
theorem byteAt_eq (c : UInt8) (l : List UInt8) : ∀ (r pre : List UInt8), l = pre ++ r → byteAt c r pre.length = (List.range' pre.length r.length).find? fun i => (⟨l.toArray⟩ : ByteArray)[i]! == c
  | [], pre, _ => by simp [byteAt]
  | x :: r, pre, h => by
    rw [List.length_cons, List.range'_succ, List.find?_cons, bytes_get! l pre.length x (by rw [h]; simp)]
    unfold byteAt
    cases hx : x == c with
    | true => rfl
    | false =>
      have := byteAt_eq c l r (pre ++ [x]) (by rw [h]; simp)
      rw [List.length_append, List.length_singleton] at this
      simpa using this
theorem fold_loop {β : Type} (f : β → UInt8 → β) (as : ByteArray) (stop : Nat) (h : stop ≤ as.size) : ∀ (i j : Nat) (b : β), i + j = stop →
    (@ByteArray.foldlM.loop β _root_.Id _ (fun x y => pure (f x y)) as stop h i j b) = ((as.data.toList.drop j).take i).foldl f b
  | 0, j, b, _ => by unfold ByteArray.foldlM.loop; split <;> simp [pure]
  | i + 1, j, b, e => by
    unfold ByteArray.foldlM.loop
    have hj : j < stop := by omega
    have hd : j < as.data.toList.length := by have : as.size = as.data.size := rfl; simp; omega
    rw [dif_pos hj]
    rw [List.drop_eq_getElem_cons hd, List.take_succ_cons, List.foldl_cons]
    exact fold_loop f as stop h i (j + 1) _ (by omega)
theorem fold_bytes {β : Type} (f : β → UInt8 → β) (b : β) (l : List UInt8) : ByteArray.foldl f b ⟨l.toArray⟩ = l.foldl f b := by
  have hs : (⟨l.toArray⟩ : ByteArray).size = l.length := by show l.toArray.size = _; simp
  unfold ByteArray.foldl ByteArray.foldlM
  rw [dif_pos (Nat.le_refl _)]
  have := fold_loop f ⟨l.toArray⟩ (⟨l.toArray⟩ : ByteArray).size (Nat.le_refl _) ((⟨l.toArray⟩ : ByteArray).size - 0) 0 b (by omega)
  refine Eq.trans this ?_
  rw [hs]
  simp
theorem fold_cast (c : UInt8) : ∀ (l : List UInt8) (n : Nat), l.foldl (fun (n : Int) x => if x == c then n + 1 else n) (n : Int) = ((l.foldl (fun (n : Nat) x => if x == c then n + 1 else n) n : Nat) : Int)
  | [], _ => rfl
  | x :: r, n => by
    simp only [List.foldl_cons]
    cases x == c with
    | true => exact fold_cast c r (n + 1)
    | false => exact fold_cast c r n
theorem aExtN_ok {fn : Func} {args : List AV} {v : AV} (h : aExtN fn.name args = some v) (ho : fn.origin = "") {E : Env} {cs : List Value} (hc : cvs E ι args = some cs) :
    Extern.findNext fn = none ∧ ∃ e, Extern.find fn = some e ∧ ∃ c, cv E ι v = some c ∧ ∀ w, (e cs.toArray).run P w = .ok c w := by
  unfold aExtN at h
  split at h
  · rename_i hn
    refine ⟨by unfold Extern.findNext; rw [hn, ho]; rfl, Extern.BytealgCount.count, by unfold Extern.find; rw [hn, ho]; rfl, ?_⟩
    split at h
    · rename_i s c
      simp only [Option.some.injEq] at h; subst h
      obtain ⟨a, r, ha, hr, rfl⟩ := cvs_cons.1 hc
      obtain ⟨b, r', hb, hr', rfl⟩ := cvs_cons.1 hr
      rw [cvs_nil] at hr'; injection hr' with hr'; subst hr'
      simp only [cv, Option.some.injEq] at ha hb; subst ha hb
      refine ⟨_, rfl, fun w => ?_⟩
      have e1 : (Extern.BytealgCount.count #[.string ⟨s.toArray⟩, .int .u8 c]).run P w = .ok (goInt ((⟨s.toArray⟩ : ByteArray).foldl (fun n x => if x == c.toNat.toUInt8 then n + 1 else n) (0 : Nat))) w := rfl
      rw [show [Value.string ⟨s.toArray⟩, Value.int .u8 c].toArray = #[.string ⟨s.toArray⟩, .int .u8 c] from rfl, e1, byteN_eq]
      rw [fold_bytes]
      have := fold_cast c.toNat.toUInt8 s 0
      rw [← this]
      rfl
    · cases h
  · split at h
    · rename_i hn
      refine ⟨by unfold Extern.findNext; rw [hn, ho]; rfl, Extern.BytealgIndexByte.indexByte, by unfold Extern.find; rw [hn, ho]; rfl, ?_⟩
      split at h
      · rename_i s c
        obtain ⟨a, r, ha, hr, rfl⟩ := cvs_cons.1 hc
        obtain ⟨b, r', hb, hr', rfl⟩ := cvs_cons.1 hr
        rw [cvs_nil] at hr'; injection hr' with hr'; subst hr'
        simp only [cv, Option.some.injEq] at ha hb; subst ha hb
        have key := byteAt_eq c.toNat.toUInt8 s s [] rfl
        have hsz : (⟨s.toArray⟩ : ByteArray).size = s.length := by show s.toArray.size = _; simp
        have hrun : ∀ w, (Extern.BytealgIndexByte.indexByte #[.string ⟨s.toArray⟩, .int .u8 c]).run P w = .ok (match byteAt c.toNat.toUInt8 s 0 with | some i => goInt i | none => goInt (-1)) w := fun w => by
          have e1 : (Extern.BytealgIndexByte.indexByte #[.string ⟨s.toArray⟩, .int .u8 c]).run P w = (match (List.range (⟨s.toArray⟩ : ByteArray).size).find? fun i => (⟨s.toArray⟩ : ByteArray)[i]! == c.toNat.toUInt8 with | some i => (pure (goInt i) : Sem Value) | none => pure (goInt (-1))).run P w := rfl
          rw [e1, hsz, List.range_eq_range', show byteAt c.toNat.toUInt8 s 0 = _ from key]
          simp only [List.length_nil]
          cases (List.range' 0 s.length).find? fun i => (⟨s.toArray⟩ : ByteArray)[i]! == c.toNat.toUInt8 <;> rfl
        split at h
        · rename_i i hi
          simp only [Option.some.injEq] at h; subst h
          exact ⟨_, rfl, fun w => by have := hrun w; rw [hi] at this; exact this⟩
        · rename_i hi
          simp only [Option.some.injEq] at h; subst h
          exact ⟨_, rfl, fun w => by have := hrun w; rw [hi] at this; exact this⟩
      · cases h
    · cases h
theorem wCall_ok (hP : Fine P) (hh : HR B w0 E ι H w) (hρ : Opv E ι tm ρ) {f : Operand} {args : Array Operand} {ts : Array TypeId} (ho : o.op = .call ⟨.value f, args, ts⟩) {rs : List AR} (h : wCall P H tm f args = some rs) : WOk P B w0 E ι w (execOp ρ o) rs := by
  unfold wCall at h
  split at h
  · rename_i fv av hf ha
    obtain ⟨n, hn, rfl⟩ := Option.map_eq_some_iff.1 h
    have h1 := hρ f _ hf
    have h2 := opvs_cvs hρ _ _ ha
    have hargs : (args.map ρ) = (args.toList.map ρ).toArray := by rw [map_arr]
    unfold aCall at hn
    split at hn
    · rename_i g first captured
      split at hn
      · rename_i hb
        simp only [Option.some.injEq] at hn; subst hn
        unfold hasBody at hb
        split at hb
        · rename_i fn hfn
          simp only [cv, Option.bind_eq_some_iff, Option.map_eq_some_iff] at h1
          obtain ⟨a, ha', b, hb', h1⟩ := h1
          refine WOk.one (n := .enter g (a ++ args.toList.map ρ ++ b).toArray) ?_ (Ext.refl E) hh ⟨rfl, _, cvs_append (cvs_append ha' h2) hb', rfl⟩ (Touch.refl w) (Nat.le_refl _)
          have hname := hP.names g fn hfn
          have hbody : fn.body.isNone = false := by cases hq : fn.body <;> simp_all
          simp only [execOp, ho, resolve, Sem.run_bind, ← h1, Deferred.ofValue, Sem.run_pure, Result.andThen_ok, invoke, callFunc, run_program, hfn, hname, Bool.false_eq_true, if_false, hbody, hargs]
          simp
        · cases hb
      · obtain ⟨v, hv, rfl⟩ := Option.map_eq_some_iff.1 hn
        unfold aExt at hv
        split at hv
        · rename_i fn hfn
          split at hv
          · rename_i hcond
            simp only [Bool.and_eq_true, beq_iff_eq] at hcond
            simp only [cv, Option.bind_eq_some_iff, Option.map_eq_some_iff] at h1
            obtain ⟨a, ha', b, hb', h1⟩ := h1
            obtain ⟨hnext, e, he, c, hc, hrun⟩ := aExtN_ok (P := P) hv hcond.2 (cvs_append (cvs_append ha' h2) hb')
            refine WOk.one (n := .value c) ?_ (Ext.refl E) hh hc (Touch.refl w) (Nat.le_refl _)
            have hname := hP.names g fn hfn
            simp only [execOp, ho, resolve, Sem.run_bind, ← h1, Deferred.ofValue, Sem.run_pure, Result.andThen_ok, invoke, callFunc, run_program, hfn, hname, Bool.false_eq_true, if_false, hcond.1, if_true, hargs, run_mark, hnext, he]
            have : (a.toArray ++ (args.toList.map ρ).toArray ++ b.toArray) = (a ++ args.toList.map ρ ++ b).toArray := by simp
            rw [this]
            simp only [Sem.run_bind, hrun w, Result.andThen_ok, Sem.run_pure]
          · cases hv
        · cases hv
    · rename_i l
      split at hn
      · rename_i st jump fn ltm ps assign body d hg
        split at hn
        · rename_i hlen
          simp only [Option.some.injEq] at hn; subst hn
          simp only [cv, Option.map_eq_some_iff] at h1
          obtain ⟨e, he, h1⟩ := h1
          obtain ⟨e', he', hr⟩ := hh.obj l _ hg
          rw [he] at he'; injection he' with he'; subst he'
          generalize hob : w.heap[e.1]? = ob at hr
          cases hr with
          | @loop _ _ _ _ _ _ _ _ _ ed C hC hed =>
            have hsz : (args.toList.map ρ).length = av.length := (cvs_get h2).1
            refine WOk.one (n := .round e.1 fn ((ps.toList.zip (args.toList.map ρ)).foldl (fun tmps (x : Tmp × Value) => tmps.setIfInBounds x.1 x.2) C) assign body) ?_ (Ext.refl E) hh ⟨⟨e, he, rfl⟩, rfl, TMR_setTmps _ _ _ _ _ hC h2, rfl, rfl⟩ (Touch.refl w) (Nat.le_refl _)
            simp only [execOp, ho, resolve, Sem.run_bind, ← h1, Deferred.ofValue, Sem.run_pure, Result.andThen_ok, invoke, Instr.yield, Instr.getLoop, run_getObj hob (by simp)]
            have hz : ¬ ((#[] ++ args.map ρ).size ≠ ps.size) := by
              simp only [Array.empty_append, Array.size_map, ne_eq, Decidable.not_not]
              rw [← hlen, ← hsz]
              simp
            rw [if_neg hz]
            simp only [Sem.run_pure, Array.empty_append, hargs]
            congr 2
            rw [← Array.foldl_toList]
            simp
        · cases hn
      · cases hn
    · cases hn
  · cases h
theorem resolve_builtin (ρ : Operand → Value) {b : Builtin} {args : Array Operand} {ts : Array TypeId} (ho : o.op = .call ⟨.builtin b, args, ts⟩) (w' : World) :
    (execOp ρ o).run P w' = (builtin b ts o.type (args.map fun | .const _ => true | _ => false) (args.map ρ)).run P w' := by
  simp only [execOp, ho, resolve, Sem.run_bind, Sem.run_pure, Result.andThen_ok, invoke]
  rfl
theorem cvE_erase {es : List (AV × AV × Nat)} {ces : List MapEntry} (h : cvE E ι es = some ces) (i : Nat) : cvE E ι (es.eraseIdx i) = some (ces.eraseIdx i) := by
  induction es generalizing ces i with
  | nil => simp only [cvE, Option.some.injEq] at h; subst h; rfl
  | cons e r ih =>
    simp only [cvE, Option.bind_eq_some_iff, Option.map_eq_some_iff] at h
    obtain ⟨k, hk, v, hv, q, hq, rfl⟩ := h
    cases i with
    | zero => simpa using hq
    | succ i => simp [cvE, hk, hv, ih hq i]
theorem wDelete_ok (hh : HR B w0 E ι H w) (hρ : Opv E ι tm ρ) {args : Array Operand} {ts : Array TypeId} (ho : o.op = .call ⟨.builtin .delete, args, ts⟩) {rs : List AR} (h : (opvs tm args.toList).bind (aDelete P H ts.toList) = some rs) : WOk P B w0 E ι w (execOp ρ o) rs := by
  obtain ⟨av, ha, h⟩ := Option.bind_eq_some_iff.1 h
  have h2 := opvs_cvs hρ _ _ ha
  unfold aDelete at h
  split at h
  · rename_i t tr m k kr hts
    obtain ⟨mv, l1, hm, hl1, e1⟩ := cvs_cons.1 h2
    obtain ⟨kv, l2, hk, hl2, rfl⟩ := cvs_cons.1 hl1
    have ht0 : ts[0]? = some t := by rw [← Array.getElem?_toList, hts]; rfl
    have ha0 : (args.map ρ)[0]? = some mv := by rw [← Array.getElem?_toList, Array.toList_map, e1]; rfl
    have ha1 : (args.map ρ)[1]? = some kv := by rw [← Array.getElem?_toList, Array.toList_map, e1]; rfl
    have hrun : ∀ w', (Builtin.delete_ #[t] o.type #[mv, kv]).run P w = .ok (.tuple #[]) w' → (execOp ρ o).run P w = .ok (.value (.tuple #[])) w' := fun w' hw => by
      rw [resolve_builtin ρ ho]
      have : Builtin.delete_ ts o.type (args.map ρ) = Builtin.delete_ #[t] o.type #[mv, kv] := by unfold Builtin.delete_; rw [ht0, ha0, ha1]; rfl
      simp [builtin, this, hw]
    split at h
    · rename_i kt et hmk
      have hu := mapK_eq hmk
      simp only [cv, Option.some.injEq] at hm; subst hm
      split at h
      · rename_i hko
        simp only [Option.some.injEq] at h; subst h
        have hck := run_keyOk (P := P) (w := w) true 9 10000 kt k _ (by decide) hk hko
        exact WOk.one (hrun w (by simp [Builtin.delete_, run_undl hu, hck])) (Ext.refl E) hh (by simp [NR, cv, cvs]) (Touch.refl w) (Nat.le_refl _)
      · cases h
    · rename_i kt et n hmk
      have hu := mapK_eq hmk
      split at h
      · rename_i es clock hg
        simp only [cv, Option.map_eq_some_iff] at hm
        obtain ⟨e, he, rfl⟩ := hm
        obtain ⟨ces, hE, hbl⟩ := hh.map' hg he
        have hgo := run_getObj (P := P) hbl (by simp)
        split at h
        · rename_i hko
          obtain ⟨u, hku⟩ := keyOk_undl hko
          have hck := fun em => run_keyOk (P := P) (w := w) em 9 10000 kt k _ (by decide) hk hko
          split at h
          · rename_i i u' hf
            simp only [Option.some.injEq] at h; subst h
            obtain ⟨r', q1, q2⟩ := run_aFind (P := P) (w := w) hku hk hE hf
            cases r' with
            | none => exact q2.elim
            | some y =>
              obtain ⟨j, v'⟩ := y
              obtain ⟨rfl, _, _, e0, he0, _⟩ := q2
              rw [Nat.sub_zero] at he0
              have hlt : i < ces.length := by rw [(cvE_get hE).1]; exact (List.getElem?_eq_some_iff.1 he0).1
              have her : ces.toArray.eraseIdxIfInBounds i = (ces.eraseIdx i).toArray := by simp [Array.eraseIdxIfInBounds, hlt]
              refine WOk.one (hrun _ (by simp [Builtin.delete_, run_undl hu, hgo, hck, q1, her, run_setObj hbl])) (Ext.refl E) (hh.put hg rfl he _ _ (.map (cvE_erase hE i))) (by simp [NR, cv, cvs]) (Touch.set (by simp) he _) (by simp)
          · rename_i hf
            simp only [Option.some.injEq] at h; subst h
            obtain ⟨r', q1, q2⟩ := run_aFind (P := P) (w := w) hku hk hE hf
            cases r' with
            | some _ => exact q2.elim
            | none =>
              refine WOk.one (hrun _ (by simp [Builtin.delete_, run_undl hu, hgo, hck, q1, run_setObj hbl])) (Ext.refl E) (hh.put hg rfl he _ _ (.map hE)) (by simp [NR, cv, cvs]) (Touch.set (by simp) he _) (by simp)
          · cases h
        · cases h
      · cases h
    · cases h
  · cases h
end
end Go.Sx
/- append and copy; all operations that write, in one theorem. -/
set_option linter.unusedSimpArgs false
namespace Go.Sx
open Go Go.RowKit
section
variable {P : Program} {E : Env} {ι : Val} {tm : TM} {ρ : Operand → Value} {B : Base} {w0 w : World} {H : AH} {o : Oper}
/-! ### What append reads -/
theorem run_aFirst (hh : HR B w0 E ι H w) {size n : Nat} {x : AV} {a : Value} (hx : cv E ι x = some a) {l : List AV} (h : aFirst H size n x = some l) :
    ∃ c, (Builtin.firstCells size n a).run P w = .ok c w ∧ cvs E ι l = some c.toList := by
  have key : ∀ m off (e : Nat × Nat × Nat) len cap, E[m]? = some e → (match H.get m with | some (.row cs _ _ _) => if off + n * size ≤ cs.length then some ((cs.drop off).take (n * size)) else none | _ => none) = some l →
      ∃ c, (Builtin.firstCells size n (.slice (some ⟨e.1, e.2.1 + off, none⟩) len cap)).run P w = .ok c w ∧ cvs E ι l = some c.toList := by
    intro m off e len cap he h
    split at h
    · rename_i cs t ex st hg
      split at h
      · rename_i hlen
        simp only [Option.some.injEq] at h; subst h
        obtain ⟨e', he', hr⟩ := hh.obj m _ hg
        rw [he] at he'; injection he' with he'; subst he'
        generalize hob : w.heap[e.1]? = ob at hr
        cases hr with
        | row hr =>
          obtain ⟨c, h1, h2⟩ := run_loadRow (P := P) hr hob hlen
          exact ⟨c.toArray, h2, by simpa using h1⟩
      · cases h
    · cases h
  unfold aFirst at h
  split at h
  · simp only [Option.some.injEq] at h; subst h
    simp only [cv, Option.some.injEq] at hx; subst hx
    exact ⟨#[], rfl, cvs_nil⟩
  · simp only [cv, Option.map_eq_some_iff] at hx
    obtain ⟨e, he, rfl⟩ := hx
    exact key _ _ e _ _ he h
  · simp only [cv, Option.map_eq_some_iff] at hx
    obtain ⟨e, he, rfl⟩ := hx
    exact key _ _ e _ _ he h
  · split at h
    · rename_i hn
      simp only [Option.some.injEq] at h; subst h
      simp only [cv, Option.map_eq_some_iff] at hx
      obtain ⟨e, he, rfl⟩ := hx
      subst hn
      exact ⟨#[], by simp only [Builtin.firstCells, Nat.zero_mul]; rfl, cvs_nil⟩
    · cases h
  · split at h
    · rename_i hn
      simp only [Option.some.injEq] at h; subst h
      simp only [cv, Option.some.injEq] at hx
      subst hx
      subst hn
      exact ⟨#[], by simp only [Builtin.firstCells, Nat.zero_mul]; rfl, cvs_nil⟩
    · cases h
  · rename_i s
    simp only [cv, Option.some.injEq] at hx; subst hx
    simp only [Option.some.injEq] at h; subst h
    refine ⟨_, rfl, ?_⟩
    have : ((⟨s.toArray⟩ : ByteArray).extract 0 n).data = (s.take n).toArray := by rw [extract_bytes]; simp
    rw [this]
    refine cvs_of_get (by simp) fun i v hv => ?_
    rw [List.getElem?_map] at hv
    obtain ⟨b, hb, rfl⟩ := Option.map_eq_some_iff.1 hv
    exact ⟨_, rfl, by simp only [Array.toList_map, List.getElem?_map, hb, Option.map_some]⟩
  · cases h
theorem run_aLenOf {x : AV} {a : Value} (hx : cv E ι x = some a) {n : Nat} (h : aLenOf x = some n) : (Builtin.lenOf a).run P w = .ok n w := by
  unfold aLenOf at h
  split at h
  · simp only [Option.some.injEq] at h; subst h; simp only [cv, Option.some.injEq] at hx; subst hx; rfl
  · simp only [Option.some.injEq] at h; subst h; simp only [cv, Option.map_eq_some_iff] at hx; obtain ⟨e, he, rfl⟩ := hx; rfl
  · simp only [Option.some.injEq] at h; subst h; simp only [cv, Option.map_eq_some_iff] at hx; obtain ⟨e, he, rfl⟩ := hx; rfl
  · simp only [Option.some.injEq] at h; subst h; simp only [cv, Option.map_eq_some_iff] at hx; obtain ⟨e, he, rfl⟩ := hx; rfl
  · simp only [Option.some.injEq] at h; subst h; simp only [cv, Option.some.injEq] at hx; subst hx; rfl
  · simp only [Option.some.injEq] at h; subst h; simp only [cv, Option.some.injEq] at hx; subst hx; rfl
  · cases h
theorem growBy_le (n : Nat) : ∀ (r c : Nat), Builtin.growBy n r c ≤ max c (2 * n + 800)
  | 0, c => by unfold Builtin.growBy; omega
  | r + 1, c => by
    unfold Builtin.growBy
    split
    · omega
    · have := growBy_le n r (c + (c + 768) / 4)
      omega
theorem nextcap_le {need cap : Nat} (h : cap < need) : Builtin.nextslicecap need cap ≤ 8 * need + 8192 := by
  unfold Builtin.nextslicecap
  split
  · omega
  · split
    · omega
    · have := growBy_le need 4 cap
      omega

/-! ### The heap behind an append -/
theorem HR.toView (h : HR B w0 E ι H w) {n : Nat} {cs : List AV} {t : TypeId} {ex : Bool} {old : Option Nat} (hn : H.get n = some (.row cs t ex (.own old))) : HR B w0 E ι (H.put n (.row cs t ex .view)) w := by
  refine ⟨h.below, h.base, h.nx, h.inb, fun m o hm => ?_, fun a b p q c d ha hb hab hc hd hcd => ?_, h.pc, fun m o e hm hv he => by
    rw [AH.get_put] at hm
    split at hm
    · injection hm with hm; subst hm; cases hv
    · exact h.own m o e hm hv he, h.ext⟩
  · rw [AH.get_put] at hm
    split at hm
    · rename_i hmn
      injection hm with hm; subst hm hmn
      obtain ⟨e, he, hr⟩ := h.obj m _ hn
      refine ⟨e, he, ?_⟩
      generalize w.heap[e.1]? = ob at hr
      cases hr with
      | row hr => exact .row hr
    · exact h.obj m o hm
  · rw [AH.get_put] at ha hb
    split at ha
    · injection ha with ha; subst ha
      exact ⟨.inl rfl, fun hx => by simp [AObj.isView] at hx⟩
    · split at hb
      · injection hb with hb; subst hb
        rename_i hbn
        subst hbn
        have := h.sep a b p _ c d ha hn hab hc hd hcd
        exact ⟨.inr rfl, this.2⟩
      · exact h.sep a b p q c d ha hb hab hc hd hcd
/-- Both share a block: the elder is read only, and named by the younger. -/
theorem HR.share (h : HR B w0 E ι H w) {n : Nat} {cs : List AV} {t : TypeId} {old : Option Nat} (hn : H.get n = some (.row cs t false (.own old))) {e : Nat × Nat × Nat} (he : E[n]? = some e) (lo hi : Nat) (ob : Obj) (cells : List AV) (t2 : TypeId)
    (hv : OR E ι (.row cs t false .view) e (some ob)) (hr : OR (E ++ [(e.1, lo, hi)]) ι (.row cells t2 false (.own (some n))) (e.1, lo, hi) (some ob)) :
    HR B w0 (E ++ [(e.1, lo, hi)]) ι (((H.unold old).put n (.row cs t false .view)).new (.row cells t2 false (.own (some n)))) { w with heap := w.heap.setIfInBounds e.1 ob } := by
  have h1 := h.put hn rfl he (.row cs t false .view) ob hv
  simp only [show AObj.old (.row cs t false (.own old)) = old from rfl] at h1
  generalize hH1 : (H.unold old).put n (.row cs t false .view) = H1 at h1
  generalize hw1 : ({ w with heap := w.heap.setIfInBounds e.1 ob } : World) = w1 at h1
  have hg1 : H1.get n = some (.row cs t false .view) := by rw [← hH1, AH.get_put, if_pos rfl]
  have hb1 : w1.heap[e.1]? = some ob := by
    rw [← hw1]
    show (w.heap.setIfInBounds e.1 ob)[e.1]? = _
    rw [Array.getElem?_setIfInBounds, if_pos rfl, if_pos (h.inb n e he)]
  have alone : ∀ m p d, H1.get m = some p → m ≠ n → E[m]? = some d → d.1 ≠ e.1 := fun m p d hm hmn hd heq => by
    have hm' : (H.unold old).get m = some p := by rw [← hH1, AH.get_put, if_neg hmn] at hm; exact hm
    obtain ⟨g1, g2⟩ := AH.get_unold hm'
    exact g2 ((h.sep n m _ p e d hn g1 (Ne.symm hmn) he hd heq.symm).2 rfl).symm
  have hfree : H1.get H1.nx = none := by
    cases hg : H1.get H1.nx with
    | none => rfl
    | some o' =>
      obtain ⟨x, hx, _⟩ := h1.obj _ _ hg
      rw [h1.nx] at hx
      simp at hx
  have hold : ∀ k d p, H1.get k = some p → (E ++ [(e.1, lo, hi)])[k]? = some d → k ≠ H1.nx ∧ E[k]? = some d := fun k d p hk hd => by
    obtain ⟨d', hd', _⟩ := h1.obj k p hk
    have := Ext.app E (e.1, lo, hi) k d' hd'
    rw [hd] at this; injection this with this; subst this
    refine ⟨fun hk' => ?_, hd'⟩
    rw [hk', hfree] at hk; cases hk
  refine ⟨h1.below, h1.base, by simp [h1.nx], fun m d hd => ?_, fun m p hp => ?_, fun a b p q c d ha hb hab hc hd hcd => ?_, h1.pc, fun m p d hp hpv hd => by
    rw [AH.get_new] at hp
    split at hp
    · rename_i hm
      rw [hm, h1.nx, get_app_self] at hd
      injection hd with hd; subst hd
      exact h.own n _ e hn rfl he
    · exact h1.own m p d hp hpv (hold m d p hp hd).2, h1.ext.trans (Ext.app _ _)⟩
  · rcases get_app_lt hd with hd | ⟨_, rfl⟩
    · exact h1.inb m d hd
    · exact h1.inb n e he
  · rw [AH.get_new] at hp
    split at hp
    · rename_i hm
      injection hp with hp; subst hp hm
      exact ⟨_, by rw [h1.nx]; exact get_app_self _, by rw [hb1]; exact hr⟩
    · obtain ⟨d, hd, g⟩ := h1.obj m p hp
      exact ⟨d, Ext.app _ _ m d hd, OR_ext (Ext.app _ _) g⟩
  · rw [AH.get_new] at ha hb
    split at ha
    · rename_i haN
      injection ha with ha; subst ha
      rw [haN, h1.nx, get_app_self] at hc
      injection hc with hc; subst hc
      split at hb
      · rename_i hbN; exact absurd (haN.trans hbN.symm) hab
      · obtain ⟨_, hd'⟩ := hold b d q hb hd
        have hbn : b = n := by
          by_cases hbn : b = n
          · exact hbn
          · exact absurd hcd.symm (alone b q d hb hbn hd')
        subst hbn
        rw [hg1] at hb; injection hb with hb; subst hb
        exact ⟨.inr rfl, fun _ => rfl⟩
    · obtain ⟨_, hc'⟩ := hold a c p ha hc
      split at hb
      · rename_i hbN
        injection hb with hb; subst hb
        rw [hbN, h1.nx, get_app_self] at hd
        injection hd with hd; subst hd
        have han : a = n := by
          by_cases han : a = n
          · exact han
          · exact absurd hcd (alone a p c ha han hc')
        subst han
        rw [hg1] at ha; injection ha with ha; subst ha
        exact ⟨.inl rfl, fun hx => by simp [AObj.isView] at hx⟩
      · obtain ⟨_, hd'⟩ := hold b d q hb hd
        exact h1.sep a b p q c d ha hb hab hc' hd' hcd
/-- A row that begins with what is known. -/
theorem rowPart {cells : List AV} {known rest : List Value} (h : cvs E ι cells = some known) (t : TypeId) (b : Nat) : RowR E ι cells t false (b, 0, (known ++ rest).length) (known ++ rest).toArray (0, 0) := by
  obtain ⟨h1, h2⟩ := cvs_get h
  refine ⟨fun i v hv => ?_, by simp; omega, by simp, (fun hx => by cases hx), fun i _ hi => by omega⟩
  obtain ⟨c, a, b⟩ := h2 i v hv
  refine ⟨c, a, ?_⟩
  simp only [Nat.zero_add, List.getElem?_toArray]
  rw [List.getElem?_append_left (List.getElem?_eq_some_iff.1 b).1]
  exact b
/-! ### append -/
theorem zeroCells_size (z : Array Value) (n : Nat) : (Builtin.zeroCells z n).size = n * z.size := by simp [Builtin.zeroCells]
/-- What comes to be appended. -/
theorem run_appN (hh : HR B w0 E ι H w) {e : TypeId} {size : Nat} {zv : AV} {zc : Value} (hz : (zeroValue e).run P w = .ok zc w) (hzc : cvs E ι zv.cells = some zc.cells.toList) (hzs : zv.cells.length = size) (hpos : 0 < size) {made : Bool} {x : AV} {a : Value} (hx : cv E ι x = some a) {n : Nat} {new : List AV}
    (h : appN P H e size zv made x = some (n, new)) :
    (made = true → ∃ k l i, a = .int k l ∧ 0 ≤ l ∧ l ≤ 1000000 ∧ l.toNat = n ∧ P.info? e = some i ∧ (i.bytes : Int) * l ≤ 140737488355328) ∧ (made = false → (Builtin.lenOf a).run P w = .ok n w) ∧
    ∃ c : Array Value, cvs E ι new = some c.toList ∧ (made = false → (Builtin.firstCells size n a).run P w = .ok c w) ∧ (made = true → c = Builtin.zeroCells zc.cells n) := by
  unfold appN at h
  cases made with
  | true =>
    simp only [if_true] at h
    split at h
    · rename_i k l
      split at h
      · rename_i hc
        simp only [Bool.and_eq_true, decide_eq_true_eq, Nat.ble_eq] at hc
        simp only [Option.some.injEq, Prod.mk.injEq] at h
        obtain ⟨rfl, rfl⟩ := h
        simp only [cv, Option.some.injEq] at hx; subst hx
        have hzsz : zc.cells.size = zv.cells.length := by have := (cvs_get hzc).1; simpa using this
        have hreps := cvs_reps hzc (by omega) l.toNat
        have hinfo : ∃ i, P.info? e = some i := by
          cases hi : P.info? e with
          | some i => exact ⟨i, rfl⟩
          | none => simp [zeroValue, typeInfo, hi] at hz
        obtain ⟨i, hi⟩ := hinfo
        have hb : bytesT P e = i.bytes := by simp [bytesT, hi]
        refine ⟨fun _ => ⟨k, l, i, rfl, hc.1.1, hc.1.2, rfl, hi, ?_⟩, fun h => (by cases h), _, hreps, fun h => (by cases h), fun _ => rfl⟩
        have h3 := hc.2
        rw [hb] at h3
        have : (i.bytes : Int) * l = ((l.toNat * i.bytes : Nat) : Int) := by
          rw [Int.natCast_mul, Int.mul_comm, Int.toNat_of_nonneg hc.1.1]
        omega
      · cases h
    · cases h
  | false =>
    simp only [Bool.false_eq_true, if_false, Option.bind_eq_some_iff, Option.map_eq_some_iff, Prod.mk.injEq] at h
    obtain ⟨n', hn, l, hl, rfl, rfl⟩ := h
    obtain ⟨c, h1, h2⟩ := run_aFirst (P := P) hh hx hl
    exact ⟨fun h => (by cases h), fun _ => run_aLenOf hx hn, c, h2, fun _ => h1, fun h => (by cases h)⟩
end
end Go.Sx
