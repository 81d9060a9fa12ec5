/- What a symbolic frame says of a frame. Masks. -/
import Derived.Test.YtlkjbijklgdocaaSxP
import Derived.AtR
import Derived.RangeFuncIn
set_option linter.unusedVariables false
set_option linter.unusedSimpArgs false
namespace Go.Sx
open Go Go.RowKit

/-! ### Masks -/
def mk (d : Nat) : Set' := fun i => d.testBit i
theorem mk_or (d i : Nat) : mk (d ||| 2 ^ i) = upd (mk d) i := by
  funext j
  simp only [mk, upd, Nat.testBit_or, Nat.testBit_two_pow]
  by_cases h : i = j
  · subst h; simp
  · have : (j == i) = false := by simpa using fun e => h e.symm
    simp [h, this]
theorem mk_zero : mk 0 = fun _ => false := by funext i; simp [mk]
theorem land_eq (m d : Nat) : Nat.land m d = m ↔ ∀ k, m.testBit k = true → d.testBit k = true := by
  constructor
  · intro h k hk
    have : (m &&& d).testBit k = m.testBit k := by rw [show m &&& d = Nat.land m d from rfl, h]
    rw [Nat.testBit_and, hk] at this
    simpa using this
  · intro h
    apply Nat.eq_of_testBit_eq
    intro k
    show (m &&& d).testBit k = _
    rw [Nat.testBit_and]
    cases hk : m.testBit k with
    | false => rfl
    | true => simp [h k hk]
theorem fold_bits (f : Edge → Nat) (p : Edge → Bool) : ∀ (l : List Edge) (s k : Nat), (l.foldl (fun s e => bif p e then s ||| f e else s) s).testBit k = true ↔ s.testBit k = true ∨ ∃ e ∈ l, p e = true ∧ (f e).testBit k = true
  | [], s, k => by simp
  | e :: r, s, k => by
    simp only [List.foldl_cons]
    rw [fold_bits f p r]
    cases hp : p e with
    | true => simp [Nat.testBit_or, hp, or_assoc]
    | false => simp [hp]
theorem depMask_bit (o : Oper) (k : Nat) : (depMask o).testBit k = true ↔ ∃ e ∈ o.after, Region.binds .any e = true ∧ e.on = k := by
  unfold depMask
  rw [fold_bits (fun e => 2 ^ e.on) (fun e => Region.binds .any e)]
  simp [Nat.testBit_two_pow]
theorem rdy_mask {ops : Array Oper} {d i : Nat} {o : Oper} (ho : ops[i]? = some o) : Rdy ops (mk d) i ↔ (!d.testBit i && Nat.beq (Nat.land (depMask o) d) (depMask o)) = true := by
  rw [Bool.and_eq_true, Bool.not_eq_true', Nat.beq_eq, land_eq]
  constructor
  · rintro ⟨h0, o', ho', he⟩
    rw [ho] at ho'; injection ho' with ho'; subst ho'
    exact ⟨h0, fun k hk => by obtain ⟨e, hm, hb, rfl⟩ := (depMask_bit o k).1 hk; exact he e hm hb⟩
  · rintro ⟨h0, h⟩
    exact ⟨h0, o, ho, fun e hm hb => h _ ((depMask_bit o e.on).2 ⟨e, hm, hb, rfl⟩)⟩
theorem masks_get (ops : Array Oper) (i : Nat) : (depMasks ops)[i]? = (ops[i]?).map depMask := by simp [depMasks]
theorem readyFrom_ok {ops : Array Oper} {d : Nat} : ∀ (l : List Nat) (p i : Nat), (∀ j m, l[j]? = some m → ∃ o, ops[p + j]? = some o ∧ depMask o = m) → readyFrom d l p = some i → Rdy ops (mk d) i
  | [], _, _, _, h => by simp [readyFrom] at h
  | m :: r, p, i, hl, h => by
    unfold readyFrom at h
    obtain ⟨o, ho, rfl⟩ := hl 0 m rfl
    cases hc : (!d.testBit p && Nat.beq (Nat.land (depMask o) d) (depMask o)) with
    | true =>
      rw [hc] at h
      simp only [cond_true, Option.some.injEq] at h
      subst h
      exact (rdy_mask (by simpa using ho)).2 hc
    | false =>
      rw [hc] at h
      simp only [cond_false] at h
      exact readyFrom_ok r (p + 1) i (fun j m hj => by
        obtain ⟨o', h1, h2⟩ := hl (j + 1) m (by simpa using hj)
        exact ⟨o', by rw [← h1]; congr 1; omega, h2⟩) h
theorem readyAll_ok {ops : Array Oper} {d : Nat} : ∀ (l : List Nat) (p i : Nat), (∀ j m, l[j]? = some m → ∃ o, ops[p + j]? = some o ∧ depMask o = m) → Rdy ops (mk d) i → p ≤ i → i < p + l.length → i ∈ readyAll d l p
  | [], _, _, _, _, h1, h2 => by simp at h2; omega
  | m :: r, p, i, hl, hr, h1, h2 => by
    unfold readyAll
    obtain ⟨o, ho, rfl⟩ := hl 0 m rfl
    have rest : i ≠ p → i ∈ readyAll d r (p + 1) := fun hne => readyAll_ok r (p + 1) i (fun j m hj => by
        obtain ⟨o', h1, h2⟩ := hl (j + 1) m (by simpa using hj)
        exact ⟨o', by rw [← h1]; congr 1; omega, h2⟩) hr (by omega) (by simp at h2; omega)
    by_cases hc : i = p
    · subst hc
      have := (rdy_mask (by simpa using ho)).1 hr
      rw [this]
      simp
    · cases (!d.testBit p && Nat.beq (Nat.land (depMask o) d) (depMask o)) with
      | true => simp [rest hc]
      | false => simp [rest hc]
theorem masks_spec (ops : Array Oper) (p : Nat) : ∀ j m, ((depMasks ops).drop p)[j]? = some m → ∃ o, ops[p + j]? = some o ∧ depMask o = m := fun j m h => by
  rw [List.getElem?_drop, masks_get] at h
  exact Option.map_eq_some_iff.1 h
/-- The forerunners of an operation have come up when it may. -/
theorem ancs_ok {L : Set'} : ∀ (l : List Oper) (acc : List Nat) (pre : List Oper), acc.length = pre.length →
    (∀ (i j : Nat) m, acc[i]? = some m → m.testBit j = true → ∀ o, pre[i]? = some o → (∀ e ∈ o.after, Region.binds .any e = true → L e.on = true) → (∀ (k : Nat) o', pre[k]? = some o' → L k = true → ∀ e ∈ o'.after, Region.binds .any e = true → L e.on = true) → L j = true) →
    ∀ (i j : Nat) m, (ancs l acc)[i]? = some m → m.testBit j = true → ∀ o, (pre ++ l)[i]? = some o → (∀ e ∈ o.after, Region.binds .any e = true → L e.on = true) → (∀ (k : Nat) o', (pre ++ l)[k]? = some o' → L k = true → ∀ e ∈ o'.after, Region.binds .any e = true → L e.on = true) → L j = true
  | [], acc, pre, _, h => by
    intro i j m hm hj o ho hd hc
    rw [List.append_nil] at ho hc
    exact h i j m hm hj o ho hd hc
  | o :: r, acc, pre, hlen, h => by
    intro i j m hm hj o' ho' hd hc
    unfold ancs at hm
    have := ancs_ok (L := L) r (acc ++ [o.after.toList.foldl (fun s e => bif Region.binds .any e then s ||| 2 ^ e.on ||| acc.getD e.on 0 else s) 0]) (pre ++ [o]) (by simp [hlen]) (by
      intro i j m hm hj o2 ho2 hd2 hc2
      by_cases hi : i < acc.length
      · rw [List.getElem?_append_left hi] at hm
        rw [List.getElem?_append_left (by omega)] at ho2
        exact h i j m hm hj o2 ho2 hd2 (fun k o3 hk => hc2 k o3 (by rw [List.getElem?_append_left (List.getElem?_eq_some_iff.1 hk).1]; exact hk))
      · have hi2 : i = acc.length := by
          have := (List.getElem?_eq_some_iff.1 hm).1
          simp at this
          omega
        subst hi2
        rw [List.getElem?_append_right (Nat.le_refl _), Nat.sub_self] at hm
        rw [hlen, List.getElem?_append_right (Nat.le_refl _), Nat.sub_self] at ho2
        simp only [List.getElem?_cons_zero, Option.some.injEq] at hm ho2
        subst hm ho2
        have hj' : (o.after.toList.foldl (fun s e => bif Region.binds .any e then s ||| (2 ^ e.on ||| acc.getD e.on 0) else s) 0).testBit j = true := by
          rw [← hj]
          congr 2
          funext s e
          rw [Nat.or_assoc]
        rcases (fold_bits (fun e => 2 ^ e.on ||| acc.getD e.on 0) (fun e => Region.binds .any e) _ _ _).1 hj' with h0 | ⟨e, hm, hb, hbit⟩
        · simp at h0
        · have hLe := hd2 e (by simpa using hm) hb
          rw [Nat.testBit_or, Nat.testBit_two_pow, Bool.or_eq_true] at hbit
          rcases hbit with hbit | hbit
          · have : e.on = j := by simpa using hbit
            rw [← this]; exact hLe
          · by_cases he : e.on < acc.length
            · have hacc : acc[e.on]? = some (acc.getD e.on 0) := by simp [List.getD, List.getElem?_eq_getElem he]
              have hpre : pre[e.on]? = some (pre[e.on]'(by omega)) := List.getElem?_eq_getElem (by omega)
              refine h e.on j _ hacc hbit _ hpre ?_ (fun k o3 hk => hc2 k o3 (by rw [List.getElem?_append_left (List.getElem?_eq_some_iff.1 hk).1]; exact hk))
              exact hc2 e.on _ (by rw [List.getElem?_append_left (by omega)]; exact hpre) hLe
            · have : acc.getD e.on 0 = 0 := by simp [List.getD, List.getElem?_eq_none (by omega : acc.length ≤ e.on)]
              rw [this] at hbit
              simp at hbit) i j m hm hj o' (by simpa using ho') hd (fun k o3 hk => hc k o3 (by simpa using hk))
    exact this
theorem ancOf_ok {ops : Array Oper} {L : Set'} (hc : Closed ops L) {i j : Nat} (hr : Rdy ops L i) (hj : (ancOf ops i).testBit j = true) : L j = true := by
  obtain ⟨_, o, ho, he⟩ := hr
  unfold ancOf at hj
  cases hm : (ancs ops.toList [])[i]? with
  | none => simp [List.getD, hm] at hj
  | some m =>
    simp only [List.getD, hm, Option.getD_some] at hj
    refine ancs_ok (L := L) ops.toList [] [] rfl (by simp) i j m hm hj o (by simpa using ho) he (fun k o' hk hL => ?_)
    obtain ⟨o2, ho2, he2⟩ := hc k hL
    rw [List.nil_append, Array.getElem?_toList] at hk
    rw [hk] at ho2; injection ho2 with ho2; subst ho2
    exact he2

/-! ### Frames -/
def RndR (E : Env) : Option Nat → Option Nat → Prop
  | none, none => True
  | some l, some b => ∃ e, E[l]? = some e ∧ e.1 = b
  | _, _ => False
def DefR (E : Env) : List Nat → List Deferred → Prop
  | [], [] => True
  | d :: ds, c :: cs => (∃ e, E[d]? = some e ∧ c = { target := .collected e.1, args := #[] }) ∧ DefR E ds cs
  | _, _ => False
inductive ItR (E : Env) : AIt → Item → Prop
  | code {c} : ItR E (.code c) (.code c)
  | inBlock {id} : ItR E (.inBlock id) (.inBlock id)
  | inLoop {c} : ItR E (.inLoop c) (.inLoop c)
  | reg {ops i} : i ≤ ops.size → ItR E (.reg ops i (ops.toList.drop i)) (.inRegion ops (List.range' i (ops.size - i)))
  | inRange {l e} : E[l]? = some e → ItR E (.inRange l) (.inRangeFunc e.1)
  | endRange {l e} : E[l]? = some e → ItR E (.endRange l) (.endRangeFunc e.1)
  | beginRound : ItR E .beginRound .beginRound
inductive ItsR (E : Env) : List AIt → List Item → Prop
  | nil : ItsR E [] []
  | cons {a c k k'} : ItR E a c → ItsR E k k' → ItsR E (a :: k) (c :: k')
def pbOf (E : Env) (pend : List (Nat × List Nat)) : Nat → Nat → Prop := fun j b => ∃ ns, (j, ns) ∈ pend ∧ ∃ n ∈ ns, ∃ e, E[n]? = some e ∧ e.1 = b
structure AnyR (P : Program) (E : Env) (w : World) (ops : Array Oper) (ok : Bool) (done : Nat) (pend : List (Nat × List Nat)) (l : List Nat) (C V : Array Value) (L : Set') : Prop where
  sel : ∀ (j : Nat) (o : Oper) cs b, ops[j]? = some o → o.op ≠ .select cs b
  ok_ : ok = true → regOk ops = true
  closed : Closed ops L
  lin : Lin ops L l
  ah : Ah P ops w (pbOf E pend) L ⟨C, []⟩ (mk done) ⟨V, []⟩
def TodoR (P : Program) (E : Env) (w : World) (todo : List AIt) (ct : List Item) (C V : Array Value) : Prop :=
  match todo with
  | .any ops ok done _ pend cur :: k => ∃ l k' L, ct = .inRegion ops l :: k' ∧ ItsR E k k' ∧ AnyR P E w ops ok done pend l C V L ∧ (match cur with | none => True | some i => (∃ l', l = i :: l') ∧ mk done i = false)
  | todo => C = V ∧ ItsR E todo ct
structure FR (P : Program) (E : Env) (ι : Nat → Value) (w : World) (f : AFr) (fr : Frame) (b : Frame) (a : Act) (ct : List Item) (V : Array Value) : Prop where
  frame : fr = if f.ret then { b.atR a ct with mode := .returning } else b.atR a ct
  fn : b.fn = f.fn
  kind : b.kind = .normal
  rnd : RndR E f.rnd b.roundOf
  defs : DefR E f.defers a.defers
  tm : TMR E ι f.tm V
  todo : TodoR P E w f.todo ct a.tmps V
  ret : f.ret = true → a.tmps = V ∧ ItsR E f.todo ct
def FRel (P : Program) (E : Env) (ι : Nat → Value) (w : World) (f : AFr) (fr : Frame) : Prop := ∃ b a ct V, FR P E ι w f fr b a ct V
inductive FRs (P : Program) (E : Env) (ι : Nat → Value) (w : World) : List AFr → List Frame → Prop
  | nil : FRs P E ι w [] []
  | cons {f fr fs frs} : FRel P E ι w f fr → f.ret = false → FRs P E ι w fs frs → FRs P E ι w (f :: fs) (fr :: frs)
section
variable {P : Program} {E E' : Env} {ι : Nat → Value} {w w2 : World}
theorem RndR.ext (h : Ext E E') {x y : Option Nat} (g : RndR E x y) : RndR E' x y := by
  cases x <;> cases y <;> first | exact g | (obtain ⟨e, a, b⟩ := g; exact ⟨e, h _ _ a, b⟩)
theorem DefR.ext (h : Ext E E') : ∀ {x : List Nat} {y : List Deferred}, DefR E x y → DefR E' x y
  | [], [], _ => trivial
  | [], _ :: _, g => g.elim
  | _ :: _, [], g => g.elim
  | _ :: _, _ :: _, ⟨⟨e, a, b⟩, g⟩ => ⟨⟨e, h _ _ a, b⟩, DefR.ext h g⟩
theorem ItR.ext (h : Ext E E') {x : AIt} {y : Item} (g : ItR E x y) : ItR E' x y := by
  cases g with
  | code => exact .code
  | inBlock => exact .inBlock
  | inLoop => exact .inLoop
  | reg hi => exact .reg hi
  | inRange he => exact .inRange (h _ _ he)
  | endRange he => exact .endRange (h _ _ he)
  | beginRound => exact .beginRound
theorem ItsR.ext (h : Ext E E') {x : List AIt} {y : List Item} (g : ItsR E x y) : ItsR E' x y := by
  induction g with
  | nil => exact .nil
  | cons a _ ih => exact .cons (a.ext h) ih
theorem mem_pendNames {pend : List (Nat × List Nat)} {j n : Nat} {ns : List Nat} (h : (j, ns) ∈ pend) (hn : n ∈ ns) : n ∈ pendNames pend := by
  induction pend with
  | nil => cases h
  | cons p r ih =>
    unfold pendNames
    rcases List.mem_cons.1 h with h | h
    · subst h; exact List.mem_append_left _ hn
    · exact List.mem_append_right _ (ih h)
/-- Sheltered blocks stay. -/
def Sheltered (E : Env) (ns : List Nat) (w w2 : World) : Prop := ∀ n ∈ ns, ∀ e, E[n]? = some e → w2.heap[e.1]? = w.heap[e.1]?
theorem AnyR.later {ops : Array Oper} {ok : Bool} {done : Nat} {pend : List (Nat × List Nat)} {l : List Nat} {C V : Array Value} {L : Set'} (h : AnyR P E w ops ok done pend l C V L) (hE : Ext E E') (hw : Sheltered E (pendNames pend) w w2) : AnyR P E' w2 ops ok done pend l C V L :=
  ⟨h.sel, h.ok_, h.closed, h.lin, (h.ah.world (fun j b ⟨ns, hm, n, hn, e, he, hb⟩ => hb ▸ hw n (mem_pendNames hm hn) e he)).more fun j b ⟨ns, hm, n, hn, e, he, hb⟩ => ⟨ns, hm, n, hn, e, hE _ _ he, hb⟩⟩
theorem TodoR.later {todo : List AIt} {ct : List Item} {C V : Array Value} (h : TodoR P E w todo ct C V) (hE : Ext E E') (hw : ∀ ops ok done pos pend cur k, todo = .any ops ok done pos pend cur :: k → Sheltered E (pendNames pend) w w2) : TodoR P E' w2 todo ct C V := by
  unfold TodoR at *
  split at h
  · rename_i ops ok done pos pend cur k
    obtain ⟨l, k', L, rfl, hk, ha, hc⟩ := h
    exact ⟨l, k', L, rfl, hk.ext hE, ha.later hE (hw _ _ _ _ _ _ _ rfl), hc⟩
  · exact ⟨h.1, h.2.ext hE⟩
theorem framePend_any {f : AFr} {ops : Array Oper} {ok : Bool} {done pos : Nat} {pend : List (Nat × List Nat)} {cur : Option Nat} {k : List AIt} (h : f.todo = .any ops ok done pos pend cur :: k) : framePend f = pendNames pend := by
  unfold framePend; rw [h]
theorem FRel.later {f : AFr} {fr : Frame} (h : FRel P E ι w f fr) (hE : Ext E E') (hw : Sheltered E (framePend f) w w2) : FRel P E' ι w2 f fr := by
  obtain ⟨b, a, ct, V, g⟩ := h
  exact ⟨b, a, ct, V, g.frame, g.fn, g.kind, g.rnd.ext hE, g.defs.ext hE, TMR_ext hE g.tm, g.todo.later hE (fun _ _ _ _ _ _ _ ht => by rw [← framePend_any ht]; exact hw), fun hx => ⟨(g.ret hx).1, (g.ret hx).2.ext hE⟩⟩
theorem FRs.later {fs : List AFr} {frs : List Frame} (h : FRs P E ι w fs frs) (hE : Ext E E') (hw : Sheltered E (stackPend fs) w w2) : FRs P E' ι w2 fs frs := by
  induction h with
  | nil => exact .nil
  | @cons f fr fs frs hf hr _ ih =>
    refine .cons (hf.later hE fun n hn => hw n ?_) hr (ih fun n hn => hw n ?_)
    · unfold stackPend; exact List.mem_append_left _ hn
    · unfold stackPend; exact List.mem_append_right _ hn
end
end Go.Sx
