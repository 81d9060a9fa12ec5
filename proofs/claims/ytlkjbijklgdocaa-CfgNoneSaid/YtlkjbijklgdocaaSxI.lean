/- A world turns: a new block, a row written, a map written; the symbolic heap turns with it. -/
import Derived.Test.YtlkjbijklgdocaaSxH
namespace Go.Sx
open Go Go.RowKit
section
variable {E E' : Env} {ι : Nat → Value} {B : Nat} {w0 w : World} {H : AH}
theorem TMR_ext {tm : TM} {C : Array Value} (h : Ext E E') (g : TMR E ι tm C) : TMR E' ι tm C := ⟨g.1, fun i => cv_ext h _ _ (g.2 i)⟩
theorem cvE_ext (h : Ext E E') {es : List (AV × AV × Nat)} {ces : List MapEntry} (g : cvE E ι es = some ces) : cvE E' ι es = some ces := by
  obtain ⟨h1, h2⟩ := cvE_get g
  exact cvE_of_get h1 fun i e he => by
    obtain ⟨k, v, a, b, c⟩ := h2 i e he
    exact ⟨k, v, cv_ext h _ _ a, cv_ext h _ _ b, c⟩
theorem RowR_ext (h : Ext E E') {cells : List AV} {t : TypeId} {ex : Bool} {e : Nat × Nat × Nat} {cs : Array Value} {fz : Nat × Nat} (g : RowR E ι cells t ex e cs fz) : RowR E' ι cells t ex e cs fz :=
  ⟨fun i v hv => by obtain ⟨c, a, b⟩ := g.at_ i v hv; exact ⟨c, cv_ext h _ _ a, b⟩, g.len, g.fits, g.exact, g.free⟩
theorem OR_ext (h : Ext E E') {o : AObj} {e : Nat × Nat × Nat} {x : Option Obj} (g : OR E ι o e x) : OR E' ι o e x := by
  cases g with
  | row r => exact .row (RowR_ext h r)
  | map r => exact .map (cvE_ext h r)
  | iter0 hz => exact .iter0 hz
  | iter hz r => exact .iter hz (h _ _ r)
  | loop r s => exact .loop (TMR_ext h r) (h _ _ s)
  | there => exact .there
  | gone => exact .gone
theorem get_app_lt {x : Nat × Nat × Nat} {n : Nat} {e : Nat × Nat × Nat} (h : (E ++ [x])[n]? = some e) : E[n]? = some e ∨ (n = E.length ∧ e = x) := by
  rw [List.getElem?_append] at h
  split at h
  · exact .inl h
  · rename_i hl
    right
    have : n - E.length = 0 := by
      rcases Nat.eq_zero_or_pos (n - E.length) with h0 | h0
      · exact h0
      · rw [List.getElem?_eq_none (by simp; omega)] at h; cases h
    rw [this] at h
    simp at h
    exact ⟨by omega, h.symm⟩
theorem get_app_self (x : Nat × Nat × Nat) : (E ++ [x])[E.length]? = some x := by simp
/-- A world whose blocks below B, and streams, stay, and whose heap does not shrink. -/
theorem HR.new (h : HR B w0 E ι H w) (ob : Obj) (o : AObj) (hi : Nat) (hr : OR (E ++ [(w.heap.size, 0, hi)]) ι o (w.heap.size, 0, hi) (some ob)) :
    HR B w0 (E ++ [(w.heap.size, 0, hi)]) ι (H.new o) { w with heap := w.heap.push ob } := by
  have hnone : H.get E.length = none ∨ ∃ o', H.get E.length = some o' := by cases H.get E.length <;> simp
  have hfree : H.get H.nx = none := by
    cases hg : H.get H.nx with
    | none => rfl
    | some o' =>
      obtain ⟨e, he, _⟩ := h.obj _ _ hg
      rw [h.nx] at he
      simp at he
  refine ⟨?_, ?_, ?_, ?_, ?_, ?_⟩
  · exact h.below.trans ⟨rfl, rfl, rfl, by simp, fun k hk => by
      show (w.heap.push ob)[k]? = _
      rw [Array.getElem?_push, if_neg (by have := h.base; omega)]⟩
  · have := h.base; simp; omega
  · simp [h.nx]
  · intro n e he
    rcases get_app_lt he with he | ⟨_, rfl⟩
    · have := h.inb n e he; simp; omega
    · have := h.base; simp; omega
  · intro n p hp
    rw [AH.get_new] at hp
    split at hp
    · rename_i hn
      injection hp with hp; subst hp hn
      refine ⟨_, by rw [h.nx]; exact get_app_self _, ?_⟩
      show OR _ _ _ _ (w.heap.push ob)[w.heap.size]?
      rw [Array.getElem?_push, if_pos rfl]
      exact hr
    · obtain ⟨e, he, g⟩ := h.obj n p hp
      have hin := h.inb n e he
      refine ⟨e, Ext.app _ _ n e he, ?_⟩
      show OR _ _ _ _ (w.heap.push ob)[e.1]?
      rw [Array.getElem?_push, if_neg (by omega)]
      exact OR_ext (Ext.app _ _) g
  · intro n m p q e d hp hq hnm he hd hed
    rw [AH.get_new] at hp hq
    have hold : ∀ k e p, H.get k = some p → (E ++ [(w.heap.size, 0, hi)])[k]? = some e → k ≠ H.nx ∧ E[k]? = some e ∧ e.1 < w.heap.size := fun k e p hk he => by
      obtain ⟨e', he', _⟩ := h.obj k p hk
      have : E[k]? = some e := by have := Ext.app E (w.heap.size, 0, hi) k e' he'; rw [he] at this; injection this with this; rw [this]; exact he'
      refine ⟨fun hk' => ?_, this, (h.inb k e this).2⟩
      rw [hk', hfree] at hk; cases hk
    split at hp
    · rename_i hn
      split at hq
      · rename_i hm; exact absurd (hn.trans hm.symm) hnm
      · have h3 := hold m d q hq hd
        rw [hn, h.nx, get_app_self] at he
        injection he with he
        rw [← he] at hed
        simp only at hed
        omega
    · split at hq
      · rename_i hm
        have h3 := hold n e p hp he
        rw [hm, h.nx, get_app_self] at hd
        injection hd with hd
        rw [← hd] at hed
        simp only at hed
        omega
      · exact h.sep n m p q e d hp hq hnm (hold n e p hp he).2.1 (hold m d q hq hd).2.1 hed
theorem HR.drew (h : HR B w0 E ι H w) (k : Nat) : HR B w0 E ι H { w with drawn := k } :=
  ⟨⟨h.below.os, h.below.tape, h.below.output, h.below.size, h.below.block⟩, h.base, h.nx, h.inb, h.obj, h.sep⟩
/-- Names go; what is left is said as before. -/
theorem HR.del (h : HR B w0 E ι H w) (n : Nat) : HR B w0 E ι (H.del n) w := by
  refine ⟨h.below, h.base, h.nx, h.inb, fun m o hm => ?_, fun a b o p e d ha hb => ?_⟩
  · rw [AH.get_del] at hm
    split at hm
    · cases hm
    · exact h.obj m o hm
  · rw [AH.get_del] at ha hb
    split at ha
    · cases ha
    · split at hb
      · cases hb
      · exact h.sep a b o p e d ha hb
theorem HR.unold (h : HR B w0 E ι H w) (old : Option Nat) : HR B w0 E ι (H.unold old) w := by
  cases old with
  | none => exact h
  | some m => exact h.del m
theorem AH.get_unold {old : Option Nat} {m : Nat} {o : AObj} (h : (H.unold old).get m = some o) : H.get m = some o ∧ some m ≠ old := by
  cases old with
  | none => exact ⟨h, by simp⟩
  | some k =>
    show _ ∧ _
    rw [show (H.unold (some k)).get m = (H.del k).get m from rfl, AH.get_del] at h
    split at h
    · cases h
    · rename_i hmk; exact ⟨h, fun e => hmk (by injection e)⟩
/-- The block of one name is laid anew; all names that shared it are gone. -/
theorem HR.put (h : HR B w0 E ι H w) {n : Nat} {o : AObj} (hn : H.get n = some o) (hv : o.isView = false) {e : Nat × Nat × Nat} (he : E[n]? = some e) (o' : AObj) (ob : Obj) (hr : OR E ι o' e (some ob)) :
    HR B w0 E ι ((H.unold o.old).put n o') { w with heap := w.heap.setIfInBounds e.1 ob } := by
  have hin := h.inb n e he
  have away : ∀ m p d, (H.unold o.old).get m = some p → m ≠ n → E[m]? = some d → d.1 ≠ e.1 := fun m p d hm hmn hd heq => by
    obtain ⟨hm, ho⟩ := AH.get_unold hm
    exact ho ((h.sep n m o p e d hn hm (Ne.symm hmn) he hd heq.symm).2 hv).symm
  have get_ne : ∀ k, k ≠ e.1 → (w.heap.setIfInBounds e.1 ob)[k]? = w.heap[k]? := fun k hk => by rw [Array.getElem?_setIfInBounds_ne (Ne.symm hk)]
  refine ⟨?_, ?_, ?_, ?_, ?_, ?_⟩
  · exact h.below.trans ⟨rfl, rfl, rfl, by simp, fun k hk => get_ne k (by omega)⟩
  · have := h.base; simp; omega
  · have := (h.unold o.old).nx; simpa using this
  · intro m d hd; have := h.inb m d hd; simp; omega
  · intro m p hp
    rw [AH.get_put] at hp
    split at hp
    · rename_i hm
      injection hp with hp; subst hp hm
      refine ⟨e, he, ?_⟩
      show OR _ _ _ _ (w.heap.setIfInBounds e.1 ob)[e.1]?
      rw [Array.getElem?_setIfInBounds, if_pos rfl, if_pos hin.2]
      exact hr
    · rename_i hm
      obtain ⟨d, hd, g⟩ := h.obj m p (AH.get_unold hp).1
      refine ⟨d, hd, ?_⟩
      show OR _ _ _ _ (w.heap.setIfInBounds e.1 ob)[d.1]?
      rw [get_ne _ (away m p d hp hm hd)]
      exact g
  · intro a b p q c d ha hb hab hc hd hcd
    rw [AH.get_put] at ha hb
    split at ha
    · rename_i han
      split at hb
      · rename_i hbn; exact absurd (han.trans hbn.symm) hab
      · rename_i hbn
        subst han
        rw [he] at hc; injection hc with hc; subst hc
        exact absurd hcd.symm (away b q d hb hbn hd)
    · rename_i han
      split at hb
      · rename_i hbn
        subst hbn
        rw [he] at hd; injection hd with hd; subst hd
        exact absurd hcd (away a p c ha han hc)
      · exact h.sep a b p q c d (AH.get_unold ha).1 (AH.get_unold hb).1 hab hc hd hcd

/-! ### Cells are stored -/
variable {P : Program}
theorem setCell_row {b k : Nat} {cs : Array Value} {t : TypeId} {fz : Nat × Nat} (hb : w.heap[b]? = some (.cells cs t fz)) (v : Value) :
    w.setCell ⟨b, k, none⟩ v = { w with heap := w.heap.setIfInBounds b (.cells (cs.setIfInBounds k v) t fz) } := by
  unfold World.setCell
  congr 1
  apply Array.ext_getElem?
  intro i
  rw [Array.getElem?_modify, Array.getElem?_setIfInBounds]
  by_cases hi : b = i
  · subst hi
    have hlt := (Array.getElem?_eq_some_iff.1 hb).1
    have hb' : w.heap[b] = .cells cs t fz := by rw [Array.getElem?_eq_getElem hlt] at hb; injection hb
    simp [hlt, hb']
  · simp [hi]
theorem run_storeSeg {t : TypeId} {fz : Nat × Nat} {b : Nat} : ∀ (vs : List Value) (w : World) (cs : Array Value) (off i : Nat), w.heap[b]? = some (.cells cs t fz) → off + i + vs.length ≤ cs.size → (∀ k, k < cs.size → ¬ (fz.1 ≤ k ∧ k < fz.2)) → (∀ v ∈ vs, v.oneCell' = true) →
    (storeCells ⟨b, off, none⟩ vs i).run P w = .ok () { w with heap := w.heap.setIfInBounds b (.cells (seg cs (off + i) vs) t fz) }
  | [], w, cs, off, i, hb, _, _, _ => by
    simp only [storeCells, seg, Sem.run_pure]
    congr 1
    have : w.heap.setIfInBounds b (.cells cs t fz) = w.heap := by
      apply Array.ext_getElem?
      intro k
      rw [Array.getElem?_setIfInBounds]
      by_cases hk : b = k
      · subst hk
        have hlt := (Array.getElem?_eq_some_iff.1 hb).1
        rw [if_pos rfl, if_pos hlt, hb]
      · rw [if_neg hk]
    rw [this]
  | v :: r, w, cs, off, i, hb, hs, hf, hv => by
    simp only [List.length_cons] at hs
    have h1 : w.cell? ⟨b, off + i, none⟩ = some (cs[off + i]'(by omega)) := by rw [cell_of_heap hb, Array.getElem?_eq_getElem]
    have h2 : w.frozen? ⟨b, off + i, none⟩ = false := by
      have := hf (off + i) (by omega)
      simp only [World.frozen?, hb]
      cases hx : (decide (fz.1 ≤ off + i) && decide (off + i < fz.2)) with
      | false => rfl
      | true => simp at hx; exact absurd hx this
    have hblt := (Array.getElem?_eq_some_iff.1 hb).1
    simp only [storeCells, Sem.run_bind, addr_add]
    rw [run_store _ _ _ _ _ (hv v (by simp)), h1]
    simp only [h2, Bool.false_eq_true, if_false, Result.andThen_ok]
    rw [setCell_row hb]
    have ih := run_storeSeg (t := t) (fz := fz) (b := b) r { w with heap := w.heap.setIfInBounds b (.cells (cs.setIfInBounds (off + i) v) t fz) } (cs.setIfInBounds (off + i) v) off (i + 1)
      (by show (w.heap.setIfInBounds b _)[b]? = _; rw [Array.getElem?_setIfInBounds, if_pos rfl, if_pos hblt]) (by simp; omega) (by simpa using hf) (fun u hu => hv u (by simp [hu]))
    rw [ih]
    congr 2
    show (w.heap.setIfInBounds b _).setIfInBounds b _ = _
    rw [Array.setIfInBounds_setIfInBounds]
    rfl
end
end Go.Sx
