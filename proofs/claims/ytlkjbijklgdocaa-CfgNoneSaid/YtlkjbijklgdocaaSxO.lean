/- append and copy in a symbolic heap; all operations that write, in one theorem. -/
import Derived.Test.YtlkjbijklgdocaaSxN
set_option linter.unusedSimpArgs false
namespace Go.Sx
open Go Go.RowKit
section
variable {P : Program} {E : Env} {ι : Nat → Value} {tm : TM} {ρ : Operand → Value} {B : Nat} {w0 w : World} {H : AH} {o : Oper}
theorem zeros_of_made {t : Option TypeId} (h : t.all (fun u => (P.underlying u).isSome) = true) : (∃ u d, t = some u ∧ P.underlying u = some d ∧ madeT P t = isInt d) ∨ (t = none ∧ madeT P t = false) := by
  cases t with
  | none => exact .inr ⟨rfl, rfl⟩
  | some u =>
    simp only [Option.all_some, Option.isSome_iff_exists] at h
    obtain ⟨d, hd⟩ := h
    refine .inl ⟨u, d, rfl, hd, ?_⟩
    simp only [madeT, hd]
    cases d <;> rfl
/-- Everything that an append has to go on. -/
structure AppIn (P : Program) (B : Nat) (w0 : World) (E : Env) (ι : Nat → Value) (H : AH) (w : World) (e : TypeId) (size n : Nat) (new : List AV) (x : Value) (zeros : Bool) (zc : Value) (c : Array Value) : Prop where
  hh : HR B w0 E ι H w
  szt : szOf P e = some size
  pos : 0 < size
  info : ∃ i, P.info? e = some i
  zero : ∀ k, (zeroValue e).run P { w with drawn := k } = .ok zc { w with drawn := k }
  zsize : zc.cells.size = size
  newc : cvs E ι new = some c.toList
  len : new.length = n * size
  comes : ∀ k, Comes' P { w with drawn := k } e size n x zeros c
variable {e : TypeId} {size n : Nat} {new : List AV} {x : Value} {zeros : Bool} {zc : Value} {c : Array Value}
theorem AppIn.out (a : AppIn P B w0 E ι H w e size n new x zeros zc c) {base : Option Addr} {sLen sCap : Nat} {s : Value} (h : ¬ sLen + n ≤ sCap) (hr : roomy P e (sLen + n) = true) {old : List AV} {oc : Array Value} (ho : cvs E ι old = some oc.toList) (hol : old.length = sLen * size)
    (hrun : ∀ k, (Builtin.firstCells size sLen s).run P { w with drawn := k } = .ok oc { w with drawn := k }) :
    ∃ newCap k ob hi, (appTail e size base sLen sCap s x zeros n).run P w = .ok (.slice (some ⟨w.heap.size, 0, none⟩) (sLen + n) newCap) { w with drawn := k, heap := w.heap.push ob } ∧
      HR B w0 (E ++ [(w.heap.size, 0, hi)]) ι (H.new (.row (old ++ new) e false (.own none))) { w with drawn := k, heap := w.heap.push ob } ∧
      OR (E ++ [(w.heap.size, 0, hi)]) ι (.row (old ++ new) e false (.own none)) (w.heap.size, 0, hi) (some ob) ∧
      cv (E ++ [(w.heap.size, 0, hi)]) ι (.eslice H.nx 0 (sLen + n) size) = some (.slice (some ⟨w.heap.size, 0, none⟩) (sLen + n) newCap) := by
  obtain ⟨i, hi⟩ := a.info
  obtain ⟨newCap, k, hcap, hrun'⟩ := run_out (base := base) h hr a.comes hrun a.zero hi
  have hkn := cvs_append ho a.newc
  have hlen : (oc.toList ++ c.toList).length = (sLen + n) * size := by
    have h1 := (cvs_get hkn).1
    rw [h1, List.length_append, hol, a.len, Nat.add_mul]
  have hrow := rowPart (rest := (Builtin.zeroCells zc.cells (newCap - (sLen + n))).toList) hkn e w.heap.size
  have harr : (oc.toList ++ c.toList ++ (Builtin.zeroCells zc.cells (newCap - (sLen + n))).toList).toArray = oc ++ c ++ Builtin.zeroCells zc.cells (newCap - (sLen + n)) := by
    apply Array.ext'
    simp
  rw [harr] at hrow
  generalize hhi : (oc.toList ++ c.toList ++ (Builtin.zeroCells zc.cells (newCap - (sLen + n))).toList).length = hi at hrow
  have hisz : hi = newCap * size := by
    rw [← hhi, List.length_append, hlen, Array.length_toList, zeroCells_size, a.zsize, ← Nat.add_mul]
    congr 1
    omega
  have hor : OR (E ++ [(w.heap.size, 0, hi)]) ι (.row (old ++ new) e false (.own none)) (w.heap.size, 0, hi) (some (.cells (oc ++ c ++ Builtin.zeroCells zc.cells (newCap - (sLen + n))) e)) := .row (RowR_ext (Ext.app _ _) hrow)
  refine ⟨newCap, k, _, hi, hrun', (a.hh.new _ _ hi hor).drew k, hor, ?_⟩
  simp only [cv, a.hh.nx, get_app_self, Option.map_some]
  congr 2
  rw [hisz, Nat.sub_zero, Nat.sub_zero, Nat.mul_div_cancel _ a.pos]
/-- What append comes to, for any of the ways in which the symbolic run has it. -/
theorem appTo_ok (hι : Scalars ι) (a : AppIn P B w0 E ι H w e size n new x zeros zc c) {sv : AV} {base : Option Addr} {sLen sCap : Nat} (hs : cv E ι sv = some (.slice base sLen sCap)) {rs : List AR} (h : appTo P H e size n new sv = some rs) :
    ∃ v w', (appTail e size base sLen sCap (.slice base sLen sCap) x zeros n).run P w = .ok v w' ∧ ∃ r ∈ rs, ∃ E', Ext E E' ∧ HR B w0 E' ι r.2.1 w' ∧ NR E' ι r.1 (.value v) ∧ Touch E (r.2.2.take 1) w w' ∧ w.heap.size ≤ w'.heap.size := by
  have hcl : c.size = n * size := by have := (cvs_get a.newc).1; simp at this; rw [this, a.len]
  have hc0 : n = 0 → c.toList = [] := fun h0 => by
    have : c.toList.length = 0 := by simp [hcl, h0]
    exact List.length_eq_zero_iff.1 this
  have hcomes : Comes' P w e size n x zeros c := a.comes w.drawn
  unfold appTo at h
  split at h
  · simp only [cv, Option.some.injEq, Value.slice.injEq] at hs
    obtain ⟨rfl, rfl, rfl⟩ := hs
    split at h
    · rename_i hn
      simp only [Option.some.injEq] at h; subst h
      refine ⟨_, w, run_in hcomes (by omega) (by rfl), _, List.mem_singleton.2 rfl, E, Ext.refl E, a.hh, by simp [NR, cv, hn], Touch.refl w, Nat.le_refl _⟩
    · rename_i hn
      split at h
      · rename_i hr
        simp only [Option.some.injEq] at h; subst h
        obtain ⟨newCap, k, ob, hi, h1, h2, _, h4⟩ := a.out (base := none) (sLen := 0) (sCap := 0) (s := .slice none 0 0) (by omega) (by simpa using hr) (old := []) (oc := #[]) cvs_nil (by simp) (fun k => rfl)
        simp only [Nat.zero_add, List.nil_append] at h1 h2 h4
        exact ⟨_, _, by simpa using h1, _, List.mem_singleton.2 rfl, _, Ext.app _ _, h2, h4, Touch.drewPush _ _, by simp⟩
      · cases h
  · rename_i m off len cap
    simp only [cv, Option.map_eq_some_iff] at hs
    obtain ⟨d, hd, hs⟩ := hs
    simp only [Value.slice.injEq] at hs
    obtain ⟨rfl, rfl, rfl⟩ := hs
    unfold appSlice at h
    split at h
    · rename_i cs e' ex st hg
      split at h
      · rename_i hle
        split at h
        · rename_i hn
          simp only [Option.some.injEq] at h; subst h
          refine ⟨_, w, run_in hcomes hle (by rw [hc0 hn]; rfl), _, List.mem_singleton.2 rfl, E, Ext.refl E, a.hh, by simp [NR, cv, hn, hd], Touch.refl w, Nat.le_refl _⟩
        · split at h
          · rename_i old
            split at h
            · rename_i hcond
              simp only [Bool.and_eq_true, decide_eq_true_eq] at hcond
              obtain ⟨hlen, hall⟩ := hcond
              simp only [Option.some.injEq] at h; subst h
              have hseg : off + len * size + new.length ≤ cs.length := by rw [a.len]; rw [Nat.add_mul] at hlen; omega
              obtain ⟨ob, hst, hH⟩ := rowWrite (P := P) hι a.hh hg hd a.newc (singles_one hι a.newc hall) hseg
              refine ⟨_, _, run_in hcomes hle (by simp only [addr_add]; rw [Nat.add_assoc]; exact hst), _, List.mem_singleton.2 rfl, E, Ext.refl E, hH, by simp [NR, cv, hd], Touch.set (by simp) hd ob, by simp⟩
            · cases h
          · cases h
      · rename_i hle
        split at h
        · rename_i hcond
          simp only [Bool.and_eq_true, decide_eq_true_eq] at hcond
          obtain ⟨hlen, hr⟩ := hcond
          simp only [Option.some.injEq] at h; subst h
          obtain ⟨d', hd', hor⟩ := a.hh.obj m _ hg
          rw [hd] at hd'; injection hd' with hd'; subst hd'
          generalize hob : w.heap[d.1]? = ob0 at hor
          cases hor with
          | @row _ _ _ _ _ cs' fz hrow =>
            obtain ⟨l, hl, _⟩ := run_loadRow (P := P) hrow hob hlen
            have hrd : ∀ k, (Builtin.firstCells size len (.slice (some ⟨d.1, d.2.1 + off, none⟩) len cap)).run P { w with drawn := k } = .ok l.toArray { w with drawn := k } := fun k => by
              obtain ⟨l', hl', hrun⟩ := run_loadRow (P := P) (w := { w with drawn := k }) hrow hob hlen
              rw [hl] at hl'; injection hl' with hl'; subst hl'
              exact hrun
            obtain ⟨newCap, k, ob, hi, h1, h2, _, h4⟩ := a.out (base := some ⟨d.1, d.2.1 + off, none⟩) hle hr (old := (cs.drop off).take (len * size)) (oc := l.toArray) (by simpa using hl) (by simp; omega) hrd
            exact ⟨_, _, h1, _, List.mem_singleton.2 rfl, _, Ext.app _ _, h2, h4, Touch.drewPush _ _, by simp⟩
        · cases h
    · cases h
  · rename_i m off len sz
    simp only [cv, Option.map_eq_some_iff] at hs
    obtain ⟨d, hd, hs⟩ := hs
    simp only [Value.slice.injEq] at hs
    obtain ⟨rfl, rfl, hcap⟩ := hs
    unfold appEnd at h
    split at h
    · rename_i cs e' old hg
      split at h
      · rename_i hcond
        simp only [Bool.and_eq_true, decide_eq_true_eq] at hcond
        obtain ⟨⟨⟨⟨rfl, rfl⟩, hn⟩, hlen⟩, hall⟩ := hcond
        simp only [Option.some.injEq] at h; subst h
        have hrl : d.2.1 + cs.length ≤ d.2.2 := by
          obtain ⟨d', hd', hor⟩ := a.hh.obj m _ hg
          rw [hd] at hd'; injection hd' with hd'; subst hd'
          generalize w.heap[d.1]? = ob0 at hor
          cases hor with
          | @row _ _ _ _ _ cs' fz hrow => exact hrow.len
        have hle : len + n ≤ sCap := by
          rw [← hcap, Nat.le_div_iff_mul_le a.pos]
          omega
        have hseg : off + len * sz + new.length ≤ cs.length := by rw [a.len]; rw [Nat.add_mul] at hlen; omega
        obtain ⟨ob, hst, hH⟩ := rowWrite (P := P) hι a.hh hg hd a.newc (singles_one hι a.newc hall) hseg
        exact ⟨_, _, run_in hcomes hle (by simp only [addr_add]; rw [Nat.add_assoc]; exact hst), _, List.mem_singleton.2 rfl, E, Ext.refl E, hH, by simp [NR, cv, hd, hcap], Touch.set (by simp) hd ob, by simp⟩
      rename_i hfirst
      clear hfirst
      split at h
      · rename_i hcond
        simp only [Bool.and_eq_true, decide_eq_true_eq] at hcond
        obtain ⟨⟨⟨rfl, rfl⟩, hlen⟩, hall⟩ := hcond
        obtain ⟨d', hd', hor⟩ := a.hh.obj m _ hg
        rw [hd] at hd'; injection hd' with hd'; subst hd'
        have hor0 := hor
        generalize hob : w.heap[d.1]? = ob0 at hor
        cases hor with
        | @row _ _ _ _ _ cs' fz hrow =>
          have hrl := hrow.len
          have hrf := hrow.fits
          have hpos := a.pos
          split at h
          · rename_i hn
            simp only [Option.some.injEq] at h; subst h
            have hle : len + n ≤ sCap := by
              rw [← hcap, hn, Nat.le_div_iff_mul_le a.pos]
              simp only [Nat.add_zero]
              omega
            refine ⟨_, w, run_in hcomes hle (by rw [hc0 hn]; rfl), _, List.mem_singleton.2 rfl, E, Ext.refl E, a.hh, by simp [NR, cv, hn, hd, hcap], Touch.refl w, Nat.le_refl _⟩
          · split at h
            · cases h
            · rename_i hn hroom
              have hroom : roomy P e' (len + n) = true := by simpa using hroom
              simp only [Option.some.injEq] at h; subst h
              by_cases hle : len + n ≤ sCap
              · -- there is room: the block is written behind what is known
                have hmul : (len + n) * sz ≤ d.2.2 - d.2.1 - off := by
                  rw [← hcap] at hle
                  exact (Nat.le_div_iff_mul_le a.pos).1 hle
                have hst := run_storeSeg (P := P) c.toList w cs' (d.2.1 + off + len * sz) 0 hob (by simp [hcl]; rw [Nat.add_mul] at hmul; omega) hrow.free (singles_one hι a.newc hall)
                have hsegsz : d.2.1 + off + len * sz + c.toList.length ≤ cs'.size := by simp [hcl]; rw [Nat.add_mul] at hmul; omega
                have hv : RowR E ι cs e' false d (seg cs' (d.2.1 + off + len * sz) c.toList) fz := by
                  refine ⟨fun i v hi => ?_, hrl, by rw [seg_size]; exact hrf, (fun hx => by cases hx), fun i hi => hrow.free i (by rw [seg_size] at hi; exact hi)⟩
                  obtain ⟨y, p, q⟩ := hrow.at_ i v hi
                  have hil := (List.getElem?_eq_some_iff.1 hi).1
                  refine ⟨y, p, ?_⟩
                  rw [seg_get _ _ _ _ hsegsz, if_neg (by omega)]
                  exact q
                have hnew : RowR (E ++ [(d.1, d.2.1 + off, d.2.2)]) ι (cs.drop off ++ new) e' false (d.1, d.2.1 + off, d.2.2) (seg cs' (d.2.1 + off + len * sz) c.toList) fz := by
                  refine ⟨fun i v hi => ?_, ?_, by rw [seg_size]; exact hrf, (fun hx => by cases hx), fun i hi => hrow.free i (by rw [seg_size] at hi; exact hi)⟩
                  · by_cases hil : i < (cs.drop off).length
                    · rw [List.getElem?_append_left hil, List.getElem?_drop] at hi
                      obtain ⟨y, p, q⟩ := hv.at_ _ v hi
                      exact ⟨y, cv_ext (Ext.app _ _) _ _ p, by rw [← q]; congr 1; simp only; omega⟩
                    · rw [List.getElem?_append_right (by omega)] at hi
                      obtain ⟨y, p, q⟩ := (cvs_get a.newc).2 _ v hi
                      refine ⟨y, cv_ext (Ext.app _ _) _ _ p, ?_⟩
                      have hil2 := (List.getElem?_eq_some_iff.1 hi).1
                      rw [a.len] at hil2
                      simp only [List.length_drop] at hil hil2 q
                      rw [seg_get _ _ _ _ hsegsz, if_pos (by simp [hcl]; omega), ← q]
                      congr 1
                      dsimp only
                      omega
                  · simp only [List.length_append, List.length_drop, a.len]
                    rw [Nat.add_mul] at hmul
                    omega
                have hH := a.hh.share hg hd (d.2.1 + off) d.2.2 _ (cs.drop off ++ new) e' (.row hv) (.row hnew)
                refine ⟨_, _, run_in hcomes hle (by simp only [addr_add]; exact hst), _, List.mem_singleton.2 rfl, _, Ext.app _ _, hH, ?_, Touch.set (by simp) hd _, by simp⟩
                have hnx : ((H.unold old).put m (.row cs e' false .view)).nx = E.length := by
                  rw [AH.nx_put, (a.hh.unold old).nx]
                simp only [NR, cv, a.hh.nx, get_app_self, Option.map_some]
                rw [← hcap, Nat.add_zero, Nat.sub_zero, Nat.sub_add_eq]
              · -- there is none: a new block
                have hrd : ∀ k, ∃ l, cvs E ι (cs.drop off) = some l ∧ (Builtin.firstCells sz len (.slice (some ⟨d.1, d.2.1 + off, none⟩) len sCap)).run P { w with drawn := k } = .ok l.toArray { w with drawn := k } := fun k => by
                  obtain ⟨l', hl', hrun⟩ := run_loadRow (P := P) (w := { w with drawn := k }) hrow hob (off := off) (n := len * sz) (by omega)
                  refine ⟨l', ?_, hrun⟩
                  rw [← hl', List.take_of_length_le (by simp; omega)]
                obtain ⟨l, hl, _⟩ := hrd 0
                have hrd' : ∀ k, (Builtin.firstCells sz len (.slice (some ⟨d.1, d.2.1 + off, none⟩) len sCap)).run P { w with drawn := k } = .ok l.toArray { w with drawn := k } := fun k => by
                  obtain ⟨l', hl', hrun⟩ := hrd k
                  rw [hl] at hl'; injection hl' with hl'; subst hl'
                  exact hrun
                obtain ⟨newCap, k, ob, hi, h1, h2, h3, h4⟩ := a.out (base := some ⟨d.1, d.2.1 + off, none⟩) hle hroom (old := cs.drop off) (oc := l.toArray) (by simpa using hl) (by simp; omega) hrd'
                refine ⟨_, _, h1, _, List.mem_singleton.2 rfl, E ++ [(w.heap.size, 0, hi)], Ext.app _ _, ?_, ?_, Touch.drewPush _ _, by simp⟩
                · -- the elder row is read only from now on
                  have hu := a.hh.unold old
                  have hgu : (H.unold old).get m = some (.row cs e' false (.own old)) ∨ old = some m := by
                    cases old with
                    | none => exact .inl hg
                    | some q =>
                      by_cases hq : m = q
                      · exact .inr (by rw [hq])
                      · left
                        show (H.del q).get m = _
                        rw [AH.get_del, if_neg hq]; exact hg
                  have hview : HR B w0 E ι ((H.unold old).put m (.row cs e' false .view)) w := by
                    rcases hgu with hgu | hgu
                    · exact hu.toView hgu
                    · have h5 := a.hh.toView hg
                      subst hgu
                      -- the elder of the elder is itself: its name is laid anew
                      refine ⟨a.hh.below, a.hh.base, a.hh.nx, a.hh.inb, fun z p hz => ?_, fun z1 z2 p q c1 c2 g1 g2 hne e1 e2 he => ?_⟩
                      · rw [AH.get_put] at hz
                        split at hz
                        · injection hz with hz; subst hz
                          rename_i hzm
                          subst hzm
                          exact ⟨d, hd, by rw [hob]; exact .row hrow⟩
                        · exact a.hh.obj z p (AH.get_unold hz).1
                      · rw [AH.get_put] at g1 g2
                        split at g1
                        · injection g1 with g1; subst g1
                          exact ⟨.inl rfl, fun hx => by simp [AObj.isView] at hx⟩
                        · split at g2
                          · injection g2 with g2; subst g2
                            rename_i hz2
                            subst hz2
                            have := a.hh.sep z1 z2 p _ c1 c2 (AH.get_unold g1).1 hg hne e1 e2 he
                            exact ⟨.inr rfl, this.2⟩
                          · exact a.hh.sep z1 z2 p q c1 c2 (AH.get_unold g1).1 (AH.get_unold g2).1 hne e1 e2 he
                  have h7 := hview.new ob (.row (cs.drop off ++ new) e' false (.own (some m))) hi (by
                    cases h3 with
                    | row h3 => exact .row h3)
                  exact h7.drew k
                · have : ((H.unold old).put m (.row cs e' false .view)).nx = H.nx := by
                    rw [AH.nx_put, (a.hh.unold old).nx, a.hh.nx]
                  exact h4
      · cases h
    · cases h
  · cases h
theorem wAppend_ok (hι : Scalars ι) (hh : HR B w0 E ι H w) (hρ : Opv E ι tm ρ) {args : Array Operand} {ts : Array TypeId} (ho : o.op = .call ⟨.builtin .append, args, ts⟩) {rs : List AR} (h : (opvs tm args.toList).bind (aAppend P H ts.toList) = some rs) : WOk P B w0 E ι w (execOp ρ o) rs := by
  obtain ⟨av, ha, h⟩ := Option.bind_eq_some_iff.1 h
  have h2 := opvs_cvs hρ _ _ ha
  unfold aAppend at h
  split at h
  · rename_i t tr s x xr hts
    obtain ⟨sv, l1, hs, hl1, e1⟩ := cvs_cons.1 h2
    obtain ⟨xv, l2, hx, hl2, rfl⟩ := cvs_cons.1 hl1
    have ht0 : ts[0]? = some t := by rw [← Array.getElem?_toList, hts]; rfl
    have ht1 : ts[1]? = tr.head? := by rw [← Array.getElem?_toList, hts]; cases tr <;> rfl
    have ha0 : (args.map ρ)[0]? = some sv := by rw [← Array.getElem?_toList, Array.toList_map, e1]; rfl
    have ha1 : (args.map ρ)[1]? = some xv := by rw [← Array.getElem?_toList, Array.toList_map, e1]; rfl
    split at h
    · rename_i e hu
      split at h
      · rename_i z zv hsz hz
        split at h
        · rename_i hc
          simp only [Bool.and_eq_true, decide_eq_true_eq] at hc
          obtain ⟨hzl, hall⟩ := hc
          obtain ⟨⟨n, new⟩, hn, h⟩ := Option.bind_eq_some_iff.1 h
          simp only at h
          split at h
          · rename_i hlen
            obtain ⟨zc, hzr, hzc⟩ := run_zeroT (P := P) (E := E) (ι := ι) (w := w) hz
            have hzk : ∀ k, (zeroValue e).run P { w with drawn := k } = .ok zc { w with drawn := k } := fun k => by
              obtain ⟨zc', hzr', hzc'⟩ := run_zeroT (P := P) (E := E) (ι := ι) (w := { w with drawn := k }) hz
              rw [hzc] at hzc'; injection hzc' with hzc'; subst hzc'
              exact hzr'
            have hzcc := cv_cells hι hzc
            have hzs : zc.cells.size = z + 1 := by have := (cvs_get hzcc).1; simp at this; omega
            obtain ⟨q1, q2, c, hnew, q3, q4⟩ := run_appN (P := P) hh hzr hzcc hzl (by omega) hx hn
            have hinfo : ∃ i, P.info? e = some i := by obtain ⟨i, hi, _⟩ := szOf_eq hsz; exact ⟨i, hi⟩
            have hhk : ∀ k, HR B w0 E ι H { w with drawn := k } := fun k => hh.drew k
            have hcomes : ∀ k, Comes' P { w with drawn := k } e (z + 1) n xv (madeT P tr.head?) c := fun k => by
              unfold Comes'
              cases hm : madeT P tr.head? with
              | true =>
                rw [q4 hm]
                by_cases h0 : n * (z + 1) = 0
                · have hn0 : n = 0 := by
                    rcases Nat.mul_eq_zero.1 h0 with h | h
                    · exact h
                    · omega
                  subst hn0
                  simp [Builtin.zeroCells, range0]
                · simp [h0, hzk k]
              | false =>
                obtain ⟨_, _, c', hnew', q3', _⟩ := run_appN (P := P) (hhk k) (hzk k) hzcc hzl (by omega) hx hn
                rw [hnew] at hnew'; injection hnew' with hnew'
                have : c = c' := Array.ext' hnew'
                subst this
                simpa using q3' hm
            have hin : AppIn P B w0 E ι H w e (z + 1) n new xv (madeT P tr.head?) zc c := ⟨hh, hsz, by omega, hinfo, hzk, hzs, hnew, hlen, hcomes⟩
            have hsl : ∃ base sLen sCap, sv = .slice base sLen sCap := by
              unfold appTo at h
              split at h
              · simp only [cv, Option.some.injEq] at hs; exact ⟨_, _, _, hs.symm⟩
              · simp only [cv, Option.map_eq_some_iff] at hs; obtain ⟨_, _, hs⟩ := hs; exact ⟨_, _, _, hs.symm⟩
              · simp only [cv, Option.map_eq_some_iff] at hs; obtain ⟨_, _, hs⟩ := hs; exact ⟨_, _, _, hs.symm⟩
              · cases h
            obtain ⟨base, sLen, sCap, rfl⟩ := hsl
            obtain ⟨v, w', hrun, r, hr, E', g1, g2, g3, g4, g5⟩ := appTo_ok hι hin hs h
            refine ⟨.value v, w', ?_, r, hr, E', g1, g2, g3, g4, g5⟩
            rw [resolve_builtin ρ ho]
            have hpre := run_appPre (P := P) (w := w) (ty := o.type) ht0 ha0 ha1 hu rfl hsz (zeros := madeT P tr.head?) (n := n) (by
              rw [ht1]
              refine zeros_of_made ?_
              cases tr with
              | nil => rfl
              | cons u ur => simp at hall ⊢; exact hall.1) q1 q2
            simp only [builtin, Sem.run_bind, hpre, hrun, Result.andThen_ok, Sem.run_pure]
          · cases h
        · cases h
      · cases h
    · cases h
  · cases h
theorem wCopy_ok (hι : Scalars ι) (hh : HR B w0 E ι H w) (hρ : Opv E ι tm ρ) {args : Array Operand} {ts : Array TypeId} (ho : o.op = .call ⟨.builtin .copy, args, ts⟩) {rs : List AR} (h : (opvs tm args.toList).bind (aCopy P H ts.toList) = some rs) : WOk P B w0 E ι w (execOp ρ o) rs := by
  obtain ⟨av, ha, h⟩ := Option.bind_eq_some_iff.1 h
  have h2 := opvs_cvs hρ _ _ ha
  unfold aCopy at h
  split at h
  · rename_i t tr d x xr hts
    obtain ⟨dv, l1, hd, hl1, e1⟩ := cvs_cons.1 h2
    obtain ⟨xv, l2, hx, hl2, rfl⟩ := cvs_cons.1 hl1
    have ht0 : ts[0]? = some t := by rw [← Array.getElem?_toList, hts]; rfl
    have ha0 : (args.map ρ)[0]? = some dv := by rw [← Array.getElem?_toList, Array.toList_map, e1]; rfl
    have ha1 : (args.map ρ)[1]? = some xv := by rw [← Array.getElem?_toList, Array.toList_map, e1]; rfl
    have hrun : ∀ (v : Value) w', (Builtin.copy_ #[t] o.type #[dv, xv]).run P w = .ok v w' → (execOp ρ o).run P w = .ok (.value v) w' := fun v w' hw => by
      rw [resolve_builtin ρ ho]
      have : Builtin.copy_ ts o.type (args.map ρ) = Builtin.copy_ #[t] o.type #[dv, xv] := by unfold Builtin.copy_; rw [ht0, ha0, ha1]; rfl
      simp [builtin, this, hw]
    split at h
    · rename_i e hu
      split at h
      · rename_i size xl hsz hxl
        have hlx := run_aLenOf (P := P) (w := w) hx hxl
        have key : ∀ m off len cap (q : Nat × Nat × Nat), E[m]? = some q → dv = .slice (some ⟨q.1, q.2.1 + off, none⟩) len cap → copyTo H size xl m off len x = some rs → WOk P B w0 E ι w (execOp ρ o) rs := by
          intro m off len cap q hq hdv h
          subst hdv
          unfold copyTo at h
          split at h
          · rename_i new cs e' ex old hf hg
            split at h
            · rename_i hc
              simp only [Bool.and_eq_true, decide_eq_true_eq] at hc
              obtain ⟨⟨c1, c2⟩, c3⟩ := hc
              simp only [Option.some.injEq] at h; subst h
              obtain ⟨cc, hcr, hcc⟩ := run_aFirst (P := P) hh hx hf
              obtain ⟨ob, hst, hH⟩ := rowWrite (P := P) hι hh hg hq hcc (singles_one hι hcc c3) (off := off) (by omega)
              refine WOk.one (hrun (.int .i64 (Nat.min xl len : Nat)) _ ?_) (Ext.refl E) hH (by simp [NR, cv]) (Touch.set (by simp) hq ob) (by simp)
              simp [Builtin.copy_, run_undl hu, hlx, run_szOf hsz, hcr, hst, goInt]
            · cases h
          · cases h
        split at h
        · simp only [cv, Option.some.injEq] at hd; subst hd
          split at h
          · rename_i hf
            simp only [Option.some.injEq] at h; subst h
            obtain ⟨cc, hcr, hcc⟩ := run_aFirst (P := P) hh hx hf
            refine WOk.one (hrun (.int .i64 0) w ?_) (Ext.refl E) hh (by simp [NR, cv]) (Touch.refl w) (Nat.le_refl _)
            have hm : Nat.min xl 0 = 0 := Nat.min_zero xl
            simp [Builtin.copy_, run_undl hu, hlx, run_szOf hsz, hm, hcr, goInt]
          · cases h
        · simp only [cv, Option.map_eq_some_iff] at hd
          obtain ⟨q, hq, hd⟩ := hd
          exact key _ _ _ _ q hq hd.symm h
        · simp only [cv, Option.map_eq_some_iff] at hd
          obtain ⟨q, hq, hd⟩ := hd
          exact key _ _ _ _ q hq hd.symm h
        · cases h
      · cases h
    · cases h
  · cases h
/-- WHAT WRITES, OR CALLS. -/
theorem aW_ok (hP : Fine P) (hι : Scalars ι) (hh : HR B w0 E ι H w) (hρ : Opv E ι tm ρ) {rs : List AR} (h : aW P H tm o.op = some rs) : WOk P B w0 E ι w (execOp ρ o) rs := by
  unfold aW at h
  split at h
  · exact wAlloc_ok hι hh (by assumption) h
  · exact wBox_ok hι hh hρ (by assumption) h
  · exact wBuildSlice_ok hι hh hρ (by assumption) h
  · exact wMakeMap_ok hh hρ (by assumption) h
  · exact wMakeSlice_ok hι hh hρ (by assumption) h
  · exact wStore_ok hι hh hρ (by assumption) h
  · exact wMapPut_ok hh hρ (.inl (by assumption)) h
  · exact wMapPut_ok hh hρ (.inr (by assumption)) h
  · exact wMapEntry_ok hh hρ (by assumption) h
  · exact wEntryStore_ok hh hρ (by assumption) h
  · exact wRange_ok hh hρ (by assumption) h
  · exact wNext_ok hh hρ (by assumption) h
  · exact wCall_ok hP hh hρ (by assumption) h
  · unfold wBuiltin at h
    split at h
    · exact wAppend_ok hι hh hρ (by assumption) h
    · exact wCopy_ok hι hh hρ (by assumption) h
    · exact wDelete_ok hh hρ (by assumption) h
    · cases h
  · cases h
end
end Go.Sx
