/- Maps walked over; calls; delete. -/
import Derived.Test.YtlkjbijklgdocaaSxK
set_option linter.unusedSimpArgs false
namespace Go.Sx
open Go Go.RowKit
/-- What the program must be like. -/
structure Fine (P : Program) : Prop where
  mixed : P.follows .mixedOrders = true
  names : ∀ (f : Nat) fn, P.funcs[f]? = some fn → (fn.name == "runtime.NumGoroutine") = false
section
variable {P : Program} {E : Env} {ι : Nat → Value} {tm : TM} {ρ : Operand → Value} {B : Nat} {w0 w : World} {H : AH} {o : Oper}
theorem wRange_ok (hh : HR B w0 E ι H w) (hρ : Opv E ι tm ρ) {t : TypeId} {x : Operand} (ho : o.op = .range t x) {rs : List AR} (h : wRange P H tm t x = some rs) : WOk P B w0 E ι w (execOp ρ o) rs := by
  unfold wRange at h
  split at h
  · rename_i p hm hx
    simp only [Option.some.injEq] at h; subst h
    have hu := mapK_eq (P := P) (t := t) (kt := p.1) (et := p.2) hm
    have h1 := hρ x _ hx
    simp only [cv, Option.some.injEq] at h1
    exact WOk.new (hi := 0) (by simp [execOp, ho, ← h1, Instr.range, run_undl hu]) (hh.new (.mapIter none 0 #[] 0) _ 0 (.iter0 rfl)) (cv_newptr hh _)
  · rename_i p n hm hx
    have hu := mapK_eq (P := P) (t := t) (kt := p.1) (et := p.2) hm
    split at h
    · rename_i es clock hg
      simp only [Option.some.injEq] at h; subst h
      have h1 := hρ x _ hx
      simp only [cv, Option.map_eq_some_iff] at h1
      obtain ⟨e, he, h1⟩ := h1
      obtain ⟨ces, hE, hb⟩ := hh.map' hg he
      have hgo := run_getObj (P := P) hb (by simp)
      exact WOk.new (hi := 0) (by simp [execOp, ho, ← h1, Instr.range, run_undl hu, hgo]) (hh.new _ _ 0 (.iter (l := []) rfl (Ext.app _ _ n e he))) (cv_newptr hh _)
    · cases h
  · cases h
theorem cvE_filter (p : Nat → Bool) : ∀ (es : List (AV × AV × Nat)) (ces : List MapEntry), cvE E ι es = some ces → cvE E ι (es.filter fun e => p e.2.2) = some (ces.filter fun e => p e.born)
  | [], ces, h => by simp only [cvE, Option.some.injEq] at h; subst h; rfl
  | e :: r, ces, h => by
    simp only [cvE, Option.bind_eq_some_iff, Option.map_eq_some_iff] at h
    obtain ⟨k, hk, v, hv, c, hc, rfl⟩ := h
    have ih := cvE_filter p r c hc
    cases hp : p e.2.2 with
    | true => simp [hp, cvE, hk, hv, ih]
    | false => simp [hp, ih]
theorem cvE_app {a b : List (AV × AV × Nat)} {c d : List MapEntry} (h : cvE E ι a = some c) (g : cvE E ι b = some d) : cvE E ι (a ++ b) = some (c ++ d) := by
  induction a generalizing c with
  | nil => simp only [cvE, Option.some.injEq] at h; subst h; exact g
  | cons e r ih =>
    simp only [cvE, Option.bind_eq_some_iff, Option.map_eq_some_iff] at h
    obtain ⟨k, hk, v, hv, q, hq, rfl⟩ := h
    simp [cvE, hk, hv, ih hq]
theorem cvE_empty {es : List (AV × AV × Nat)} {ces : List MapEntry} (h : cvE E ι es = some ces) : ces.isEmpty = es.isEmpty := by
  have := (cvE_get h).1
  cases es <;> cases ces <;> simp_all
theorem cvE_allB (p : Nat → Bool) {es : List (AV × AV × Nat)} {ces : List MapEntry} (h : cvE E ι es = some ces) : (ces.all fun e => p e.born) = es.all fun e => p e.2.2 := by
  induction es generalizing ces with
  | nil => simp only [cvE, Option.some.injEq] at h; subst h; rfl
  | cons e r ih =>
    simp only [cvE, Option.bind_eq_some_iff, Option.map_eq_some_iff] at h
    obtain ⟨k, hk, v, hv, q, hq, rfl⟩ := h
    simp [ih hq]
theorem ble_eq (a b : Nat) : Nat.ble a b = decide (a ≤ b) := by
  rw [Bool.eq_iff_iff]; simp [Nat.ble_eq]
theorem blt_eq (a b : Nat) : Nat.blt a b = decide (a < b) := by
  show Nat.ble (a + 1) b = _
  rw [ble_eq]
  rfl
theorem run_choose_lt {n : Nat} (hn : 0 < n) : ∃ k i, (choose (.mapNext n)).run P w = .ok i { w with drawn := k } ∧ i < n := by
  rw [run_choose]
  split
  · exact ⟨w.drawn, 0, rfl, hn⟩
  · exact ⟨w.drawn + 1, _, rfl, Nat.mod_lt _ hn⟩
theorem wNext_ok (hh : HR B w0 E ι H w) (hρ : Opv E ι tm ρ) {x : Operand} (ho : o.op = .next x false) {rs : List AR} (h : (opv tm x).bind (aNext H) = some rs) : WOk P B w0 E ι w (execOp ρ o) rs := by
  obtain ⟨it, hit, h⟩ := Option.bind_eq_some_iff.1 h
  have h1 := hρ x _ hit
  unfold aNext at h
  split at h
  · rename_i n
    simp only [cv, Option.map_eq_some_iff] at h1
    obtain ⟨d, hd, h1⟩ := h1
    split at h
    · rename_i s0 l0 k0 hg
      simp only [Option.some.injEq] at h; subst h
      obtain ⟨d', hd', hr⟩ := hh.obj n _ hg
      rw [hd] at hd'; injection hd' with hd'; subst hd'
      generalize hob : w.heap[d.1]? = ob at hr
      cases hr with
      | iter0 hz =>
        refine WOk.one (n := .value (.tuple #[.bool false])) ?_ (Ext.refl E) hh (by simp [NR, cv, cvs]) (Touch.refl w) (Nat.le_refl _)
        simp [execOp, ho, ← h1, Instr.next, hz, run_getObj hob]
    · rename_i m since seen last hg
      split at h
      · rename_i es clock hgm
        split at h
        · cases h
        · rename_i hnot
          simp only [Option.some.injEq] at h
          obtain ⟨d', hd', hr⟩ := hh.obj n _ hg
          rw [hd] at hd'; injection hd' with hd'; subst hd'
          generalize hob : w.heap[d.1]? = ob at hr
          cases hr with
          | @iter _ _ _ _ _ em hz hem =>
            obtain ⟨ces, hE, hbm⟩ := hh.map' hgm hem
            -- the candidates
            generalize hL : (es.filter fun e => !seen.contains e.2.2) = left at h
            have hLc : cvE E ι left = some (ces.filter fun e => !seen.contains e.born) := by rw [← hL]; exact cvE_filter (fun b => !seen.contains b) es ces hE
            generalize hO : (left.filter fun e => Nat.blt e.2.2 since) = old at h
            generalize hN : (left.filter fun e => !Nat.blt e.2.2 since) = new at h
            have hOc : cvE E ι old = some ((ces.filter fun e => !seen.contains e.born).filter fun e => Nat.blt e.born since) := by rw [← hO]; exact cvE_filter (fun b => Nat.blt b since) left _ hLc
            have hNc : cvE E ι new = some ((ces.filter fun e => !seen.contains e.born).filter fun e => !Nat.blt e.born since) := by rw [← hN]; exact cvE_filter (fun b => !Nat.blt b since) left _ hLc
            generalize hOv : ((ces.filter fun e => !seen.contains e.born).filter fun e => Nat.blt e.born since) = oldc at hOc
            generalize hNv : ((ces.filter fun e => !seen.contains e.born).filter fun e => !Nat.blt e.born since) = newc at hNc
            have hcand : ∃ cand : List (Option MapEntry), cand = (if oldc.isEmpty then [none] else []) ++ (oldc ++ newc).map some ∧ 0 < cand.length := by
              refine ⟨_, rfl, ?_⟩
              cases oldc <;> simp
            obtain ⟨cand, hcd, hpos⟩ := hcand
            obtain ⟨k, i, hch, hi⟩ := run_choose_lt (P := P) (w := w) hpos
            have hrun : ∀ r w2, (match cand[i]? with
                | some (some e) => r = Value.tuple #[.bool true, e.key, e.val] ∧ w2 = { w with drawn := k, heap := w.heap.setIfInBounds d.1 (.mapIter (some em.1) since (seen.toArray.push e.born) clock) }
                | some none => r = Value.tuple #[.bool false] ∧ w2 = { w with drawn := k }
                | none => False) → (execOp ρ o).run P w = .ok (.value r) w2 := by
              intro r w2 hrw
              have hsize : (((if ((ces.toArray.filter fun e => !seen.toArray.contains e.born).filter fun e => decide (e.born < since)).isEmpty then #[none] else #[]) ++
                  ((((ces.toArray.filter fun e => !seen.toArray.contains e.born).filter fun e => decide (e.born < since)) ++ ((ces.toArray.filter fun e => !seen.toArray.contains e.born).filter fun e => decide (e.born ≥ since))).map some)) : Array (Option MapEntry)) = cand.toArray := by
                have f1 : (ces.toArray.filter fun e => !seen.toArray.contains e.born) = (ces.filter fun e => !seen.contains e.born).toArray := by simp
                rw [f1]
                have f2 : ((ces.filter fun e => !seen.contains e.born).toArray.filter fun e => decide (e.born < since)) = oldc.toArray := by
                  rw [← hOv, List.filter_toArray]
                  congr 2
                  funext e
                  rw [blt_eq]
                have f3 : ((ces.filter fun e => !seen.contains e.born).toArray.filter fun e => decide (e.born ≥ since)) = newc.toArray := by
                  rw [← hNv, List.filter_toArray]
                  congr 2
                  funext e
                  rw [blt_eq, ← decide_not]
                  congr 1
                  simp
                rw [f2, f3, hcd]
                cases oldc <;> simp
              have hno : ¬ ((!seen.toArray.isEmpty && !ces.toArray.isEmpty && ces.toArray.all fun e => decide (e.born ≥ last)) = true) := by
                intro hx
                apply hnot
                have e1 : (ces.toArray.all fun e => decide (e.born ≥ last)) = es.all fun e => Nat.ble last e.2.2 := by
                  rw [← cvE_allB (fun b => Nat.ble last b) hE]
                  simp [ble_eq]
                have e2 : ces.toArray.isEmpty = es.isEmpty := by rw [← cvE_empty hE]; simp
                rw [e1, e2] at hx
                simpa using hx
              simp only [execOp, ho, ← h1, Instr.next, hz, Nat.zero_add, Sem.run_bind, run_getObj hob (by simp), Result.andThen_ok, run_getObj hbm (by simp)]
              rw [if_neg hno]
              simp only [Sem.run_pure, Result.andThen_ok, Sem.run_bind]
              rw [hsize]
              simp only [List.size_toArray, hch, List.getElem?_toArray, Result.andThen_ok]
              cases hc : cand[i]? with
              | none => rw [hc] at hrw; exact hrw.elim
              | some q =>
                rw [hc] at hrw
                cases q with
                | none => obtain ⟨rfl, rfl⟩ := hrw; rfl
                | some e =>
                  obtain ⟨rfl, rfl⟩ := hrw
                  simp only [Sem.run_bind, run_setObj (w := { w with drawn := k }) (r := d.1) hob (by simp), Result.andThen_ok, Sem.run_pure]
            have hsz : ∀ e, cand[i]? = some (some e) → ∃ a ∈ old ++ new, cv E ι a.1 = some e.key ∧ cv E ι a.2.1 = some e.val ∧ a.2.2 = e.born := fun e he => by
              have hmem : e ∈ oldc ++ newc := by
                have := List.mem_of_getElem? he
                rw [hcd] at this
                rcases List.mem_append.1 this with h | h
                · split at h <;> simp at h
                · simpa using h
              obtain ⟨j, hj⟩ := List.getElem?_of_mem hmem
              have happ := cvE_app hOc hNc
              obtain ⟨g1, g2⟩ := cvE_get happ
              have hlt : j < (old ++ new).length := by rw [← g1]; exact (List.getElem?_eq_some_iff.1 hj).1
              obtain ⟨kk, vv, a1, a2, a3⟩ := g2 j _ (List.getElem?_eq_getElem hlt)
              rw [hj] at a3; injection a3 with a3
              exact ⟨_, List.getElem_mem hlt, by rw [a1, a3], by rw [a2, a3], by rw [a3]⟩
            cases hc : cand[i]? with
            | none =>
              have := List.getElem?_eq_none_iff.1 hc
              omega
            | some q =>
              cases q with
              | none =>
                have hold : old.isEmpty = true := by
                  rw [← cvE_empty hOc]
                  have := List.mem_of_getElem? hc
                  rw [hcd] at this
                  rcases List.mem_append.1 this with h | h
                  · split at h
                    · assumption
                    · simp at h
                  · simp at h
                refine WOk.mem (n := .value (.tuple #[.bool false])) (hrun _ { w with drawn := k } (by rw [hc]; exact ⟨rfl, rfl⟩)) (r := (.val (.tuple [.bool false]), H, [])) ?_ (Ext.refl E) (hh.drew k) (by simp [NR, cv, cvs]) (fun b _ _ => rfl) (Nat.le_refl _)
                rw [← h, hold]
                simp
              | some e =>
                obtain ⟨a, ha, a1, a2, a3⟩ := hsz e hc
                refine WOk.mem (n := .value (.tuple #[.bool true, e.key, e.val])) (hrun _ _ (by rw [hc]; exact ⟨rfl, rfl⟩)) (r := (.val (.tuple [.bool true, a.1, a.2.1]), H.put n (.iter (some m) since (seen ++ [a.2.2]) clock), [n])) ?_ (Ext.refl E) ?_ ?_ ?_ (by simp)
                · rw [← h]
                  refine List.mem_append_right _ (List.mem_map.2 ⟨a, ha, rfl⟩)
                · have := (hh.put hg rfl hd (.iter (some m) since (seen ++ [a.2.2]) clock) (.mapIter (some em.1) since (seen.toArray.push e.born) clock) (by
                    have : seen.toArray.push e.born = (seen ++ [a.2.2]).toArray := by rw [a3]; simp
                    rw [this]
                    exact .iter hz hem)).drew k
                  exact this
                · simp [NR, cv, cvs, a1, a2]
                · intro b hb hne
                  show (w.heap.setIfInBounds d.1 _)[b]? = _
                  rw [Array.getElem?_setIfInBounds_ne (hne n (by simp) d hd)]
      · cases h
    · cases h
  · cases h

/-! ### Calls -/
theorem TM.get_set (tm : TM) (i j : Nat) (v : AV) : (tm.set i v).get j = if j = i ∧ i < tm.n then v else tm.get j := by
  unfold TM.set TM.get
  rw [blt_eq]
  by_cases h : i < tm.n
  · simp only [h, decide_true, cond_true, Tr.get_set]
    by_cases hj : j = i
    · simp [hj]
    · simp [hj]
  · simp [h]
theorem TMR_set {C : Array Value} (h : TMR E ι tm C) {v : AV} {c : Value} (hv : cv E ι v = some c) (i : Nat) : TMR E ι (tm.set i v) (C.setIfInBounds i c) := by
  obtain ⟨h1, h2⟩ := h
  have hn : (tm.set i v).n = tm.n := by unfold TM.set; cases Nat.blt i tm.n <;> rfl
  refine ⟨by simp [hn, h1], fun j => ?_⟩
  rw [TM.get_set]
  by_cases hj : j = i ∧ i < tm.n
  · rw [if_pos hj, hv, hj.1]
    simp [h1, hj.2]
  · rw [if_neg hj, h2 j]
    congr 1
    simp only [Array.getD_eq_getD_getElem?]
    by_cases hji : j = i
    · subst hji
      have : ¬ j < C.size := by rw [h1]; exact fun hl => hj ⟨rfl, hl⟩
      simp [Array.getElem?_eq_none (show C.size ≤ j by omega), Array.getElem?_setIfInBounds, this]
    · rw [Array.getElem?_setIfInBounds_ne (Ne.symm hji)]
theorem TMR_setTmps : ∀ (ts : List Tmp) (as : List AV) (cs : List Value) (tm : TM) (C : Array Value), TMR E ι tm C → cvs E ι as = some cs → TMR E ι (setTmps tm ts as) ((ts.zip cs).foldl (fun tmps (x : Tmp × Value) => tmps.setIfInBounds x.1 x.2) C)
  | [], as, cs, tm, C, h, _ => by simpa [setTmps] using h
  | t :: ts, [], cs, tm, C, h, hc => by
    rw [cvs_nil] at hc; injection hc with hc; subst hc
    simpa [setTmps] using h
  | t :: ts, a :: as, cs, tm, C, h, hc => by
    obtain ⟨x, y, h1, h2, rfl⟩ := cvs_cons.1 hc
    simp only [setTmps, List.zip_cons_cons, List.foldl_cons]
    exact TMR_setTmps ts as y _ _ (TMR_set h h1 t) h2
theorem wCall_ok (hP : Fine P) (hh : HR B w0 E ι H w) (hρ : Opv E ι tm ρ) {f : Operand} {args : Array Operand} {ts : Array TypeId} (ho : o.op = .call ⟨.value f, args, ts⟩) {rs : List AR} (h : wCall P H tm f args = some rs) : WOk P B w0 E ι w (execOp ρ o) rs := by
  unfold wCall at h
  split at h
  · rename_i fv av hf ha
    obtain ⟨n, hn, rfl⟩ := Option.map_eq_some_iff.1 h
    have h1 := hρ f _ hf
    have h2 := opvs_cvs hρ _ _ ha
    have hargs : (args.map ρ) = (args.toList.map ρ).toArray := by rw [map_arr]
    unfold aCall at hn
    split at hn
    · rename_i g first captured
      split at hn
      · rename_i hb
        simp only [Option.some.injEq] at hn; subst hn
        unfold hasBody at hb
        split at hb
        · rename_i fn hfn
          simp only [cv, Option.bind_eq_some_iff, Option.map_eq_some_iff] at h1
          obtain ⟨a, ha', b, hb', h1⟩ := h1
          refine WOk.one (n := .enter g (a ++ args.toList.map ρ ++ b).toArray) ?_ (Ext.refl E) hh ⟨rfl, _, cvs_append (cvs_append ha' h2) hb', rfl⟩ (Touch.refl w) (Nat.le_refl _)
          have hname := hP.names g fn hfn
          have hbody : fn.body.isNone = false := by cases hq : fn.body <;> simp_all
          simp only [execOp, ho, resolve, Sem.run_bind, ← h1, Deferred.ofValue, Sem.run_pure, Result.andThen_ok, invoke, callFunc, run_program, hfn, hname, Bool.false_eq_true, if_false, hbody, hargs]
          simp
        · cases hb
      · cases hn
    · rename_i l
      split at hn
      · rename_i st jump fn ltm ps assign body d hg
        split at hn
        · rename_i hlen
          simp only [Option.some.injEq] at hn; subst hn
          simp only [cv, Option.map_eq_some_iff] at h1
          obtain ⟨e, he, h1⟩ := h1
          obtain ⟨e', he', hr⟩ := hh.obj l _ hg
          rw [he] at he'; injection he' with he'; subst he'
          generalize hob : w.heap[e.1]? = ob at hr
          cases hr with
          | @loop _ _ _ _ _ _ _ _ _ ed C hC hed =>
            have hsz : (args.toList.map ρ).length = av.length := (cvs_get h2).1
            refine WOk.one (n := .round e.1 fn ((ps.toList.zip (args.toList.map ρ)).foldl (fun tmps (x : Tmp × Value) => tmps.setIfInBounds x.1 x.2) C) assign body) ?_ (Ext.refl E) hh ⟨⟨e, he, rfl⟩, rfl, TMR_setTmps _ _ _ _ _ hC h2, rfl, rfl⟩ (Touch.refl w) (Nat.le_refl _)
            simp only [execOp, ho, resolve, Sem.run_bind, ← h1, Deferred.ofValue, Sem.run_pure, Result.andThen_ok, invoke, Instr.yield, Instr.getLoop, run_getObj hob (by simp)]
            have hz : ¬ ((#[] ++ args.map ρ).size ≠ ps.size) := by
              simp only [Array.empty_append, Array.size_map, ne_eq, Decidable.not_not]
              rw [← hlen, ← hsz]
              simp
            rw [if_neg hz]
            simp only [Sem.run_pure, Array.empty_append, hargs]
            congr 2
            rw [← Array.foldl_toList]
            simp
        · cases hn
      · cases hn
    · cases hn
  · cases h
theorem resolve_builtin (ρ : Operand → Value) {b : Builtin} {args : Array Operand} {ts : Array TypeId} (ho : o.op = .call ⟨.builtin b, args, ts⟩) (w' : World) :
    (execOp ρ o).run P w' = (builtin b ts o.type (args.map fun | .const _ => true | _ => false) (args.map ρ)).run P w' := by
  simp only [execOp, ho, resolve, Sem.run_bind, Sem.run_pure, Result.andThen_ok, invoke]
  rfl
theorem cvE_erase {es : List (AV × AV × Nat)} {ces : List MapEntry} (h : cvE E ι es = some ces) (i : Nat) : cvE E ι (es.eraseIdx i) = some (ces.eraseIdx i) := by
  induction es generalizing ces i with
  | nil => simp only [cvE, Option.some.injEq] at h; subst h; rfl
  | cons e r ih =>
    simp only [cvE, Option.bind_eq_some_iff, Option.map_eq_some_iff] at h
    obtain ⟨k, hk, v, hv, q, hq, rfl⟩ := h
    cases i with
    | zero => simpa using hq
    | succ i => simp [cvE, hk, hv, ih hq i]
theorem wDelete_ok (hh : HR B w0 E ι H w) (hρ : Opv E ι tm ρ) {args : Array Operand} {ts : Array TypeId} (ho : o.op = .call ⟨.builtin .delete, args, ts⟩) {rs : List AR} (h : (opvs tm args.toList).bind (aDelete P H ts.toList) = some rs) : WOk P B w0 E ι w (execOp ρ o) rs := by
  obtain ⟨av, ha, h⟩ := Option.bind_eq_some_iff.1 h
  have h2 := opvs_cvs hρ _ _ ha
  unfold aDelete at h
  split at h
  · rename_i t tr m k kr hts
    obtain ⟨mv, l1, hm, hl1, e1⟩ := cvs_cons.1 h2
    obtain ⟨kv, l2, hk, hl2, rfl⟩ := cvs_cons.1 hl1
    have ht0 : ts[0]? = some t := by rw [← Array.getElem?_toList, hts]; rfl
    have ha0 : (args.map ρ)[0]? = some mv := by rw [← Array.getElem?_toList, Array.toList_map, e1]; rfl
    have ha1 : (args.map ρ)[1]? = some kv := by rw [← Array.getElem?_toList, Array.toList_map, e1]; rfl
    have hrun : ∀ w', (Builtin.delete_ #[t] o.type #[mv, kv]).run P w = .ok (.tuple #[]) w' → (execOp ρ o).run P w = .ok (.value (.tuple #[])) w' := fun w' hw => by
      rw [resolve_builtin ρ ho]
      have : Builtin.delete_ ts o.type (args.map ρ) = Builtin.delete_ #[t] o.type #[mv, kv] := by unfold Builtin.delete_; rw [ht0, ha0, ha1]; rfl
      simp [builtin, this, hw]
    split at h
    · rename_i kt et hmk
      have hu := mapK_eq hmk
      simp only [cv, Option.some.injEq] at hm; subst hm
      split at h
      · rename_i hko
        simp only [Option.some.injEq] at h; subst h
        have hck := run_keyOk (P := P) (w := w) true 9 10000 kt k _ (by decide) hk hko
        exact WOk.one (hrun w (by simp [Builtin.delete_, run_undl hu, hck])) (Ext.refl E) hh (by simp [NR, cv, cvs]) (Touch.refl w) (Nat.le_refl _)
      · cases h
    · rename_i kt et n hmk
      have hu := mapK_eq hmk
      split at h
      · rename_i es clock hg
        simp only [cv, Option.map_eq_some_iff] at hm
        obtain ⟨e, he, rfl⟩ := hm
        obtain ⟨ces, hE, hbl⟩ := hh.map' hg he
        have hgo := run_getObj (P := P) hbl (by simp)
        split at h
        · rename_i hko
          obtain ⟨u, hku⟩ := keyOk_undl hko
          have hck := fun em => run_keyOk (P := P) (w := w) em 9 10000 kt k _ (by decide) hk hko
          split at h
          · rename_i i u' hf
            simp only [Option.some.injEq] at h; subst h
            obtain ⟨r', q1, q2⟩ := run_aFind (P := P) (w := w) hku hk hE hf
            cases r' with
            | none => exact q2.elim
            | some y =>
              obtain ⟨j, v'⟩ := y
              obtain ⟨rfl, _, _, e0, he0, _⟩ := q2
              rw [Nat.sub_zero] at he0
              have hlt : i < ces.length := by rw [(cvE_get hE).1]; exact (List.getElem?_eq_some_iff.1 he0).1
              have her : ces.toArray.eraseIdxIfInBounds i = (ces.eraseIdx i).toArray := by simp [Array.eraseIdxIfInBounds, hlt]
              refine WOk.one (hrun _ (by simp [Builtin.delete_, run_undl hu, hgo, hck, q1, her, run_setObj hbl])) (Ext.refl E) (hh.put hg rfl he _ _ (.map (cvE_erase hE i))) (by simp [NR, cv, cvs]) (Touch.set (by simp) he _) (by simp)
          · rename_i hf
            simp only [Option.some.injEq] at h; subst h
            obtain ⟨r', q1, q2⟩ := run_aFind (P := P) (w := w) hku hk hE hf
            cases r' with
            | some _ => exact q2.elim
            | none =>
              refine WOk.one (hrun _ (by simp [Builtin.delete_, run_undl hu, hgo, hck, q1, run_setObj hbl])) (Ext.refl E) (hh.put hg rfl he _ _ (.map hE)) (by simp [NR, cv, cvs]) (Touch.set (by simp) he _) (by simp)
          · cases h
        · cases h
      · cases h
    · cases h
  · cases h
end
end Go.Sx
