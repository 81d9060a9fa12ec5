/- The engine and the contracts, part 3. No condition beyond the hypotheses of each theorem. -/
import Derived.Test.YtkcdnpbcbmcgkaaG02
import Derived.Laws.IdiomStrings
import Derived.AtR
import Derived.RangeFuncIn
/- append and copy, whole; all operations that write, in one theorem. -/
set_option linter.unusedSimpArgs false
namespace Go.Sx
open Go Go.RowKit
/-- What append does when it knows how many elements come. -/
def appTail (elem : TypeId) (size : Nat) (base : Option Addr) (sLen sCap : Nat) (s x : Value) (zeros : Bool) (n : Nat) : Sem Value :=
  let appended : Sem (Array Value) :=
    if !zeros then Builtin.firstCells size n x
    else if n * size = 0 then pure #[]
    else do pure (Builtin.zeroCells (← zeroValue elem).cells n)
  let need := sLen + n
  if need ≤ sCap then do
    let new ← appended
    if let some a := base then storeCells (a.add (sLen * size)) new.toList
    pure (.slice base need sCap)
  else do
    if (need : Int) > IntKind.i64.max ∧ (zeros ∨ (← typeInfo elem).bytes = 0) then runtimePanic (.error "growslice: len out of range")
    if Builtin.nextslicecap need sCap * (← typeInfo elem).bytes > 2 ^ 48 then (if zeros then runtimePanic (.error "growslice: len out of range") else do
      if !(← Builtin.mayShare size sLen n base x) then mark .noRoom
      unsupported (.resourceLimit "append: a slice or a string whose bytes no memory bears"))
    let newCap ← choose (.appendCap need sCap elem)
    askRoom (newCap * (← typeInfo elem).bytes)
    let old ← Builtin.firstCells size sLen s
    let new ← appended
    let rest := Builtin.zeroCells (← zeroValue elem).cells (newCap - need)
    pure (.slice (some (← newRow elem (old ++ new ++ rest))) need newCap)
def isInt : TypeDesc → Bool
  | .int _ => true
  | _ => false
section
variable {P : Program} {E : Env} {ι : Val} {tm : TM} {ρ : Operand → Value} {B : Base} {w0 w : World} {H : AH} {o : Oper}
theorem run_appPre {ts : Array TypeId} {vs : Array Value} {ty t : TypeId} {s x : Value} {elem : TypeId} {base : Option Addr} {sLen sCap size n : Nat} {zeros : Bool} (ht : ts[0]? = some t) (h0 : vs[0]? = some s) (h1 : vs[1]? = some x) (hu : P.underlying t = some (.slice elem)) (hs : s = .slice base sLen sCap) (hsz : szOf P elem = some size)
    (hz : (∃ u d, ts[1]? = some u ∧ P.underlying u = some d ∧ zeros = isInt d) ∨ (ts[1]? = none ∧ zeros = false))
    (hmade : zeros = true → ∃ k l i, x = .int k l ∧ 0 ≤ l ∧ l ≤ 1000000 ∧ l.toNat = n ∧ P.info? elem = some i ∧ (i.bytes : Int) * l ≤ 140737488355328) (hnot : zeros = false → (Builtin.lenOf x).run P w = .ok n w) :
    (Builtin.append_ ts ty vs).run P w = (appTail elem size base sLen sCap s x zeros n).run P w := by
  subst hs
  unfold Builtin.append_
  rw [ht, h0, h1]
  simp only [Sem.run_bind, run_undl hu, Result.andThen_ok, run_szOf hsz]
  have yes : zeros = true → ∃ k l i, x = .int k l ∧ 0 ≤ l ∧ IntKind.i64.wrap l = l ∧ l.toNat = n ∧ P.info? elem = some i ∧ ¬ (l < 0) ∧ ¬ (l * (i.bytes : Int) > 2 ^ 48) := fun hz => by
    obtain ⟨k, l, i, rfl, l0, l1, rfl, hi, hb⟩ := hmade hz
    exact ⟨k, l, i, rfl, l0, wrap64_small l0 (by omega), rfl, hi, by omega, by rw [Int.mul_comm]; omega⟩
  rcases hz with ⟨u, d, hu1, hu2, hzd⟩ | ⟨hu1, hzd⟩
  · rw [hu1]
    simp only [Sem.run_bind, run_undl hu2, Result.andThen_ok]
    cases d <;> simp only [isInt] at hzd <;> subst hzd
    case int =>
      obtain ⟨k, l, i, rfl, l0, hw, rfl, hi, c1, c2⟩ := yes rfl
      unfold appTail
      simp only [Sem.run_pure, Result.andThen_ok, if_true, Sem.run_bind, asInt, asIntOf, hw, c1, if_false, typeInfo, run_program, hi, c2]
      rfl
    all_goals
      unfold appTail
      simp only [Sem.run_pure, Result.andThen_ok, Bool.false_eq_true, if_false, Sem.run_bind, hnot rfl]
      rfl
  · rw [hu1]
    subst hzd
    unfold appTail
    simp only [Sem.run_pure, Result.andThen_ok, Bool.false_eq_true, if_false, Sem.run_bind, hnot rfl]
    rfl
/-- The elements that come, read. -/
def Comes' (P : Program) (w : World) (elem : TypeId) (size n : Nat) (x : Value) (zeros : Bool) (c : Array Value) : Prop :=
  ((if !zeros then Builtin.firstCells size n x
    else if n * size = 0 then pure #[]
    else do pure (Builtin.zeroCells (← zeroValue elem).cells n) : Sem (Array Value))).run P w = .ok c w
theorem run_in {elem : TypeId} {size : Nat} {base : Option Addr} {sLen sCap n : Nat} {s x : Value} {zeros : Bool} {c : Array Value} (hc : Comes' P w elem size n x zeros c) (h : sLen + n ≤ sCap) {w' : World}
    (hst : (match base with | some a => storeCells (a.add (sLen * size)) c.toList | none => pure ()).run P w = .ok () w') : (appTail elem size base sLen sCap s x zeros n).run P w = .ok (.slice base (sLen + n) sCap) w' := by
  unfold appTail
  simp only [h, if_true, Sem.run_bind, show _ = _ from hc, Result.andThen_ok]
  cases base with
  | none => simp at hst ⊢; exact hst
  | some a => simp only at hst ⊢; simp [hst]
theorem run_out {elem : TypeId} {size : Nat} {base : Option Addr} {sLen sCap n : Nat} {s x : Value} {zeros : Bool} {c old : Array Value} {zc : Value} (h : ¬ sLen + n ≤ sCap) (hr : roomy P elem (sLen + n) = true)
    (hc : ∀ k, Comes' P { w with drawn := k } elem size n x zeros c) (ho : ∀ k, (Builtin.firstCells size sLen s).run P { w with drawn := k } = .ok old { w with drawn := k }) (hz : ∀ k, (zeroValue elem).run P { w with drawn := k } = .ok zc { w with drawn := k }) {i : TypeInfo} (hi : P.info? elem = some i) :
    ∃ newCap k, sLen + n ≤ newCap ∧ (appTail elem size base sLen sCap s x zeros n).run P w = .ok (.slice (some ⟨w.heap.size, 0, none⟩) (sLen + n) newCap) { w with drawn := k, heap := w.heap.push (.cells (old ++ c ++ Builtin.zeroCells zc.cells (newCap - (sLen + n))) elem) } := by
  have hby : bytesT P elem = i.bytes := by simp [bytesT, hi]
  unfold roomy at hr
  rw [hby] at hr
  simp only [Bool.and_eq_true, Nat.ble_eq] at hr
  obtain ⟨hr1, hr2⟩ := hr
  have hn := nextcap_le (need := sLen + n) (cap := sCap) (by omega)
  have hcap : ¬ (Builtin.nextslicecap (sLen + n) sCap * i.bytes > 2 ^ 48) := by
    have := Nat.mul_le_mul_right i.bytes hn
    have : (2 : Nat) ^ 48 = 281474976710656 := by decide
    omega
  have hmax : ¬ (((sLen + n : Nat) : Int) > IntKind.i64.max) := by
    show ¬ (((sLen + n : Nat) : Int) > 2 ^ 63 - 1)
    omega
  have hcut : sLen + n ≤ (Question.appendCap (sLen + n) sCap elem).cut (w.tape w.drawn (Question.appendCap (sLen + n) sCap elem)) := by
    simp [Question.cut]
  refine ⟨(Question.appendCap (sLen + n) sCap elem).cut (w.tape w.drawn (Question.appendCap (sLen + n) sCap elem)), w.drawn + 1, hcut, ?_⟩
  have hch : (choose (.appendCap (sLen + n) sCap elem)).run P w = .ok ((Question.appendCap (sLen + n) sCap elem).cut (w.tape w.drawn (Question.appendCap (sLen + n) sCap elem))) { w with drawn := w.drawn + 1 } := by
    rw [run_choose, if_neg (by simp [Question.forced])]
  unfold appTail
  simp only [h, if_false, Sem.run_bind, typeInfo, run_program, Result.andThen_ok, hi, Sem.run_pure, hmax, false_and]
  rw [if_neg hcap]
  simp only [Sem.run_pure, Result.andThen_ok, Sem.run_bind, hch, run_askRoom, ho, run_program, hi, show _ = _ from hc (w.drawn + 1), hz, newRow, run_newObj]
end
end Go.Sx
/- append and copy in a symbolic heap; all operations that write, in one theorem. -/
set_option linter.unusedSimpArgs false
namespace Go.Sx
open Go Go.RowKit
section
variable {P : Program} {E : Env} {ι : Val} {tm : TM} {ρ : Operand → Value} {B : Base} {w0 w : World} {H : AH} {o : Oper}
theorem zeros_of_made {t : Option TypeId} (h : t.all (fun u => (P.underlying u).isSome) = true) : (∃ u d, t = some u ∧ P.underlying u = some d ∧ madeT P t = isInt d) ∨ (t = none ∧ madeT P t = false) := by
  cases t with
  | none => exact .inr ⟨rfl, rfl⟩
  | some u =>
    simp only [Option.all_some, Option.isSome_iff_exists] at h
    obtain ⟨d, hd⟩ := h
    refine .inl ⟨u, d, rfl, hd, ?_⟩
    simp only [madeT, hd]
    cases d <;> rfl
/-- Everything that an append has to go on. -/
structure AppIn (P : Program) (B : Base) (w0 : World) (E : Env) (ι : Val) (H : AH) (w : World) (e : TypeId) (size n : Nat) (new : List AV) (x : Value) (zeros : Bool) (zc : Value) (c : Array Value) : Prop where
  hh : HR B w0 E ι H w
  szt : szOf P e = some size
  pos : 0 < size
  info : ∃ i, P.info? e = some i
  zero : ∀ k, (zeroValue e).run P { w with drawn := k } = .ok zc { w with drawn := k }
  zsize : zc.cells.size = size
  newc : cvs E ι new = some c.toList
  len : new.length = n * size
  comes : ∀ k, Comes' P { w with drawn := k } e size n x zeros c
variable {e : TypeId} {size n : Nat} {new : List AV} {x : Value} {zeros : Bool} {zc : Value} {c : Array Value}
theorem AppIn.out (a : AppIn P B w0 E ι H w e size n new x zeros zc c) {base : Option Addr} {sLen sCap : Nat} {s : Value} (h : ¬ sLen + n ≤ sCap) (hr : roomy P e (sLen + n) = true) {old : List AV} {oc : Array Value} (ho : cvs E ι old = some oc.toList) (hol : old.length = sLen * size)
    (hrun : ∀ k, (Builtin.firstCells size sLen s).run P { w with drawn := k } = .ok oc { w with drawn := k }) :
    ∃ newCap k ob hi, (appTail e size base sLen sCap s x zeros n).run P w = .ok (.slice (some ⟨w.heap.size, 0, none⟩) (sLen + n) newCap) { w with drawn := k, heap := w.heap.push ob } ∧
      HR B w0 (E ++ [(w.heap.size, 0, hi)]) ι (H.new (.row (old ++ new) e false (.own none))) { w with drawn := k, heap := w.heap.push ob } ∧
      OR (E ++ [(w.heap.size, 0, hi)]) ι (.row (old ++ new) e false (.own none)) (w.heap.size, 0, hi) (some ob) ∧
      cv (E ++ [(w.heap.size, 0, hi)]) ι (.eslice H.nx 0 (sLen + n) size) = some (.slice (some ⟨w.heap.size, 0, none⟩) (sLen + n) newCap) := by
  obtain ⟨i, hi⟩ := a.info
  obtain ⟨newCap, k, hcap, hrun'⟩ := run_out (base := base) h hr a.comes hrun a.zero hi
  have hkn := cvs_append ho a.newc
  have hlen : (oc.toList ++ c.toList).length = (sLen + n) * size := by
    have h1 := (cvs_get hkn).1
    rw [h1, List.length_append, hol, a.len, Nat.add_mul]
  have hrow := rowPart (rest := (Builtin.zeroCells zc.cells (newCap - (sLen + n))).toList) hkn e w.heap.size
  have harr : (oc.toList ++ c.toList ++ (Builtin.zeroCells zc.cells (newCap - (sLen + n))).toList).toArray = oc ++ c ++ Builtin.zeroCells zc.cells (newCap - (sLen + n)) := by
    apply Array.ext'
    simp
  rw [harr] at hrow
  generalize hhi : (oc.toList ++ c.toList ++ (Builtin.zeroCells zc.cells (newCap - (sLen + n))).toList).length = hi at hrow
  have hisz : hi = newCap * size := by
    rw [← hhi, List.length_append, hlen, Array.length_toList, zeroCells_size, a.zsize, ← Nat.add_mul]
    congr 1
    omega
  have hor : OR (E ++ [(w.heap.size, 0, hi)]) ι (.row (old ++ new) e false (.own none)) (w.heap.size, 0, hi) (some (.cells (oc ++ c ++ Builtin.zeroCells zc.cells (newCap - (sLen + n))) e)) := .row (RowR_ext (Ext.app _ _) hrow)
  refine ⟨newCap, k, _, hi, hrun', (a.hh.new _ _ hi hor).drew k, hor, ?_⟩
  simp only [cv, a.hh.nx, get_app_self, Option.map_some]
  congr 2
  rw [hisz, Nat.sub_zero, Nat.sub_zero, Nat.mul_div_cancel _ a.pos]
/-- What append comes to, for any of the ways in which the symbolic run has it. -/
theorem appTo_ok (hι : Scalars ι) (a : AppIn P B w0 E ι H w e size n new x zeros zc c) {sv : AV} {base : Option Addr} {sLen sCap : Nat} (hs : cv E ι sv = some (.slice base sLen sCap)) {rs : List AR} (h : appTo P H e size n new sv = some rs) :
    ∃ v w', (appTail e size base sLen sCap (.slice base sLen sCap) x zeros n).run P w = .ok v w' ∧ ∃ r ∈ rs, ∃ E', Ext E E' ∧ HR B w0 E' ι r.2.1 w' ∧ NR E' ι r.1 (.value v) ∧ Touch E (r.2.2.take 1) w w' ∧ w.heap.size ≤ w'.heap.size := by
  have hcl : c.size = n * size := by have := (cvs_get a.newc).1; simp at this; rw [this, a.len]
  have hc0 : n = 0 → c.toList = [] := fun h0 => by
    have : c.toList.length = 0 := by simp [hcl, h0]
    exact List.length_eq_zero_iff.1 this
  have hcomes : Comes' P w e size n x zeros c := a.comes w.drawn
  unfold appTo at h
  split at h
  · simp only [cv, Option.some.injEq, Value.slice.injEq] at hs
    obtain ⟨rfl, rfl, rfl⟩ := hs
    split at h
    · rename_i hn
      simp only [Option.some.injEq] at h; subst h
      refine ⟨_, w, run_in hcomes (by omega) (by rfl), _, List.mem_singleton.2 rfl, E, Ext.refl E, a.hh, by simp [NR, cv, hn], Touch.refl w, Nat.le_refl _⟩
    · rename_i hn
      split at h
      · rename_i hr
        simp only [Option.some.injEq] at h; subst h
        obtain ⟨newCap, k, ob, hi, h1, h2, _, h4⟩ := a.out (base := none) (sLen := 0) (sCap := 0) (s := .slice none 0 0) (by omega) (by simpa using hr) (old := []) (oc := #[]) cvs_nil (by simp) (fun k => rfl)
        simp only [Nat.zero_add, List.nil_append] at h1 h2 h4
        exact ⟨_, _, by simpa using h1, _, List.mem_singleton.2 rfl, _, Ext.app _ _, h2, h4, Touch.drewPush _ _, by simp⟩
      · cases h
  · rename_i m off len cap
    simp only [cv, Option.map_eq_some_iff] at hs
    obtain ⟨d, hd, hs⟩ := hs
    simp only [Value.slice.injEq] at hs
    obtain ⟨rfl, rfl, rfl⟩ := hs
    unfold appSlice at h
    split at h
    · rename_i cs e' ex st hg
      split at h
      · rename_i hle
        split at h
        · rename_i hn
          simp only [Option.some.injEq] at h; subst h
          refine ⟨_, w, run_in hcomes hle (by rw [hc0 hn]; rfl), _, List.mem_singleton.2 rfl, E, Ext.refl E, a.hh, by simp [NR, cv, hn, hd], Touch.refl w, Nat.le_refl _⟩
        · split at h
          · rename_i old
            split at h
            · rename_i hcond
              simp only [Bool.and_eq_true, decide_eq_true_eq] at hcond
              obtain ⟨hlen, hall⟩ := hcond
              simp only [Option.some.injEq] at h; subst h
              have hseg : off + len * size + new.length ≤ cs.length := by rw [a.len]; rw [Nat.add_mul] at hlen; omega
              obtain ⟨ob, hst, hH⟩ := rowWrite (P := P) hι a.hh hg hd a.newc (singles_one hι a.newc hall) hseg
              refine ⟨_, _, run_in hcomes hle (by simp only [addr_add]; rw [Nat.add_assoc]; exact hst), _, List.mem_singleton.2 rfl, E, Ext.refl E, hH, by simp [NR, cv, hd], Touch.set (by simp) hd ob, by simp⟩
            · cases h
          · cases h
      · rename_i hle
        split at h
        · rename_i hcond
          simp only [Bool.and_eq_true, decide_eq_true_eq] at hcond
          obtain ⟨hlen, hr⟩ := hcond
          simp only [Option.some.injEq] at h; subst h
          obtain ⟨d', hd', hor⟩ := a.hh.obj m _ hg
          rw [hd] at hd'; injection hd' with hd'; subst hd'
          generalize hob : w.heap[d.1]? = ob0 at hor
          cases hor with
          | @row _ _ _ _ _ cs' fz hrow =>
            obtain ⟨l, hl, _⟩ := run_loadRow (P := P) hrow hob hlen
            have hrd : ∀ k, (Builtin.firstCells size len (.slice (some ⟨d.1, d.2.1 + off, none⟩) len cap)).run P { w with drawn := k } = .ok l.toArray { w with drawn := k } := fun k => by
              obtain ⟨l', hl', hrun⟩ := run_loadRow (P := P) (w := { w with drawn := k }) hrow hob hlen
              rw [hl] at hl'; injection hl' with hl'; subst hl'
              exact hrun
            obtain ⟨newCap, k, ob, hi, h1, h2, _, h4⟩ := a.out (base := some ⟨d.1, d.2.1 + off, none⟩) hle hr (old := (cs.drop off).take (len * size)) (oc := l.toArray) (by simpa using hl) (by simp; omega) hrd
            exact ⟨_, _, h1, _, List.mem_singleton.2 rfl, _, Ext.app _ _, h2, h4, Touch.drewPush _ _, by simp⟩
        · cases h
    · cases h
  · rename_i m off len sz
    simp only [cv, Option.map_eq_some_iff] at hs
    obtain ⟨d, hd, hs⟩ := hs
    simp only [Value.slice.injEq] at hs
    obtain ⟨rfl, rfl, hcap⟩ := hs
    unfold appEnd at h
    split at h
    · rename_i cs e' old hg
      split at h
      · rename_i hcond
        simp only [Bool.and_eq_true, decide_eq_true_eq] at hcond
        obtain ⟨⟨⟨⟨rfl, rfl⟩, hn⟩, hlen⟩, hall⟩ := hcond
        simp only [Option.some.injEq] at h; subst h
        have hrl : d.2.1 + cs.length ≤ d.2.2 := by
          obtain ⟨d', hd', hor⟩ := a.hh.obj m _ hg
          rw [hd] at hd'; injection hd' with hd'; subst hd'
          generalize w.heap[d.1]? = ob0 at hor
          cases hor with
          | @row _ _ _ _ _ cs' fz hrow => exact hrow.len
        have hle : len + n ≤ sCap := by
          rw [← hcap, Nat.le_div_iff_mul_le a.pos]
          omega
        have hseg : off + len * sz + new.length ≤ cs.length := by rw [a.len]; rw [Nat.add_mul] at hlen; omega
        obtain ⟨ob, hst, hH⟩ := rowWrite (P := P) hι a.hh hg hd a.newc (singles_one hι a.newc hall) hseg
        exact ⟨_, _, run_in hcomes hle (by simp only [addr_add]; rw [Nat.add_assoc]; exact hst), _, List.mem_singleton.2 rfl, E, Ext.refl E, hH, by simp [NR, cv, hd, hcap], Touch.set (by simp) hd ob, by simp⟩
      rename_i hfirst
      clear hfirst
      split at h
      · rename_i hcond
        simp only [Bool.and_eq_true, decide_eq_true_eq] at hcond
        obtain ⟨⟨⟨rfl, rfl⟩, hlen⟩, hall⟩ := hcond
        obtain ⟨d', hd', hor⟩ := a.hh.obj m _ hg
        rw [hd] at hd'; injection hd' with hd'; subst hd'
        have hor0 := hor
        generalize hob : w.heap[d.1]? = ob0 at hor
        cases hor with
        | @row _ _ _ _ _ cs' fz hrow =>
          have hrl := hrow.len
          have hrf := hrow.fits
          have hpos := a.pos
          split at h
          · rename_i hn
            simp only [Option.some.injEq] at h; subst h
            have hle : len + n ≤ sCap := by
              rw [← hcap, hn, Nat.le_div_iff_mul_le a.pos]
              simp only [Nat.add_zero]
              omega
            refine ⟨_, w, run_in hcomes hle (by rw [hc0 hn]; rfl), _, List.mem_singleton.2 rfl, E, Ext.refl E, a.hh, by simp [NR, cv, hn, hd, hcap], Touch.refl w, Nat.le_refl _⟩
          · split at h
            · cases h
            · rename_i hn hroom
              have hroom : roomy P e' (len + n) = true := by simpa using hroom
              simp only [Option.some.injEq] at h; subst h
              by_cases hle : len + n ≤ sCap
              · -- there is room: the block is written behind what is known
                have hmul : (len + n) * sz ≤ d.2.2 - d.2.1 - off := by
                  rw [← hcap] at hle
                  exact (Nat.le_div_iff_mul_le a.pos).1 hle
                have hst := run_storeSeg (P := P) c.toList w cs' (d.2.1 + off + len * sz) 0 hob (by simp [hcl]; rw [Nat.add_mul] at hmul; omega) (fun k h1 h2 => hrow.free k (by omega) (by simp [hcl] at h2; rw [Nat.add_mul] at hmul; omega)) (singles_one hι a.newc hall)
                have hsegsz : d.2.1 + off + len * sz + c.toList.length ≤ cs'.size := by simp [hcl]; rw [Nat.add_mul] at hmul; omega
                have hv : RowR E ι cs e' false d (seg cs' (d.2.1 + off + len * sz) c.toList) fz := by
                  refine ⟨fun i v hi => ?_, hrl, by rw [seg_size]; exact hrf, (fun hx => by cases hx), hrow.free⟩
                  obtain ⟨y, p, q⟩ := hrow.at_ i v hi
                  have hil := (List.getElem?_eq_some_iff.1 hi).1
                  refine ⟨y, p, ?_⟩
                  rw [seg_get _ _ _ _ hsegsz, if_neg (by omega)]
                  exact q
                have hnew : RowR (E ++ [(d.1, d.2.1 + off, d.2.2)]) ι (cs.drop off ++ new) e' false (d.1, d.2.1 + off, d.2.2) (seg cs' (d.2.1 + off + len * sz) c.toList) fz := by
                  refine ⟨fun i v hi => ?_, ?_, by rw [seg_size]; exact hrf, (fun hx => by cases hx), fun i h1 h2 => hrow.free i (by simp only at h1; omega) h2⟩
                  · by_cases hil : i < (cs.drop off).length
                    · rw [List.getElem?_append_left hil, List.getElem?_drop] at hi
                      obtain ⟨y, p, q⟩ := hv.at_ _ v hi
                      exact ⟨y, cv_ext (Ext.app _ _) _ _ p, by rw [← q]; congr 1; simp only; omega⟩
                    · rw [List.getElem?_append_right (by omega)] at hi
                      obtain ⟨y, p, q⟩ := (cvs_get a.newc).2 _ v hi
                      refine ⟨y, cv_ext (Ext.app _ _) _ _ p, ?_⟩
                      have hil2 := (List.getElem?_eq_some_iff.1 hi).1
                      rw [a.len] at hil2
                      simp only [List.length_drop] at hil hil2 q
                      rw [seg_get _ _ _ _ hsegsz, if_pos (by simp [hcl]; omega), ← q]
                      congr 1
                      dsimp only
                      omega
                  · simp only [List.length_append, List.length_drop, a.len]
                    rw [Nat.add_mul] at hmul
                    omega
                have hH := a.hh.share hg hd (d.2.1 + off) d.2.2 _ (cs.drop off ++ new) e' (.row hv) (.row hnew)
                refine ⟨_, _, run_in hcomes hle (by simp only [addr_add]; exact hst), _, List.mem_singleton.2 rfl, _, Ext.app _ _, hH, ?_, Touch.set (by simp) hd _, by simp⟩
                have hnx : ((H.unold old).put m (.row cs e' false .view)).nx = E.length := by
                  rw [AH.nx_put, (a.hh.unold old).nx]
                simp only [NR, cv, a.hh.nx, get_app_self, Option.map_some]
                rw [← hcap, Nat.add_zero, Nat.sub_zero, Nat.sub_add_eq]
              · -- there is none: a new block
                have hrd : ∀ k, ∃ l, cvs E ι (cs.drop off) = some l ∧ (Builtin.firstCells sz len (.slice (some ⟨d.1, d.2.1 + off, none⟩) len sCap)).run P { w with drawn := k } = .ok l.toArray { w with drawn := k } := fun k => by
                  obtain ⟨l', hl', hrun⟩ := run_loadRow (P := P) (w := { w with drawn := k }) hrow hob (off := off) (n := len * sz) (by omega)
                  refine ⟨l', ?_, hrun⟩
                  rw [← hl', List.take_of_length_le (by simp; omega)]
                obtain ⟨l, hl, _⟩ := hrd 0
                have hrd' : ∀ k, (Builtin.firstCells sz len (.slice (some ⟨d.1, d.2.1 + off, none⟩) len sCap)).run P { w with drawn := k } = .ok l.toArray { w with drawn := k } := fun k => by
                  obtain ⟨l', hl', hrun⟩ := hrd k
                  rw [hl] at hl'; injection hl' with hl'; subst hl'
                  exact hrun
                obtain ⟨newCap, k, ob, hi, h1, h2, h3, h4⟩ := a.out (base := some ⟨d.1, d.2.1 + off, none⟩) hle hroom (old := cs.drop off) (oc := l.toArray) (by simpa using hl) (by simp; omega) hrd'
                refine ⟨_, _, h1, _, List.mem_singleton.2 rfl, E ++ [(w.heap.size, 0, hi)], Ext.app _ _, ?_, ?_, Touch.drewPush _ _, by simp⟩
                · -- the elder row is read only from now on
                  have hu := a.hh.unold old
                  have hgu : (H.unold old).get m = some (.row cs e' false (.own old)) ∨ old = some m := by
                    cases old with
                    | none => exact .inl hg
                    | some q =>
                      by_cases hq : m = q
                      · exact .inr (by rw [hq])
                      · left
                        show (H.del q).get m = _
                        rw [AH.get_del, if_neg hq]; exact hg
                  have hview : HR B w0 E ι ((H.unold old).put m (.row cs e' false .view)) w := by
                    rcases hgu with hgu | hgu
                    · exact hu.toView hgu
                    · have h5 := a.hh.toView hg
                      subst hgu
                      -- the elder of the elder is itself: its name is laid anew
                      refine ⟨a.hh.below, a.hh.base, a.hh.nx, a.hh.inb, fun z p hz => ?_, fun z1 z2 p q c1 c2 g1 g2 hne e1 e2 he => ?_, a.hh.pc, fun z p e hz hpv he => by
                        rw [AH.get_put] at hz
                        split at hz
                        · injection hz with hz; subst hz; cases hpv
                        · exact a.hh.own z p e (AH.get_unold hz).1 hpv he, a.hh.ext⟩
                      · rw [AH.get_put] at hz
                        split at hz
                        · injection hz with hz; subst hz
                          rename_i hzm
                          subst hzm
                          exact ⟨d, hd, by rw [hob]; exact .row hrow⟩
                        · exact a.hh.obj z p (AH.get_unold hz).1
                      · rw [AH.get_put] at g1 g2
                        split at g1
                        · injection g1 with g1; subst g1
                          exact ⟨.inl rfl, fun hx => by simp [AObj.isView] at hx⟩
                        · split at g2
                          · injection g2 with g2; subst g2
                            rename_i hz2
                            subst hz2
                            have := a.hh.sep z1 z2 p _ c1 c2 (AH.get_unold g1).1 hg hne e1 e2 he
                            exact ⟨.inr rfl, this.2⟩
                          · exact a.hh.sep z1 z2 p q c1 c2 (AH.get_unold g1).1 (AH.get_unold g2).1 hne e1 e2 he
                  have h7 := hview.new ob (.row (cs.drop off ++ new) e' false (.own (some m))) hi (by
                    cases h3 with
                    | row h3 => exact .row h3)
                  exact h7.drew k
                · have : ((H.unold old).put m (.row cs e' false .view)).nx = H.nx := by
                    rw [AH.nx_put, (a.hh.unold old).nx, a.hh.nx]
                  exact h4
      · cases h
    · cases h
  · cases h
theorem wAppend_ok (hι : Scalars ι) (hh : HR B w0 E ι H w) (hρ : Opv E ι tm ρ) {args : Array Operand} {ts : Array TypeId} (ho : o.op = .call ⟨.builtin .append, args, ts⟩) {rs : List AR} (h : (opvs tm args.toList).bind (aAppend P H ts.toList) = some rs) : WOk P B w0 E ι w (execOp ρ o) rs := by
  obtain ⟨av, ha, h⟩ := Option.bind_eq_some_iff.1 h
  have h2 := opvs_cvs hρ _ _ ha
  unfold aAppend at h
  split at h
  · rename_i t tr s x xr hts
    obtain ⟨sv, l1, hs, hl1, e1⟩ := cvs_cons.1 h2
    obtain ⟨xv, l2, hx, hl2, rfl⟩ := cvs_cons.1 hl1
    have ht0 : ts[0]? = some t := by rw [← Array.getElem?_toList, hts]; rfl
    have ht1 : ts[1]? = tr.head? := by rw [← Array.getElem?_toList, hts]; cases tr <;> rfl
    have ha0 : (args.map ρ)[0]? = some sv := by rw [← Array.getElem?_toList, Array.toList_map, e1]; rfl
    have ha1 : (args.map ρ)[1]? = some xv := by rw [← Array.getElem?_toList, Array.toList_map, e1]; rfl
    split at h
    · rename_i e hu
      split at h
      · rename_i z zv hsz hz
        split at h
        · rename_i hc
          simp only [Bool.and_eq_true, decide_eq_true_eq] at hc
          obtain ⟨hzl, hall⟩ := hc
          obtain ⟨⟨n, new⟩, hn, h⟩ := Option.bind_eq_some_iff.1 h
          simp only at h
          split at h
          · rename_i hlen
            obtain ⟨zc, hzr, hzc⟩ := run_zeroT (P := P) (E := E) (ι := ι) (w := w) hz
            have hzk : ∀ k, (zeroValue e).run P { w with drawn := k } = .ok zc { w with drawn := k } := fun k => by
              obtain ⟨zc', hzr', hzc'⟩ := run_zeroT (P := P) (E := E) (ι := ι) (w := { w with drawn := k }) hz
              rw [hzc] at hzc'; injection hzc' with hzc'; subst hzc'
              exact hzr'
            have hzcc := cv_cells hι hzc
            have hzs : zc.cells.size = z + 1 := by have := (cvs_get hzcc).1; simp at this; omega
            obtain ⟨q1, q2, c, hnew, q3, q4⟩ := run_appN (P := P) hh hzr hzcc hzl (by omega) hx hn
            have hinfo : ∃ i, P.info? e = some i := by obtain ⟨i, hi, _⟩ := szOf_eq hsz; exact ⟨i, hi⟩
            have hhk : ∀ k, HR B w0 E ι H { w with drawn := k } := fun k => hh.drew k
            have hcomes : ∀ k, Comes' P { w with drawn := k } e (z + 1) n xv (madeT P tr.head?) c := fun k => by
              unfold Comes'
              cases hm : madeT P tr.head? with
              | true =>
                rw [q4 hm]
                by_cases h0 : n * (z + 1) = 0
                · have hn0 : n = 0 := by
                    rcases Nat.mul_eq_zero.1 h0 with h | h
                    · exact h
                    · omega
                  subst hn0
                  simp [Builtin.zeroCells, range0]
                · simp [h0, hzk k]
              | false =>
                obtain ⟨_, _, c', hnew', q3', _⟩ := run_appN (P := P) (hhk k) (hzk k) hzcc hzl (by omega) hx hn
                rw [hnew] at hnew'; injection hnew' with hnew'
                have : c = c' := Array.ext' hnew'
                subst this
                simpa using q3' hm
            have hin : AppIn P B w0 E ι H w e (z + 1) n new xv (madeT P tr.head?) zc c := ⟨hh, hsz, by omega, hinfo, hzk, hzs, hnew, hlen, hcomes⟩
            have hsl : ∃ base sLen sCap, sv = .slice base sLen sCap := by
              unfold appTo at h
              split at h
              · simp only [cv, Option.some.injEq] at hs; exact ⟨_, _, _, hs.symm⟩
              · simp only [cv, Option.map_eq_some_iff] at hs; obtain ⟨_, _, hs⟩ := hs; exact ⟨_, _, _, hs.symm⟩
              · simp only [cv, Option.map_eq_some_iff] at hs; obtain ⟨_, _, hs⟩ := hs; exact ⟨_, _, _, hs.symm⟩
              · cases h
            obtain ⟨base, sLen, sCap, rfl⟩ := hsl
            obtain ⟨v, w', hrun, r, hr, E', g1, g2, g3, g4, g5⟩ := appTo_ok hι hin hs h
            refine ⟨.value v, w', ?_, r, hr, E', g1, g2, g3, g4, g5⟩
            rw [resolve_builtin ρ ho]
            have hpre := run_appPre (P := P) (w := w) (ty := o.type) ht0 ha0 ha1 hu rfl hsz (zeros := madeT P tr.head?) (n := n) (by
              rw [ht1]
              refine zeros_of_made ?_
              cases tr with
              | nil => rfl
              | cons u ur => simp at hall ⊢; exact hall.1) q1 q2
            simp only [builtin, Sem.run_bind, hpre, hrun, Result.andThen_ok, Sem.run_pure]
          · cases h
        · cases h
      · cases h
    · cases h
  · cases h
theorem wCopy_ok (hι : Scalars ι) (hh : HR B w0 E ι H w) (hρ : Opv E ι tm ρ) {args : Array Operand} {ts : Array TypeId} (ho : o.op = .call ⟨.builtin .copy, args, ts⟩) {rs : List AR} (h : (opvs tm args.toList).bind (aCopy P H ts.toList) = some rs) : WOk P B w0 E ι w (execOp ρ o) rs := by
  obtain ⟨av, ha, h⟩ := Option.bind_eq_some_iff.1 h
  have h2 := opvs_cvs hρ _ _ ha
  unfold aCopy at h
  split at h
  · rename_i t tr d x xr hts
    obtain ⟨dv, l1, hd, hl1, e1⟩ := cvs_cons.1 h2
    obtain ⟨xv, l2, hx, hl2, rfl⟩ := cvs_cons.1 hl1
    have ht0 : ts[0]? = some t := by rw [← Array.getElem?_toList, hts]; rfl
    have ha0 : (args.map ρ)[0]? = some dv := by rw [← Array.getElem?_toList, Array.toList_map, e1]; rfl
    have ha1 : (args.map ρ)[1]? = some xv := by rw [← Array.getElem?_toList, Array.toList_map, e1]; rfl
    have hrun : ∀ (v : Value) w', (Builtin.copy_ #[t] o.type #[dv, xv]).run P w = .ok v w' → (execOp ρ o).run P w = .ok (.value v) w' := fun v w' hw => by
      rw [resolve_builtin ρ ho]
      have : Builtin.copy_ ts o.type (args.map ρ) = Builtin.copy_ #[t] o.type #[dv, xv] := by unfold Builtin.copy_; rw [ht0, ha0, ha1]; rfl
      simp [builtin, this, hw]
    split at h
    · rename_i e hu
      split at h
      · rename_i size xl hsz hxl
        have hlx := run_aLenOf (P := P) (w := w) hx hxl
        have key : ∀ m off len cap (q : Nat × Nat × Nat), E[m]? = some q → dv = .slice (some ⟨q.1, q.2.1 + off, none⟩) len cap → copyTo H size xl m off len x = some rs → WOk P B w0 E ι w (execOp ρ o) rs := by
          intro m off len cap q hq hdv h
          subst hdv
          unfold copyTo at h
          split at h
          · rename_i new cs e' ex old hf hg
            split at h
            · rename_i hc
              simp only [Bool.and_eq_true, decide_eq_true_eq] at hc
              obtain ⟨⟨c1, c2⟩, c3⟩ := hc
              simp only [Option.some.injEq] at h; subst h
              obtain ⟨cc, hcr, hcc⟩ := run_aFirst (P := P) hh hx hf
              obtain ⟨ob, hst, hH⟩ := rowWrite (P := P) hι hh hg hq hcc (singles_one hι hcc c3) (off := off) (by omega)
              refine WOk.one (hrun (.int .i64 (Nat.min xl len : Nat)) _ ?_) (Ext.refl E) hH (by simp [NR, cv]) (Touch.set (by simp) hq ob) (by simp)
              simp [Builtin.copy_, run_undl hu, hlx, run_szOf hsz, hcr, hst, goInt]
            · cases h
          · cases h
        split at h
        · simp only [cv, Option.some.injEq] at hd; subst hd
          split at h
          · rename_i hf
            simp only [Option.some.injEq] at h; subst h
            obtain ⟨cc, hcr, hcc⟩ := run_aFirst (P := P) hh hx hf
            refine WOk.one (hrun (.int .i64 0) w ?_) (Ext.refl E) hh (by simp [NR, cv]) (Touch.refl w) (Nat.le_refl _)
            have hm : Nat.min xl 0 = 0 := Nat.min_zero xl
            simp [Builtin.copy_, run_undl hu, hlx, run_szOf hsz, hm, hcr, goInt]
          · cases h
        · simp only [cv, Option.map_eq_some_iff] at hd
          obtain ⟨q, hq, hd⟩ := hd
          exact key _ _ _ _ q hq hd.symm h
        · simp only [cv, Option.map_eq_some_iff] at hd
          obtain ⟨q, hq, hd⟩ := hd
          exact key _ _ _ _ q hq hd.symm h
        · cases h
      · cases h
    · cases h
  · cases h
theorem wBytes_ok (hh : HR B w0 E ι H w) (hρ : Opv E ι tm ρ) {s d : TypeId} {x : Operand} (ho : o.op = .convert s d x) {rs : List AR} (h : wBytes P H tm s d x = some rs) : WOk P B w0 E ι w (execOp ρ o) rs := by
  unfold wBytes at h
  split at h
  · rename_i e l hs hd hx
    split at h
    · rename_i he
      simp only [Option.some.injEq] at h; subst h
      have h1 := hρ x _ hx
      simp only [cv, Option.some.injEq] at h1
      have hsz : (⟨l.toArray⟩ : ByteArray).size = l.length := by show l.toArray.size = _; simp
      have hrun := run_bytes_of_string (P := P) w s d e ⟨l.toArray⟩ hs hd he
      have hge : l.length ≤ grownCap w (⟨l.toArray⟩ : ByteArray).size 0 e := by
        rw [hsz]
        simp only [grownCap, Question.cut]
        omega
      generalize grownCap w (⟨l.toArray⟩ : ByteArray).size 0 e = cap at hrun hge
      have hkn : cvs (E ++ [(w.heap.size, 0, cap)]) ι (l.map fun b => AV.int .u8 (b.toNat : Nat)) = some (l.map fun b => Value.int .u8 (b.toNat : Nat)) := by
        refine cvs_of_get (by simp) fun i v hv => ?_
        rw [List.getElem?_map] at hv
        obtain ⟨b, hb, rfl⟩ := Option.map_eq_some_iff.1 hv
        exact ⟨_, rfl, by rw [List.getElem?_map, hb]; rfl⟩
      have hrow := rowPart (rest := List.replicate (cap - l.length) (Value.int .u8 0)) hkn e w.heap.size
      have hlen : ((l.map fun b => Value.int .u8 (b.toNat : Nat)) ++ List.replicate (cap - l.length) (Value.int .u8 0)).length = cap := by
        simp; omega
      rw [hlen] at hrow
      have hbr : bytesRow ⟨l.toArray⟩ cap = ((l.map fun b => Value.int .u8 (b.toNat : Nat)) ++ List.replicate (cap - l.length) (Value.int .u8 0)).toArray := by
        unfold bytesRow
        rw [hsz]
        apply Array.ext'
        simp
      rw [← hbr] at hrow
      have hbs : (bytesRow ⟨l.toArray⟩ cap).size = cap := by rw [hbr]; simpa using hlen
      have hor : OR (E ++ [(w.heap.size, 0, cap)]) ι (.row (l.map fun b => AV.int .u8 (b.toNat : Nat)) e false (.own none)) (w.heap.size, 0, cap) (some (.cells (bytesRow ⟨l.toArray⟩ cap) e ((bytesRow ⟨l.toArray⟩ cap).size, (bytesRow ⟨l.toArray⟩ cap).size + 1))) :=
        .row ⟨hrow.at_, hrow.len, hrow.fits, hrow.exact, fun i _ h2 hx => by simp only at h2; omega⟩
      refine WOk.one (n := .value (.slice (some ⟨w.heap.size, 0, none⟩) (⟨l.toArray⟩ : ByteArray).size cap)) (w' := _) ?_ (Ext.app _ _) ((hh.new _ _ cap hor).drew (w.drawn + 1)) ?_ (Touch.drewPush _ _) (by simp)
      · simp only [execOp, ho, ← h1, Sem.run_bind, hrun, Result.andThen_ok, Sem.run_pure]
        rfl
      · show cv _ ι _ = _
        simp only [cv, hh.nx, get_app_self, Option.map_some, hsz, Nat.sub_zero, Nat.div_one, Nat.add_zero]
    · cases h
  · cases h
/-- WHAT WRITES, OR CALLS. -/
theorem aW_ok (hP : Fine P) (hι : Scalars ι) (hh : HR B w0 E ι H w) (hρ : Opv E ι tm ρ) {rs : List AR} (h : aW P H tm o.op = some rs) : WOk P B w0 E ι w (execOp ρ o) rs := by
  unfold aW at h
  split at h
  · exact wAlloc_ok hι hh (by assumption) h
  · exact wBox_ok hι hh hρ (by assumption) h
  · exact wBuildSlice_ok hι hh hρ (by assumption) h
  · exact wMakeMap_ok hh hρ (by assumption) h
  · exact wMakeSlice_ok hι hh hρ (by assumption) h
  · exact wStore_ok hι hh hρ (by assumption) h
  · exact wMapPut_ok hh hρ (.inl (by assumption)) h
  · exact wMapPut_ok hh hρ (.inr (by assumption)) h
  · exact wMapEntry_ok hh hρ (by assumption) h
  · exact wEntryStore_ok hh hρ (by assumption) h
  · exact wRange_ok hh hρ (by assumption) h
  · exact wNext_ok hh hρ (by assumption) h
  · exact wBytes_ok hh hρ (by assumption) h
  · exact wCall_ok hP hh hρ (by assumption) h
  · unfold wBuiltin at h
    split at h
    · exact wAppend_ok hι hh hρ (by assumption) h
    · exact wCopy_ok hι hh hρ (by assumption) h
    · exact wDelete_ok hh hρ (by assumption) h
    · cases h
  · cases h
end
end Go.Sx
/- A region in any order: what was carried out ahead of its turn. No program stands here. -/
set_option linter.unusedSimpArgs false
namespace Go.Sx
open Go Go.RowKit
abbrev Set' := Nat → Bool
def upd (L : Set') (i : Nat) : Set' := fun j => j == i || L j
theorem upd_comm (L : Set') (i j : Nat) : upd (upd L i) j = upd (upd L j) i := by
  funext k; simp only [upd]; cases (k == i) <;> cases (k == j) <;> rfl
theorem upd_self (L : Set') (i : Nat) : upd L i i = true := by simp [upd]
theorem upd_ne {L : Set'} {i j : Nat} (h : j ≠ i) : upd L i j = L j := by simp [upd, h]
theorem upd_mono {L : Set'} {i j : Nat} (h : L j = true) : upd L i j = true := by simp [upd, h]
/-- Operation i may come up when those of D have. -/
def Rdy (ops : Array Oper) (D : Set') (i : Nat) : Prop := D i = false ∧ ∃ o, ops[i]? = some o ∧ ∀ e ∈ o.after, Region.binds .any e = true → D e.on = true
/-- l is what is left of a schedule, when those of L have come up. -/
def Lin (ops : Array Oper) : Set' → List Nat → Prop
  | L, [] => ∀ i, ¬ Rdy ops L i
  | L, i :: l => Rdy ops L i ∧ Lin ops (upd L i) l
/-- Each that has come up has come up behind those that it waits for. -/
def Closed (ops : Array Oper) (L : Set') : Prop := ∀ i, L i = true → ∃ o, ops[i]? = some o ∧ ∀ e ∈ o.after, Region.binds .any e = true → L e.on = true
theorem Closed.upd {ops : Array Oper} {L : Set'} (h : Closed ops L) {i : Nat} (hr : Rdy ops L i) : Closed ops (upd L i) := fun j hj => by
  by_cases c : j = i
  · subst c
    obtain ⟨_, o, ho, he⟩ := hr
    exact ⟨o, ho, fun e hm hb => upd_mono (he e hm hb)⟩
  · rw [upd_ne c] at hj
    obtain ⟨o, ho, he⟩ := h j hj
    exact ⟨o, ho, fun e hm hb => upd_mono (he e hm hb)⟩
theorem Rdy.mono {ops : Array Oper} {L : Set'} {i j : Nat} (h : Rdy ops L j) (hne : j ≠ i) : Rdy ops (upd L i) j := by
  obtain ⟨h0, o, ho, he⟩ := h
  exact ⟨by rw [upd_ne hne]; exact h0, o, ho, fun e hm hb => upd_mono (he e hm hb)⟩
section
variable {P : Program} {ops : Array Oper}
/-- What the tape picks is a schedule. -/
theorem lin_of {listed : Array Bool} : ∀ (fuel t : Nat) (listed : Array Bool), listed.size = ops.size → (List.range ops.size).countP (fun i => !listed.getD i true) ≤ fuel →
    Lin ops (fun i => listed.getD i false) (Region.linearise.go .any ops fuel t listed []) := by
  have rd : ∀ (listed : Array Bool), listed.size = ops.size → ∀ i, i ∈ Region.ready .any ops listed ↔ Rdy ops (fun i => listed.getD i false) i := fun listed hl i => by
    rw [mem_ready]
    constructor
    · rintro ⟨h0, o, ho, he⟩
      have hi := (Array.getElem?_eq_some_iff.1 ho).1
      refine ⟨?_, o, ho, he⟩
      simp only [Array.getD_eq_getD_getElem?] at h0 ⊢
      rw [Array.getElem?_eq_getElem (by omega)] at h0 ⊢
      exact h0
    · rintro ⟨h0, o, ho, he⟩
      have hi := (Array.getElem?_eq_some_iff.1 ho).1
      refine ⟨?_, o, ho, he⟩
      simp only [Array.getD_eq_getD_getElem?] at h0 ⊢
      rw [Array.getElem?_eq_getElem (by omega)] at h0 ⊢
      exact h0
  intro fuel
  induction fuel with
  | zero =>
    intro t listed hl hc i hr
    have hm := (rd listed hl i).2 hr
    have hi : i < ops.size := by obtain ⟨_, o, ho, _⟩ := hr; exact (Array.getElem?_eq_some_iff.1 ho).1
    have : 0 < (List.range ops.size).countP (fun i => !listed.getD i true) := by
      rw [List.countP_pos_iff]
      exact ⟨i, List.mem_range.2 hi, by rw [(mem_ready.1 hm).1]; rfl⟩
    omega
  | succ fuel ih =>
    intro t listed hl hc
    simp only [Region.linearise.go]
    change Lin ops _ (match (Region.ready .any ops listed)[t % (Region.ready .any ops listed).length]? with
      | some i => Region.linearise.go .any ops fuel (t / (Region.ready .any ops listed).length) (listed.setIfInBounds i true) [i]
      | none => [].reverse)
    cases hi : (Region.ready .any ops listed)[t % (Region.ready .any ops listed).length]? with
    | none =>
      intro i hr
      have hm := (rd listed hl i).2 hr
      have hlt : t % (Region.ready .any ops listed).length < (Region.ready .any ops listed).length := Nat.mod_lt _ (List.length_pos_of_mem hm)
      rw [List.getElem?_eq_getElem hlt] at hi
      cases hi
    | some i =>
      simp only []
      rw [linearise_go_acc, List.reverse_singleton, List.singleton_append]
      have hm := List.mem_of_getElem? hi
      have hr := (rd listed hl i).1 hm
      have hil : i < ops.size := by obtain ⟨_, o, ho, _⟩ := hr; exact (Array.getElem?_eq_some_iff.1 ho).1
      refine ⟨hr, ?_⟩
      have hu : upd (fun i => listed.getD i false) i = fun j => (listed.setIfInBounds i true).getD j false := by
        funext j
        unfold upd
        by_cases c : j = i
        · subst c
          simp only [beq_self_eq_true, Bool.true_or, Array.getD_eq_getD_getElem?]
          rw [Array.getElem?_setIfInBounds, if_pos rfl, if_pos (by omega)]
          rfl
        · have : (j == i) = false := by simpa using c
          rw [this, Bool.false_or, getD_set_ne false (Ne.symm c)]
      rw [hu]
      refine ih _ _ (by simpa using hl) ?_
      -- one fewer is left
      have h0 : listed.getD i true = false := (mem_ready.1 hm).1
      have hlt : (List.range ops.size).countP (fun j => !(listed.setIfInBounds i true).getD j true) < (List.range ops.size).countP (fun j => !listed.getD j true) := by
        have aux : ∀ (l : List Nat), i ∈ l → l.countP (fun j => !(listed.setIfInBounds i true).getD j true) < l.countP (fun j => !listed.getD j true) := by
          intro l
          have hset : (listed.setIfInBounds i true).getD i true = true := by
            simp only [Array.getD_eq_getD_getElem?]
            rw [Array.getElem?_setIfInBounds, if_pos rfl, if_pos (by omega)]
            rfl
          have hle : ∀ (l : List Nat), l.countP (fun j => !(listed.setIfInBounds i true).getD j true) ≤ l.countP (fun j => !listed.getD j true) := by
            intro l
            refine List.countP_mono_left fun j _ hj => ?_
            by_cases c : j = i
            · subst c
              rw [hset] at hj; simp at hj
            · rw [getD_set_ne true (Ne.symm c)] at hj
              exact hj
          induction l with
          | nil => intro h; cases h
          | cons x r ihl =>
            intro hx
            rw [List.countP_cons, List.countP_cons]
            by_cases c : x = i
            · subst c
              rw [h0, hset]
              have := hle r
              rw [if_neg (by simp), if_pos (by simp)]
              omega
            · have hr' : i ∈ r := by
                rcases List.mem_cons.1 hx with h | h
                · exact absurd h.symm c
                · exact h
              have := ihl hr'
              rw [getD_set_ne true (Ne.symm c)]
              omega
        exact aux _ (List.mem_range.2 hil)
      omega
theorem lin_schedule (t : Nat) : Lin ops (fun _ => false) (Region.schedule true ops t) := by
  unfold Region.schedule Region.linearise
  simp only [Bool.true_or, if_true]
  have := lin_of (ops := ops) (listed := Array.replicate ops.size false) ops.size t (Array.replicate ops.size false) (by simp) (by
    have := List.countP_le_length (p := fun i => !(Array.replicate ops.size false).getD i true) (l := List.range ops.size)
    simpa using this)
  have e : (fun i => (Array.replicate ops.size false).getD i false) = fun _ => false := by
    funext i
    simp only [Array.getD_eq_getD_getElem?, Array.getElem?_replicate]
    split <;> rfl
  rw [e] at this
  exact this

/-! ### Ahead of its turn -/
/-- Operation o leaves v in its temporary, and does nothing else, as long as the blocks of bs are as they are in w. -/
def YOn (P : Program) (ops : Array Oper) (w : World) (o : Oper) (v : Value) (a : Act) (bs : Nat → Prop) : Prop :=
  (Region.wanted o (yielded ops a.tmps) = true ∧ ∀ w', (∀ b, bs b → w'.heap[b]? = w.heap[b]?) → (execOp a.eval o).run P w' = .ok (.value v) w') ∨
  (Region.wanted o (yielded ops a.tmps) = false ∧ v = undef)
theorem YOn.same {w : World} {o : Oper} {v : Value} {a a' : Act} {bs : Nat → Prop} (h : YOn P ops w o v a bs) (he : execOp a'.eval o = execOp a.eval o) (hw : Region.wanted o (yielded ops a'.tmps) = Region.wanted o (yielded ops a.tmps)) : YOn P ops w o v a' bs := by
  unfold YOn at *
  rw [he, hw]
  exact h
theorem YOn.world {w w2 : World} {o : Oper} {v : Value} {a : Act} {bs : Nat → Prop} (h : YOn P ops w o v a bs) (hw : ∀ b, bs b → w2.heap[b]? = w.heap[b]?) : YOn P ops w2 o v a bs := by
  rcases h with ⟨h1, h2⟩ | h
  · exact .inl ⟨h1, fun w' h' => h2 w' fun b hb => (h' b hb).trans (hw b hb)⟩
  · exact .inr h
def Free (ops : Array Oper) (D : Set') (i : Nat) : Prop := ∀ oi, ops[i]? = some oi → ∀ j oj, ops[j]? = some oj → j ≠ i → D j = false → (∀ e ∈ oj.after, Region.binds .any e = true → e.on ≠ i) → oi.apart ops oj = true
/-- L have come up, C is what they left; D have been carried out, V is what they left: those of D beyond L one by one ahead of their turn. -/
inductive Ah (P : Program) (ops : Array Oper) (w : World) (pb : Nat → Nat → Prop) (L : Set') (C : Act) : Set' → Act → Prop
  | nil : Ah P ops w pb L C L C
  | take {D : Set'} {V : Act} {i : Nat} {o : Oper} {v : Value} : Ah P ops w pb L C D V → Rdy ops D i → Free ops D i → ops[i]? = some o → YOn P ops w o v V (pb i) → Ah P ops w pb L C (upd D i) (V.put o.dst v)
variable {w : World} {pb : Nat → Nat → Prop} {L D : Set'} {C V : Act}
theorem Ah.sub (h : Ah P ops w pb L C D V) {j : Nat} (hj : L j = true) : D j = true := by
  induction h with
  | nil => exact hj
  | take _ _ _ _ _ ih => exact upd_mono ih
theorem Ah.world (h : Ah P ops w pb L C D V) {w2 : World} (hw : ∀ j b, pb j b → w2.heap[b]? = w.heap[b]?) : Ah P ops w2 pb L C D V := by
  induction h with
  | nil => exact .nil
  | take _ hr hf ho hy ih => exact .take ih hr hf ho (hy.world (hw _))
/-- Those whose turn has come need no shelter any more. -/
theorem Ah.weaken (h : Ah P ops w pb L C D V) {pb2 : Nat → Nat → Prop} (hp : ∀ j b, L j = false → pb j b → pb2 j b) : Ah P ops w pb2 L C D V := by
  induction h with
  | nil => exact .nil
  | @take D V i o v hA hr hf ho hy ih =>
    refine .take ih hr hf ho ?_
    have hL : L i = false := by
      cases hx : L i with
      | false => rfl
      | true => exact absurd (hA.sub hx) (by rw [hr.1]; simp)
    rcases hy with ⟨h1, h2⟩ | h
    · exact .inl ⟨h1, fun w' h' => h2 w' fun b hb => h' b (hp i b hL hb)⟩
    · exact .inr h
theorem Ah.more (h : Ah P ops w pb L C D V) {pb2 : Nat → Nat → Prop} (hp : ∀ j b, pb j b → pb2 j b) : Ah P ops w pb2 L C D V := by
  induction h with
  | nil => exact .nil
  | take _ hr hf ho hy ih =>
    refine .take ih hr hf ho ?_
    rcases hy with ⟨h1, h2⟩ | h
    · exact .inl ⟨h1, fun w' h' => h2 w' fun b hb => h' b (hp _ b hb)⟩
    · exact .inr h
/-- The next to come up: it was not carried out yet, and sees nothing of what was; or it was, and yields what it did. -/
theorem Ah.step (hsel : ∀ (j : Nat) (o : Oper) cs b, ops[j]? = some o → o.op ≠ .select cs b) (h : Ah P ops w pb L C D V) {j : Nat} {oj : Oper} (hj : ops[j]? = some oj) (hr : Rdy ops L j) :
    (D j = false → (execOp V.eval oj = execOp C.eval oj ∧ Region.wanted oj (yielded ops V.tmps) = Region.wanted oj (yielded ops C.tmps)) ∧ ∀ u, Ah P ops w pb (upd L j) (C.put oj.dst u) (upd D j) (V.put oj.dst u)) ∧
    (D j = true → ∃ v, YOn P ops w oj v C (pb j) ∧ Ah P ops w pb (upd L j) (C.put oj.dst v) D V) := by
  induction h with
  | nil => exact ⟨fun _ => ⟨⟨rfl, rfl⟩, fun u => .nil⟩, fun hd => by rw [hr.1] at hd; cases hd⟩
  | @take D V i o v hA hri hfi ho hy ih =>
    obtain ⟨ih1, ih2⟩ := ih
    by_cases c : j = i
    · subst c
      rw [ho] at hj
      injection hj with hj
      subst hj
      refine ⟨(fun hd => by rw [upd_self] at hd; cases hd), fun _ => ?_⟩
      obtain ⟨⟨e1, e2⟩, e3⟩ := ih1 hri.1
      exact ⟨v, hy.same e1.symm e2.symm, e3 v⟩
    · have hLi : L i = false := by
        cases hx : L i with
        | false => rfl
        | true => exact absurd (hA.sub hx) (by rw [hri.1]; simp)
      have hno : ∀ e ∈ oj.after, Region.binds .any e = true → e.on ≠ i := fun e hm hb heq => by
        obtain ⟨_, oj', hj', he⟩ := hr
        rw [hj] at hj'; injection hj' with hj'; subst hj'
        have := he e hm hb
        rw [heq, hLi] at this
        cases this
      constructor
      · intro hd
        rw [upd_ne c] at hd
        obtain ⟨⟨e1, e2⟩, e3⟩ := ih1 hd
        have hap := hfi o ho j oj hj c hd hno
        obtain ⟨h1, h2, h3⟩ := Oper.apart_spec hap
        refine ⟨⟨?_, ?_⟩, fun u => ?_⟩
        · rw [execOp_put oj (fun cs b => hsel j oj cs b hj) V o.dst v h1]; exact e1
        · rw [wanted_put oj V o.dst v h1]; exact e2
        · have hA' := e3 u
          have hy' : YOn P ops w o v (V.put oj.dst u) (pb i) := hy.same (execOp_put o (fun cs b => hsel i o cs b ho) V oj.dst u h3) (wanted_put o V oj.dst u h3)
          have hf' : Free ops (upd D j) i := fun oi hoi k ok hk hki hdk hnk => by
            refine hfi oi hoi k ok hk hki ?_ hnk
            cases hx : D k with
            | false => rfl
            | true => rw [upd_mono hx] at hdk; cases hdk
          have := Ah.take hA' (hri.mono (Ne.symm c)) hf' ho hy'
          rw [upd_comm D i j, Act.put_comm V v u h2]
          exact this
      · intro hd
        rw [upd_ne c] at hd
        obtain ⟨x, hy2, hA2⟩ := ih2 hd
        exact ⟨x, hy2, .take hA2 hri hfi ho hy⟩
/-- When nothing may come up any more, all that was carried out has come up. -/
theorem Ah.done (h : Ah P ops w pb L C D V) (hl : ∀ i, ¬ Rdy ops L i) : D = L ∧ V = C := by
  induction h with
  | nil => exact ⟨rfl, rfl⟩
  | @take D V i o v hA hr hf ho hy ih =>
    obtain ⟨rfl, rfl⟩ := ih
    exact absurd hr (hl i)
theorem regOk_select (h : regOk ops = true) : ∀ (j : Nat) (o : Oper) cs b, ops[j]? = some o → o.op ≠ .select cs b := fun j o cs b ho heq => by
  unfold regOk at h
  rw [List.all_eq_true] at h
  have := h (o, j) (by rw [List.mem_zipIdx_iff_getElem?]; simpa using ho)
  simp only [heq, Bool.and_eq_true] at this
  exact absurd this.1 (by simp)
theorem regOk_free (h : regOk ops = true) {D : Set'} {i : Nat} (hr : Rdy ops D i) : Free ops D i := fun oi hoi j oj hj hji hdj hno => by
  unfold regOk at h
  rw [List.all_eq_true] at h
  have h1 := h (oi, i) (by rw [List.mem_zipIdx_iff_getElem?]; simpa using hoi)
  simp only [Bool.and_eq_true] at h1
  have h2 := h1.2
  rw [List.all_eq_true] at h2
  have h3 := h2 (oj, j) (by rw [List.mem_zipIdx_iff_getElem?]; simpa using hj)
  simp only [Bool.or_eq_true] at h3
  rcases h3 with ((h3 | h3) | h3) | h3
  · exact absurd (Nat.eq_of_beq_eq_true h3).symm hji
  · -- i waits for j: then j has come up
    unfold edgeOn at h3
    rw [List.any_eq_true] at h3
    obtain ⟨e, hm, hb⟩ := h3
    simp only [Bool.and_eq_true] at hb
    obtain ⟨_, o', ho', he⟩ := hr
    rw [hoi] at ho'; injection ho' with ho'; subst ho'
    have := he e (by simpa using hm) hb.1
    rw [Nat.eq_of_beq_eq_true hb.2, hdj] at this
    cases this
  · unfold edgeOn at h3
    rw [List.any_eq_true] at h3
    obtain ⟨e, hm, hb⟩ := h3
    simp only [Bool.and_eq_true] at hb
    exact absurd (Nat.eq_of_beq_eq_true hb.2) (hno e (by simpa using hm) hb.1)
  · exact h3
end
end Go.Sx
/- What a symbolic frame says of a frame. Masks. -/
set_option linter.unusedVariables false
set_option linter.unusedSimpArgs false
namespace Go.Sx
open Go Go.RowKit

/-! ### Masks -/
def mk (d : Nat) : Set' := fun i => d.testBit i
theorem mk_or (d i : Nat) : mk (d ||| 2 ^ i) = upd (mk d) i := by
  funext j
  simp only [mk, upd, Nat.testBit_or, Nat.testBit_two_pow]
  by_cases h : i = j
  · subst h; simp
  · have : (j == i) = false := by simpa using fun e => h e.symm
    simp [h, this]
theorem mk_zero : mk 0 = fun _ => false := by funext i; simp [mk]
theorem land_eq (m d : Nat) : Nat.land m d = m ↔ ∀ k, m.testBit k = true → d.testBit k = true := by
  constructor
  · intro h k hk
    have : (m &&& d).testBit k = m.testBit k := by rw [show m &&& d = Nat.land m d from rfl, h]
    rw [Nat.testBit_and, hk] at this
    simpa using this
  · intro h
    apply Nat.eq_of_testBit_eq
    intro k
    show (m &&& d).testBit k = _
    rw [Nat.testBit_and]
    cases hk : m.testBit k with
    | false => rfl
    | true => simp [h k hk]
theorem fold_bits (f : Edge → Nat) (p : Edge → Bool) : ∀ (l : List Edge) (s k : Nat), (l.foldl (fun s e => bif p e then s ||| f e else s) s).testBit k = true ↔ s.testBit k = true ∨ ∃ e ∈ l, p e = true ∧ (f e).testBit k = true
  | [], s, k => by simp
  | e :: r, s, k => by
    simp only [List.foldl_cons]
    rw [fold_bits f p r]
    cases hp : p e with
    | true => simp [Nat.testBit_or, hp, or_assoc]
    | false => simp [hp]
theorem depMask_bit (o : Oper) (k : Nat) : (depMask o).testBit k = true ↔ ∃ e ∈ o.after, Region.binds .any e = true ∧ e.on = k := by
  unfold depMask
  rw [fold_bits (fun e => 2 ^ e.on) (fun e => Region.binds .any e)]
  simp [Nat.testBit_two_pow]
theorem rdy_mask {ops : Array Oper} {d i : Nat} {o : Oper} (ho : ops[i]? = some o) : Rdy ops (mk d) i ↔ (!d.testBit i && Nat.beq (Nat.land (depMask o) d) (depMask o)) = true := by
  rw [Bool.and_eq_true, Bool.not_eq_true', Nat.beq_eq, land_eq]
  constructor
  · rintro ⟨h0, o', ho', he⟩
    rw [ho] at ho'; injection ho' with ho'; subst ho'
    exact ⟨h0, fun k hk => by obtain ⟨e, hm, hb, rfl⟩ := (depMask_bit o k).1 hk; exact he e hm hb⟩
  · rintro ⟨h0, h⟩
    exact ⟨h0, o, ho, fun e hm hb => h _ ((depMask_bit o e.on).2 ⟨e, hm, hb, rfl⟩)⟩
theorem masks_get (ops : Array Oper) (i : Nat) : (depMasks ops)[i]? = (ops[i]?).map depMask := by simp [depMasks]
theorem readyFrom_ok {ops : Array Oper} {d : Nat} : ∀ (l : List Nat) (p i : Nat), (∀ j m, l[j]? = some m → ∃ o, ops[p + j]? = some o ∧ depMask o = m) → readyFrom d l p = some i → Rdy ops (mk d) i
  | [], _, _, _, h => by simp [readyFrom] at h
  | m :: r, p, i, hl, h => by
    unfold readyFrom at h
    obtain ⟨o, ho, rfl⟩ := hl 0 m rfl
    cases hc : (!d.testBit p && Nat.beq (Nat.land (depMask o) d) (depMask o)) with
    | true =>
      rw [hc] at h
      simp only [cond_true, Option.some.injEq] at h
      subst h
      exact (rdy_mask (by simpa using ho)).2 hc
    | false =>
      rw [hc] at h
      simp only [cond_false] at h
      exact readyFrom_ok r (p + 1) i (fun j m hj => by
        obtain ⟨o', h1, h2⟩ := hl (j + 1) m (by simpa using hj)
        exact ⟨o', by rw [← h1]; congr 1; omega, h2⟩) h
theorem readyAll_ok {ops : Array Oper} {d : Nat} : ∀ (l : List Nat) (p i : Nat), (∀ j m, l[j]? = some m → ∃ o, ops[p + j]? = some o ∧ depMask o = m) → Rdy ops (mk d) i → p ≤ i → i < p + l.length → i ∈ readyAll d l p
  | [], _, _, _, _, h1, h2 => by simp at h2; omega
  | m :: r, p, i, hl, hr, h1, h2 => by
    unfold readyAll
    obtain ⟨o, ho, rfl⟩ := hl 0 m rfl
    have rest : i ≠ p → i ∈ readyAll d r (p + 1) := fun hne => readyAll_ok r (p + 1) i (fun j m hj => by
        obtain ⟨o', h1, h2⟩ := hl (j + 1) m (by simpa using hj)
        exact ⟨o', by rw [← h1]; congr 1; omega, h2⟩) hr (by omega) (by simp at h2; omega)
    by_cases hc : i = p
    · subst hc
      have := (rdy_mask (by simpa using ho)).1 hr
      rw [this]
      simp
    · cases (!d.testBit p && Nat.beq (Nat.land (depMask o) d) (depMask o)) with
      | true => simp [rest hc]
      | false => simp [rest hc]
theorem masks_spec (ops : Array Oper) (p : Nat) : ∀ j m, ((depMasks ops).drop p)[j]? = some m → ∃ o, ops[p + j]? = some o ∧ depMask o = m := fun j m h => by
  rw [List.getElem?_drop, masks_get] at h
  exact Option.map_eq_some_iff.1 h
/-- The forerunners of an operation have come up when it may. -/
theorem ancs_ok {L : Set'} : ∀ (l : List Oper) (acc : List Nat) (pre : List Oper), acc.length = pre.length →
    (∀ (i j : Nat) m, acc[i]? = some m → m.testBit j = true → ∀ o, pre[i]? = some o → (∀ e ∈ o.after, Region.binds .any e = true → L e.on = true) → (∀ (k : Nat) o', pre[k]? = some o' → L k = true → ∀ e ∈ o'.after, Region.binds .any e = true → L e.on = true) → L j = true) →
    ∀ (i j : Nat) m, (ancs l acc)[i]? = some m → m.testBit j = true → ∀ o, (pre ++ l)[i]? = some o → (∀ e ∈ o.after, Region.binds .any e = true → L e.on = true) → (∀ (k : Nat) o', (pre ++ l)[k]? = some o' → L k = true → ∀ e ∈ o'.after, Region.binds .any e = true → L e.on = true) → L j = true
  | [], acc, pre, _, h => by
    intro i j m hm hj o ho hd hc
    rw [List.append_nil] at ho hc
    exact h i j m hm hj o ho hd hc
  | o :: r, acc, pre, hlen, h => by
    intro i j m hm hj o' ho' hd hc
    unfold ancs at hm
    have := ancs_ok (L := L) r (acc ++ [o.after.toList.foldl (fun s e => bif Region.binds .any e then s ||| 2 ^ e.on ||| acc.getD e.on 0 else s) 0]) (pre ++ [o]) (by simp [hlen]) (by
      intro i j m hm hj o2 ho2 hd2 hc2
      by_cases hi : i < acc.length
      · rw [List.getElem?_append_left hi] at hm
        rw [List.getElem?_append_left (by omega)] at ho2
        exact h i j m hm hj o2 ho2 hd2 (fun k o3 hk => hc2 k o3 (by rw [List.getElem?_append_left (List.getElem?_eq_some_iff.1 hk).1]; exact hk))
      · have hi2 : i = acc.length := by
          have := (List.getElem?_eq_some_iff.1 hm).1
          simp at this
          omega
        subst hi2
        rw [List.getElem?_append_right (Nat.le_refl _), Nat.sub_self] at hm
        rw [hlen, List.getElem?_append_right (Nat.le_refl _), Nat.sub_self] at ho2
        simp only [List.getElem?_cons_zero, Option.some.injEq] at hm ho2
        subst hm ho2
        have hj' : (o.after.toList.foldl (fun s e => bif Region.binds .any e then s ||| (2 ^ e.on ||| acc.getD e.on 0) else s) 0).testBit j = true := by
          rw [← hj]
          congr 2
          funext s e
          rw [Nat.or_assoc]
        rcases (fold_bits (fun e => 2 ^ e.on ||| acc.getD e.on 0) (fun e => Region.binds .any e) _ _ _).1 hj' with h0 | ⟨e, hm, hb, hbit⟩
        · simp at h0
        · have hLe := hd2 e (by simpa using hm) hb
          rw [Nat.testBit_or, Nat.testBit_two_pow, Bool.or_eq_true] at hbit
          rcases hbit with hbit | hbit
          · have : e.on = j := by simpa using hbit
            rw [← this]; exact hLe
          · by_cases he : e.on < acc.length
            · have hacc : acc[e.on]? = some (acc.getD e.on 0) := by simp [List.getD, List.getElem?_eq_getElem he]
              have hpre : pre[e.on]? = some (pre[e.on]'(by omega)) := List.getElem?_eq_getElem (by omega)
              refine h e.on j _ hacc hbit _ hpre ?_ (fun k o3 hk => hc2 k o3 (by rw [List.getElem?_append_left (List.getElem?_eq_some_iff.1 hk).1]; exact hk))
              exact hc2 e.on _ (by rw [List.getElem?_append_left (by omega)]; exact hpre) hLe
            · have : acc.getD e.on 0 = 0 := by simp [List.getD, List.getElem?_eq_none (by omega : acc.length ≤ e.on)]
              rw [this] at hbit
              simp at hbit) i j m hm hj o' (by simpa using ho') hd (fun k o3 hk => hc k o3 (by simpa using hk))
    exact this
theorem ancOf_ok {ops : Array Oper} {L : Set'} (hc : Closed ops L) {i j : Nat} (hr : Rdy ops L i) (hj : (ancOf ops i).testBit j = true) : L j = true := by
  obtain ⟨_, o, ho, he⟩ := hr
  unfold ancOf at hj
  cases hm : (ancs ops.toList [])[i]? with
  | none => simp [List.getD, hm] at hj
  | some m =>
    simp only [List.getD, hm, Option.getD_some] at hj
    refine ancs_ok (L := L) ops.toList [] [] rfl (by simp) i j m hm hj o (by simpa using ho) he (fun k o' hk hL => ?_)
    obtain ⟨o2, ho2, he2⟩ := hc k hL
    rw [List.nil_append, Array.getElem?_toList] at hk
    rw [hk] at ho2; injection ho2 with ho2; subst ho2
    exact he2

/-! ### Frames -/
def RndR (E : Env) : Option Nat → Option Nat → Prop
  | none, none => True
  | some l, some b => ∃ e, E[l]? = some e ∧ e.1 = b
  | _, _ => False
def DefR (E : Env) (ι : Val) : List ADef → List Deferred → Prop
  | [], [] => True
  | .coll d :: ds, c :: cs => (∃ e, E[d]? = some e ∧ c = { target := .collected e.1, args := #[] }) ∧ DefR E ι ds cs
  | .fn f as :: ds, c :: cs => (∃ x cap : Array Value, cvs E ι as = some (x.toList ++ cap.toList) ∧ c = { target := .fn (.func f) cap, args := x }) ∧ DefR E ι ds cs
  | _, _ => False
def ModeR (E : Env) (ι : Val) : Option (AV × Bool) → FrameMode → Prop
  | none, m => m = .returning
  | some (v, r), m => ∃ c, cv E ι v = some c ∧ m = .panicking [{ v := c, recovered := r }]
def kindOf (d : Bool) : CallKind := if d then .deferred else .normal
inductive ItR (E : Env) : AIt → Item → Prop
  | code {c} : ItR E (.code c) (.code c)
  | inBlock {id} : ItR E (.inBlock id) (.inBlock id)
  | inLoop {c} : ItR E (.inLoop c) (.inLoop c)
  | reg {ops i} : i ≤ ops.size → ItR E (.reg ops i (ops.toList.drop i)) (.inRegion ops (List.range' i (ops.size - i)))
  | inRange {l e} : E[l]? = some e → ItR E (.inRange l) (.inRangeFunc e.1)
  | endRange {l e} : E[l]? = some e → ItR E (.endRange l) (.endRangeFunc e.1)
  | beginRound : ItR E .beginRound .beginRound
inductive ItsR (E : Env) : List AIt → List Item → Prop
  | nil : ItsR E [] []
  | cons {a c k k'} : ItR E a c → ItsR E k k' → ItsR E (a :: k) (c :: k')
def pbOf (E : Env) (pend : List (Nat × List Nat)) : Nat → Nat → Prop := fun j b => ∃ ns, (j, ns) ∈ pend ∧ ∃ n ∈ ns, ∃ e, E[n]? = some e ∧ e.1 = b
structure AnyR (P : Program) (E : Env) (w : World) (ops : Array Oper) (ok : Bool) (done : Nat) (pend : List (Nat × List Nat)) (l : List Nat) (C V : Array Value) (L : Set') : Prop where
  sel : ∀ (j : Nat) (o : Oper) cs b, ops[j]? = some o → o.op ≠ .select cs b
  ok_ : ok = true → regOk ops = true
  closed : Closed ops L
  lin : Lin ops L l
  ah : Ah P ops w (pbOf E pend) L ⟨C, []⟩ (mk done) ⟨V, []⟩
def TodoR (P : Program) (E : Env) (w : World) (todo : List AIt) (ct : List Item) (C V : Array Value) : Prop :=
  match todo with
  | .any ops ok done _ pend cur :: k => ∃ l k' L, ct = .inRegion ops l :: k' ∧ ItsR E k k' ∧ AnyR P E w ops ok done pend l C V L ∧ (match cur with | none => True | some i => (∃ l', l = i :: l') ∧ mk done i = false)
  | todo => C = V ∧ ItsR E todo ct
structure FR (P : Program) (E : Env) (ι : Val) (w : World) (f : AFr) (fr : Frame) (b : Frame) (a : Act) (ct : List Item) (V : Array Value) : Prop where
  frame : (f.ret = false → fr = b.atR a ct) ∧ (f.ret = true → ∃ m, ModeR E ι f.pan m ∧ fr = { b.atR a ct with mode := m })
  fn : b.fn = f.fn
  kind : b.kind = kindOf f.dfr
  rnd : RndR E f.rnd b.roundOf
  defs : DefR E ι f.defers a.defers
  tm : TMR E ι f.tm V
  todo : TodoR P E w f.todo ct a.tmps V
  ret : f.ret = true → a.tmps = V ∧ ItsR E f.todo ct
def FRel (P : Program) (E : Env) (ι : Val) (w : World) (f : AFr) (fr : Frame) : Prop := ∃ b a ct V, FR P E ι w f fr b a ct V
inductive FRs (P : Program) (E : Env) (ι : Val) (w : World) : List AFr → List Frame → Prop
  | nil : FRs P E ι w [] []
  | cons {f fr fs frs} : FRel P E ι w f fr → FRs P E ι w fs frs → FRs P E ι w (f :: fs) (fr :: frs)
section
variable {P : Program} {E E' : Env} {ι : Val} {w w2 : World}
theorem RndR.ext (h : Ext E E') {x y : Option Nat} (g : RndR E x y) : RndR E' x y := by
  cases x <;> cases y <;> first | exact g | (obtain ⟨e, a, b⟩ := g; exact ⟨e, h _ _ a, b⟩)
theorem DefR.ext (h : Ext E E') : ∀ {x : List ADef} {y : List Deferred}, DefR E ι x y → DefR E' ι x y
  | [], [], _ => trivial
  | [], _ :: _, g => g.elim
  | .coll _ :: _, [], g => g.elim
  | .fn _ _ :: _, [], g => g.elim
  | .coll _ :: _, _ :: _, ⟨⟨e, a, b⟩, g⟩ => ⟨⟨e, h _ _ a, b⟩, DefR.ext h g⟩
  | .fn _ _ :: _, _ :: _, ⟨⟨x, c, a, b⟩, g⟩ => ⟨⟨x, c, cvs_ext h _ _ a, b⟩, DefR.ext h g⟩
theorem ModeR.ext (h : Ext E E') {p : Option (AV × Bool)} {m : FrameMode} (g : ModeR E ι p m) : ModeR E' ι p m := by
  cases p with
  | none => exact g
  | some x => obtain ⟨c, a, b⟩ := g; exact ⟨c, cv_ext h _ _ a, b⟩
theorem ItR.ext (h : Ext E E') {x : AIt} {y : Item} (g : ItR E x y) : ItR E' x y := by
  cases g with
  | code => exact .code
  | inBlock => exact .inBlock
  | inLoop => exact .inLoop
  | reg hi => exact .reg hi
  | inRange he => exact .inRange (h _ _ he)
  | endRange he => exact .endRange (h _ _ he)
  | beginRound => exact .beginRound
theorem ItsR.ext (h : Ext E E') {x : List AIt} {y : List Item} (g : ItsR E x y) : ItsR E' x y := by
  induction g with
  | nil => exact .nil
  | cons a _ ih => exact .cons (a.ext h) ih
theorem mem_pendNames {pend : List (Nat × List Nat)} {j n : Nat} {ns : List Nat} (h : (j, ns) ∈ pend) (hn : n ∈ ns) : n ∈ pendNames pend := by
  induction pend with
  | nil => cases h
  | cons p r ih =>
    unfold pendNames
    rcases List.mem_cons.1 h with h | h
    · subst h; exact List.mem_append_left _ hn
    · exact List.mem_append_right _ (ih h)
/-- Sheltered blocks stay. -/
def Sheltered (E : Env) (ns : List Nat) (w w2 : World) : Prop := ∀ n ∈ ns, ∀ e, E[n]? = some e → w2.heap[e.1]? = w.heap[e.1]?
theorem AnyR.later {ops : Array Oper} {ok : Bool} {done : Nat} {pend : List (Nat × List Nat)} {l : List Nat} {C V : Array Value} {L : Set'} (h : AnyR P E w ops ok done pend l C V L) (hE : Ext E E') (hw : Sheltered E (pendNames pend) w w2) : AnyR P E' w2 ops ok done pend l C V L :=
  ⟨h.sel, h.ok_, h.closed, h.lin, (h.ah.world (fun j b ⟨ns, hm, n, hn, e, he, hb⟩ => hb ▸ hw n (mem_pendNames hm hn) e he)).more fun j b ⟨ns, hm, n, hn, e, he, hb⟩ => ⟨ns, hm, n, hn, e, hE _ _ he, hb⟩⟩
theorem TodoR.later {todo : List AIt} {ct : List Item} {C V : Array Value} (h : TodoR P E w todo ct C V) (hE : Ext E E') (hw : ∀ ops ok done pos pend cur k, todo = .any ops ok done pos pend cur :: k → Sheltered E (pendNames pend) w w2) : TodoR P E' w2 todo ct C V := by
  unfold TodoR at *
  split at h
  · rename_i ops ok done pos pend cur k
    obtain ⟨l, k', L, rfl, hk, ha, hc⟩ := h
    exact ⟨l, k', L, rfl, hk.ext hE, ha.later hE (hw _ _ _ _ _ _ _ rfl), hc⟩
  · exact ⟨h.1, h.2.ext hE⟩
theorem framePend_any {f : AFr} {ops : Array Oper} {ok : Bool} {done pos : Nat} {pend : List (Nat × List Nat)} {cur : Option Nat} {k : List AIt} (h : f.todo = .any ops ok done pos pend cur :: k) : framePend f = pendNames pend := by
  unfold framePend; rw [h]
theorem FRel.later {f : AFr} {fr : Frame} (h : FRel P E ι w f fr) (hE : Ext E E') (hw : Sheltered E (framePend f) w w2) : FRel P E' ι w2 f fr := by
  obtain ⟨b, a, ct, V, g⟩ := h
  exact ⟨b, a, ct, V, ⟨g.frame.1, fun hx => by obtain ⟨m, h1, h2⟩ := g.frame.2 hx; exact ⟨m, h1.ext hE, h2⟩⟩, g.fn, g.kind, g.rnd.ext hE, g.defs.ext hE, TMR_ext hE g.tm, g.todo.later hE (fun _ _ _ _ _ _ _ ht => by rw [← framePend_any ht]; exact hw), fun hx => ⟨(g.ret hx).1, (g.ret hx).2.ext hE⟩⟩
theorem FRs.later {fs : List AFr} {frs : List Frame} (h : FRs P E ι w fs frs) (hE : Ext E E') (hw : Sheltered E (stackPend fs) w w2) : FRs P E' ι w2 fs frs := by
  induction h with
  | nil => exact .nil
  | @cons f fr fs frs hf _ ih =>
    refine .cons (hf.later hE fun n hn => hw n ?_) (ih fun n hn => hw n ?_)
    · unfold stackPend; exact List.mem_append_left _ hn
    · unfold stackPend; exact List.mem_append_right _ hn
end
end Go.Sx
/- One step of the symbolic machine is some steps of the machine. -/
set_option linter.unusedSimpArgs false
set_option linter.unusedVariables false
namespace Go.Sx
open Go Go.RowKit
section
variable {P : Program} {E E' : Env} {ι : Val} {w w2 : World} {B : Base} {w0 : World}
/-- The symbolic machine says of the machine what it is. -/
def MR (P : Program) (B : Base) (w0 : World) (ι : Val) (base : List Frame) (A : AM) (M : Machine) : Prop :=
  ∃ E w fr cs, M = lone fr (cs ++ base) w ∧ HR B w0 E ι A.H w ∧ FRel P E ι w A.top fr ∧ FRs P E ι w A.below cs
theorem MR.mk {base : List Frame} {A : AM} {fr : Frame} {cs : List Frame} (h1 : HR B w0 E ι A.H w) (h2 : FRel P E ι w A.top fr) (h3 : FRs P E ι w A.below cs) : MR P B w0 ι base A (lone fr (cs ++ base) w) := ⟨E, w, fr, cs, rfl, h1, h2, h3⟩

/-! ### An operation in the machine -/
theorem aEarly_nodefer {H : AH} {tm : TM} {o : Oper} {r : AV × List Nat} (h : aEarly P H tm o.op = some r) : ∀ c, o.op ≠ .defer c := fun c e => by rw [e] at h; simp [aEarly] at h
theorem aW_nodefer {H : AH} {tm : TM} {o : Oper} {r : List AR} (h : aW P H tm o.op = some r) : ∀ c, o.op ≠ .defer c := fun c e => by rw [e] at h; simp [aW] at h
section steps
variable {b : Frame} {a : Act} {k : List Item} {cs : List Frame} {ops : Array Oper} {i : Nat} {rest : List Nat} {o : Oper} {w' : World}
theorem op_value (ho : ops[i]? = some o) (hw : Region.wanted o (yielded ops a.tmps) = true) (hd : ∀ c, o.op ≠ .defer c) {v : Value} (hr : (execOp a.eval o).run P w = .ok (.value v) w') :
    step P (lone (b.atR a (.inRegion ops (i :: rest) :: k)) cs w) = .next (lone ((b.atR a (.inRegion ops (i :: rest) :: k)).finish v) cs w') :=
  step_lone_go (by rw [stepGR_op ho hw, Oper.semAt_eq _ _ _ hd]; simp [stepG.apply, hr])
theorem op_skip (ho : ops[i]? = some o) (hw : Region.wanted o (yielded ops a.tmps) = true) (hd : ∀ c, o.op ≠ .defer c) (hr : (execOp a.eval o).run P w = .ok .skip w') :
    step P (lone (b.atR a (.inRegion ops (i :: rest) :: k)) cs w) = .next (lone ((b.atR a (.inRegion ops (i :: rest) :: k)).finish undef) cs w') :=
  step_lone_go (by rw [stepGR_op ho hw, Oper.semAt_eq _ _ _ hd]; simp [stepG.apply, hr])
theorem op_enter (ho : ops[i]? = some o) (hw : Region.wanted o (yielded ops a.tmps) = true) (hd : ∀ c, o.op ≠ .defer c) {f : FuncId} {args : Array Value} (hr : (execOp a.eval o).run P w = .ok (.enter f args) w') :
    step P (lone (b.atR a (.inRegion ops (i :: rest) :: k)) cs w) = .next (lone (Frame.enter P f args .normal) (b.atR a (.inRegion ops (i :: rest) :: k) :: cs) w') :=
  step_lone_go (by rw [stepGR_op ho hw, Oper.semAt_eq _ _ _ hd]; simp [stepG.apply, hr, Frame.atR])
theorem op_round (ho : ops[i]? = some o) (hw : Region.wanted o (yielded ops a.tmps) = true) (hd : ∀ c, o.op ≠ .defer c) {l : Nat} {f : FuncId} {tmps : Array Value} {x y : Code} (hr : (execOp a.eval o).run P w = .ok (.round l f tmps x y) w') :
    step P (lone (b.atR a (.inRegion ops (i :: rest) :: k)) cs w) = .next (lone (Frame.round l f tmps x y .normal) (b.atR a (.inRegion ops (i :: rest) :: k) :: cs) w') :=
  step_lone_go (by rw [stepGR_op ho hw, Oper.semAt_eq _ _ _ hd]; simp [stepG.apply, hr, Frame.atR])
theorem op_defer (hb : b.roundOf = none) (ho : ops[i]? = some o) (hw : Region.wanted o (yielded ops a.tmps) = true) {d : Deferred} (hr : (execOp a.eval o).run P w = .ok (.defer d) w') :
    step P (lone (b.atR a (.inRegion ops (i :: rest) :: k)) cs w) = .next (lone ((b.atR ⟨a.tmps, d :: a.defers⟩ (.inRegion ops (i :: rest) :: k)).finish undef) cs w') :=
  step_lone_go (by rw [stepGR_op ho hw, hb, Oper.semAt_none]; simp [stepG.apply, hr, Frame.atR])
theorem op_recover (hb : b.roundOf = none) (ho : ops[i]? = some o) (hw : Region.wanted o (yielded ops a.tmps) = true) (hr : (execOp a.eval o).run P w = .ok .recover w') (ht : tryRecover (b.atR a (.inRegion ops (i :: rest) :: k)) cs = none) :
    step P (lone (b.atR a (.inRegion ops (i :: rest) :: k)) cs w) = .next (lone ((b.atR a (.inRegion ops (i :: rest) :: k)).finish .nilIface) cs w') :=
  step_lone_go (by
    rw [stepGR_op ho hw, hb, Oper.semAt_none]
    have hro : (b.atR a (.inRegion ops (i :: rest) :: k)).roundOf = none := hb
    simp only [stepG.apply, Sem.runT_eq, hr, hro, ht]
    simp)
theorem op_recovered (hb : b.roundOf = none) (ho : ops[i]? = some o) (hw : Region.wanted o (yielded ops a.tmps) = true) (hr : (execOp a.eval o).run P w = .ok .recover w') {v : Value} {cs' : List Frame} (ht : tryRecover (b.atR a (.inRegion ops (i :: rest) :: k)) cs = some (v, cs')) :
    step P (lone (b.atR a (.inRegion ops (i :: rest) :: k)) cs w) = .next (lone ((b.atR a (.inRegion ops (i :: rest) :: k)).finish v) cs' w') :=
  step_lone_go (by
    rw [stepGR_op ho hw, hb, Oper.semAt_none]
    have hro : (b.atR a (.inRegion ops (i :: rest) :: k)).roundOf = none := hb
    simp only [stepG.apply, Sem.runT_eq, hr, hro, ht]
    simp)
theorem op_panic (ho : ops[i]? = some o) (hw : Region.wanted o (yielded ops a.tmps) = true) (hd : ∀ c, o.op ≠ .defer c) {v : Value} (hr : (execOp a.eval o).run P w = .halt (.panic v) w') :
    step P (lone (b.atR a (.inRegion ops (i :: rest) :: k)) cs w) = .next (lone { b.atR a (.inRegion ops (i :: rest) :: k) with mode := .panicking [{ v := v, recovered := false }] } cs w') :=
  step_lone_go (by rw [stepGR_op ho hw, Oper.semAt_eq _ _ _ hd]; simp [stepG.apply, hr, Frame.raise, Frame.atR])
theorem op_unwanted (ho : ops[i]? = some o) (hw : Region.wanted o (yielded ops a.tmps) = false) :
    step P (lone (b.atR a (.inRegion ops (i :: rest) :: k)) cs w) = .next (lone ((b.atR a (.inRegion ops (i :: rest) :: k)).finish undef) cs w) := by
  rw [Frame.finish_atR]
  exact stepR_op_skip (by rw [ho]; simpa using hw)
end steps
theorem YOn.step {b : Frame} {a : Act} {k : List Item} {cs : List Frame} {ops : Array Oper} {i : Nat} {rest : List Nat} {o : Oper} {v : Value} {bs : Nat → Prop} (h : YOn P ops w o v a bs) (ho : ops[i]? = some o) (hd : ∀ c, o.op ≠ .defer c) :
    step P (lone (b.atR a (.inRegion ops (i :: rest) :: k)) cs w) = .next (lone ((b.atR a (.inRegion ops (i :: rest) :: k)).finish v) cs w) := by
  rcases h with ⟨h1, h2⟩ | ⟨h1, rfl⟩
  · exact op_value ho h1 hd (h2 w fun _ _ => rfl)
  · exact op_unwanted ho h1

/-! ### What is wanted -/
theorem aWanted_ok {pc : List (SB × Bool)} (hpc : ∀ x ∈ pc, x.1.den ι = x.2) {tm : TM} {V : Array Value} (ht : TMR E ι tm V) {ops : Array Oper} {o : Oper} {x : Bool} (h : aWanted pc ops tm o = some x) : Region.wanted o (yielded ops V) = x := by
  unfold aWanted at h
  unfold Region.wanted
  cases hg : o.guard with
  | none => rw [hg] at h; simpa using h
  | some gw =>
    obtain ⟨j, want⟩ := gw
    rw [hg] at h
    simp only at h ⊢
    have hop : opAt ops j = ops[j]? := by simp [opAt]
    rw [hop] at h
    cases hd : (ops[j]?).bind (·.dst) with
    | none =>
      rw [hd] at h
      simp only [Option.some.injEq] at h
      subst h
      simp [yielded, hd]
    | some d =>
      rw [hd] at h
      simp only at h
      have hv := ht.2 d
      unfold yielded
      rw [hd]
      simp only [Option.bind_some]
      cases hx : V[d]? with
      | none =>
        have hun : V.getD d undef = undef := by simp [Array.getD_eq_getD_getElem?, hx]
        rw [hun] at hv
        split at h
        · rename_i b hb; rw [hb] at hv; simp [cv, undef] at hv
        · cases h
        · rename_i s pos hb; rw [hb] at hv; simp [cv, undef] at hv
        · simp only [Option.some.injEq] at h; subst h; simp
      | some y =>
        have hy : V.getD d undef = y := by simp [Array.getD_eq_getD_getElem?, hx]
        rw [hy] at hv
        split at h
        · rename_i b hb
          rw [hb] at hv
          simp only [cv, Option.some.injEq] at hv
          simp only [Option.some.injEq] at h
          subst hv h
          cases b <;> cases want <;> rfl
        · cases h
        · rename_i s pos hb
          rw [hb] at hv
          simp only [cv, Option.some.injEq] at hv
          obtain ⟨v, hv2, rfl⟩ := Option.map_eq_some_iff.1 h
          rw [← hv, pcFind_ok hpc hv2]
          cases v <;> cases pos <;> cases want <;> rfl
        · rename_i hn1 hn2 hn3
          simp only [Option.some.injEq] at h
          subst h
          have : ∀ b, y ≠ .bool b := by
            rintro b rfl
            cases hq : tm.get d <;> rw [hq] at hv <;> simp [cv, Option.bind_eq_some_iff, Option.map_eq_some_iff] at hv
            · exact hn1 _ hq
            · exact hn2 _ hq
            · exact hn3 _ _ hq
          cases y <;> first | rfl | exact absurd rfl (this _)

/-! ### A frame goes on with a value -/
theorem aPut_ok {tm : TM} {a : Act} (h : TMR E ι tm a.tmps) {v : AV} {c : Value} (hv : cv E ι v = some c) (d : Option Tmp) : TMR E ι (aPut tm d v) (a.put d c).tmps := by
  cases d with
  | none => exact h
  | some d => exact TMR_set h hv d
theorem opAt_eq (ops : Array Oper) (i : Nat) : opAt ops i = ops[i]? := by simp [opAt]
theorem put_tmps (a : Act) (d : Option Tmp) (v : Value) : (a.put d v).tmps = ((⟨a.tmps, []⟩ : Act).put d v).tmps := by cases d <;> rfl
theorem put_defers (a : Act) (d : Option Tmp) (v : Value) : (a.put d v).defers = a.defers := by cases d <;> rfl
theorem act_put (C : Array Value) (d : Option Tmp) (v : Value) : (⟨C, []⟩ : Act).put d v = ⟨((⟨C, []⟩ : Act).put d v).tmps, []⟩ := by cases d <;> rfl
theorem finish_ok {c c' : AFr} {fr : Frame} (h : FRel P E ι w c fr) (hret : c.ret = false) {v : AV} {val : Value} (hv : cv E ι v = some val) (hf : c.finish v = some c') : FRel P E ι w c' (fr.finish val) ∧ c'.ret = false := by
  obtain ⟨b, a, ct, V, g⟩ := h
  have gf := g.frame.1 hret
  have gt := g.todo
  unfold AFr.finish at hf
  split at hf
  · rename_i ops i o r k ht
    rw [ht] at gt
    obtain ⟨hV, hits⟩ := gt
    cases hits with
    | @cons _ _ _ kk hit hk =>
      generalize hre : (o :: r) = rr at hit
      cases hit with
      | reg hi =>
        have hlt : i < ops.size := by
          rcases Nat.lt_or_ge i ops.size with h | h
          · exact h
          · rw [List.drop_eq_nil_of_le (by simpa using h)] at hre; cases hre
        have hdrop : ops.toList.drop i = ops.toList[i]'(by simpa using hlt) :: ops.toList.drop (i + 1) := List.drop_eq_getElem_cons (by simpa using hlt)
        rw [hdrop] at hre
        injection hre with ho hr
        have hoi : ops[i]? = some o := by rw [Array.getElem?_eq_getElem hlt, ho]; simp
        have hrange : List.range' i (ops.size - i) = i :: List.range' (i + 1) (ops.size - (i + 1)) := by
          rw [show ops.size - i = (ops.size - (i + 1)) + 1 by omega, List.range'_succ]
        rw [hrange] at gf
        simp only [Option.some.injEq] at hf
        subst hf
        refine ⟨⟨b, a.put o.dst val, .inRegion ops (List.range' (i + 1) (ops.size - (i + 1))) :: kk, (a.put o.dst val).tmps, ?_⟩, hret⟩
        refine ⟨?_, g.fn, g.kind, g.rnd, by rw [put_defers]; exact g.defs, aPut_ok (by rw [hV]; exact g.tm) hv _, ⟨rfl, .cons (by rw [hr]; exact .reg (by omega)) hk⟩, fun hx => by rw [show c.ret = false from hret] at hx; cases hx⟩
        refine ⟨fun _ => ?_, fun hx => by rw [show c.ret = false from hret] at hx; cases hx⟩
        rw [gf, Frame.finish_atR, hoi]
        rfl
  · rename_i ops ok done pos pend i k ht
    rw [ht] at gt
    obtain ⟨l, k', L, rfl, hk, ha, ⟨l', rfl⟩, hdi⟩ := gt
    simp only [Option.some.injEq] at hf
    subst hf
    have hr := ha.lin.1
    obtain ⟨_, o, ho, _⟩ := id hr
    have hst := (ha.ah.step ha.sel ho hr).1 hdi
    refine ⟨⟨b, a.put o.dst val, .inRegion ops l' :: k', ((⟨V, []⟩ : Act).put o.dst val).tmps, ?_⟩, hret⟩
    refine ⟨?_, g.fn, g.kind, g.rnd, by rw [put_defers]; exact g.defs, ?_, ?_, fun hx => by rw [hret] at hx; cases hx⟩
    · refine ⟨fun _ => ?_, fun hx => by rw [show c.ret = false from hret] at hx; cases hx⟩
      rw [gf, Frame.finish_atR, ho]
      rfl
    · rw [opAt_eq, ho]
      exact aPut_ok (a := ⟨V, []⟩) g.tm hv _
    · refine ⟨l', k', upd L i, rfl, hk, ⟨ha.sel, ha.ok_, ha.closed.upd hr, ha.lin.2, ?_⟩, trivial⟩
      have h2 := hst.2 val
      rw [mk_or, put_tmps, ← act_put, ← act_put]
      exact h2
  · rename_i l k ht
    rw [ht] at gt
    obtain ⟨hV, hits⟩ := gt
    cases hits with
    | @cons _ _ _ kk hit hk =>
      cases hit with
      | @inRange _ e he =>
        simp only [Option.some.injEq] at hf
        subst hf
        refine ⟨⟨b, a, .endRangeFunc e.1 :: kk, V, ?_⟩, hret⟩
        refine ⟨?_, g.fn, g.kind, g.rnd, g.defs, g.tm, ⟨hV, .cons (.endRange he) hk⟩, fun hx => by rw [show c.ret = false from hret] at hx; cases hx⟩
        refine ⟨fun _ => ?_, fun hx => by rw [show c.ret = false from hret] at hx; cases hx⟩
        rw [gf, finish_atR_inRangeFunc]
  · cases hf

/-! ### An operation, carried out -/
theorem sheltered_of {H : AH} {ns touched : List Nat} (hh : HR B w0 E ι H w) (hok : apartOk H ns touched = true) (ht : Touch E (touched.take 1) w w2) : Sheltered E ns w w2 := fun p hp e he => by
  have hin := hh.inb p e he
  unfold apartOk at hok
  rw [Bool.or_eq_true] at hok
  rcases hok with hok | hok
  · have : ns = [] := by simpa using hok
    subst this; cases hp
  · cases touched with
    | nil => exact ht e.1 hin (fun m hm => by cases hm)
    | cons n r =>
      simp only at hok
      rw [Bool.and_eq_true] at hok
      obtain ⟨h1, h2⟩ := hok
      cases hg : H.get n with
      | none => rw [hg] at h1; cases h1
      | some o =>
        rw [hg] at h1
        simp only [Bool.and_eq_true, Bool.not_eq_true'] at h1
        obtain ⟨hv, hold⟩ := h1
        rw [List.all_eq_true] at h2
        have h3 := h2 p hp
        simp only [Bool.and_eq_true, Bool.not_eq_true', Option.isSome_iff_exists] at h3
        obtain ⟨hnc, op, hop⟩ := h3
        refine ht e.1 hin fun m hm em hem heq => ?_
        simp only [List.take_succ_cons, List.take_zero, List.mem_singleton] at hm
        subst hm
        have hpm : p ≠ m := fun h => by subst h; simp at hnc
        have := (hh.sep m p o op em e hg hop (Ne.symm hpm) hem he heq).2 hv
        rw [this] at hold
        simp only at hold
        have : (m :: r).contains p = true := by simpa using hold
        rw [this] at hnc
        cases hnc
theorem setAll_ok : ∀ (as : List AV) (cs : List Value) (tm : TM) (C : Array Value) (i : Nat), TMR E ι tm C → cvs E ι as = some cs → i + as.length ≤ C.size → TMR E ι (setAll tm i as) (seg C i cs)
  | [], cs, tm, C, i, h, hc, _ => by
    rw [cvs_nil] at hc; injection hc with hc; subst hc
    exact h
  | a :: as, cs, tm, C, i, h, hc, hl => by
    obtain ⟨x, y, h1, h2, rfl⟩ := cvs_cons.1 hc
    unfold setAll seg
    exact setAll_ok as y _ _ (i + 1) (TMR_set h h1 i) h2 (by simp at hl ⊢; omega)
theorem enterFr_ok {f : FuncId} {args : List AV} {cs : List Value} (hc : cvs E ι args = some cs) {fr : AFr} (h : enterFr P f args = some fr) : FRel P E ι w fr (Frame.enter P f cs.toArray .normal) := by
  unfold enterFr at h
  split at h
  · rename_i fn hfn
    split at h
    · rename_i c hbody
      simp only [Option.some.injEq] at h
      subst h
      have hlen := (cvs_get hc).1
      let C0 : Array Value := Array.replicate (if args.length < fn.ntmps then fn.ntmps else args.length) undef
      have h0 : TMR E ι (⟨.leaf, if args.length < fn.ntmps then fn.ntmps else args.length⟩ : TM) C0 := by
        refine ⟨by simp [C0], fun i => ?_⟩
        have e1 : (⟨.leaf, if args.length < fn.ntmps then fn.ntmps else args.length⟩ : TM).get i = .tuple [] := by simp [TM.get, Tr.get_leaf]
        rw [e1]
        have e2 : C0.getD i undef = undef := by
          simp only [C0, Array.getD_eq_getD_getElem?, Array.getElem?_replicate]
          split <;> (first | rfl | (split <;> rfl))
        rw [e2]
        simp [cv, cvs, undef]
      have h1 := setAll_ok args cs _ _ 0 h0 hc (by simp [C0]; split <;> omega)
      have harr : seg C0 0 cs = cs.toArray ++ Array.replicate (fn.ntmps - cs.toArray.size) undef := by
        apply Array.ext_getElem?
        intro i
        rw [seg_get _ _ _ _ (by simp [C0]; split <;> omega)]
        rw [Array.getElem?_append]
        by_cases hi : i < cs.length
        · rw [if_pos ⟨by omega, by omega⟩, if_pos (by simpa using hi)]
          simp
        · rw [if_neg (by omega), if_neg (by simpa using hi)]
          simp only [C0, Array.getElem?_replicate, List.size_toArray]
          by_cases h2 : args.length < fn.ntmps
          · rw [if_pos h2]
            by_cases h3 : i < fn.ntmps
            · rw [if_pos h3, if_pos (by omega)]
            · rw [if_neg h3, if_neg (by omega)]
          · rw [if_neg h2, if_neg (by omega), if_neg (by omega)]
      let b : Frame := { (default : Frame) with fn := f, kind := .normal, roundOf := none }
      refine ⟨b, ⟨seg C0 0 cs, []⟩, [.code c], seg C0 0 cs, ?_⟩
      refine ⟨?_, rfl, rfl, trivial, trivial, h1, ⟨rfl, .cons .code .nil⟩, fun hx => by cases hx⟩
      simp only [Bool.false_eq_true, if_false]
      rw [harr]
      simp [Frame.enter, hfn, hbody, Frame.atR, b]
    · cases h
  · cases h
/-- The frame of a deferred call. -/
theorem FRel.dfr {f : AFr} {fr : Frame} (h : FRel P E ι w f fr) (hret : f.ret = false) : FRel P E ι w { f with dfr := true } { fr with kind := .deferred } := by
  obtain ⟨b, a, ct, V, g⟩ := h
  refine ⟨{ b with kind := .deferred }, a, ct, V, ⟨fun _ => ?_, fun hx => ?_⟩, g.fn, rfl, g.rnd, g.defs, g.tm, g.todo, fun hx => ?_⟩
  · rw [g.frame.1 hret]; rfl
  · rw [show f.ret = false from hret] at hx; cases hx
  · rw [show f.ret = false from hret] at hx; cases hx
theorem enterFr_ret {f : FuncId} {args : List AV} {fr : AFr} (h : enterFr P f args = some fr) : fr.ret = false := by
  unfold enterFr at h
  split at h
  · split at h
    · simp only [Option.some.injEq] at h; subst h; rfl
    · cases h
  · cases h
theorem enterFrD_ok {f : FuncId} {args : List AV} {cs : List Value} (hc : cvs E ι args = some cs) {fr : AFr} (h : enterFr P f args = some fr) : FRel P E ι w { fr with dfr := true } (Frame.enter P f cs.toArray .deferred) :=
  (enterFr_ok hc h).dfr (enterFr_ret h)
end
end Go.Sx
