/- Stores; maps written, walked over; calls. -/
import Derived.Test.YtlkjbijklgdocaaSxJ
namespace Go.Sx
open Go Go.RowKit
section
variable {P : Program} {E : Env} {ι : Nat → Value} {tm : TM} {ρ : Operand → Value} {B : Nat} {w0 w : World} {H : AH} {o : Oper}
theorem RowR.seg {cells : List AV} {t : TypeId} {ex : Bool} {e : Nat × Nat × Nat} {cs : Array Value} {fz : Nat × Nat} (hr : RowR E ι cells t ex e cs fz) {vs : List AV} {ws : List Value} (hv : cvs E ι vs = some ws) {off : Nat} (h : off + vs.length ≤ cells.length) :
    RowR E ι (setAt cells off vs) t ex e (Sx.seg cs (e.2.1 + off) ws) fz := by
  obtain ⟨v1, v2⟩ := cvs_get hv
  have hl := hr.len
  have hf := hr.fits
  have hsz : e.2.1 + off + ws.length ≤ cs.size := by omega
  refine ⟨fun i v hi => ?_, by rw [setAt_len _ _ _ h]; exact hl, by rw [seg_size]; exact hf, fun hx => by rw [setAt_len _ _ _ h]; exact hr.exact hx, fun i hi => hr.free i (by rw [seg_size] at hi; exact hi)⟩
  rw [setAt_get _ _ _ _ h] at hi
  rw [seg_get _ _ _ _ hsz]
  by_cases c : off ≤ i ∧ i < off + vs.length
  · rw [if_pos c] at hi
    rw [if_pos (by omega)]
    obtain ⟨x, a, b⟩ := v2 _ _ hi
    refine ⟨x, a, ?_⟩
    rw [← b]
    congr 1
    omega
  · rw [if_neg c] at hi
    rw [if_neg (by omega)]
    exact hr.at_ i v hi
theorem singles_one (hι : Scalars ι) {vs : List AV} {ws : List Value} (hv : cvs E ι vs = some ws) (hs : vs.all AV.single = true) : ∀ v ∈ ws, v.oneCell' = true := by
  induction vs generalizing ws with
  | nil => rw [cvs_nil] at hv; injection hv with hv; subst hv; simp
  | cons x r ih =>
    obtain ⟨a, b, h1, h2, rfl⟩ := cvs_cons.1 hv
    simp only [List.all_cons, Bool.and_eq_true] at hs
    intro v hv
    rcases List.mem_cons.1 hv with rfl | hv
    · exact cv_single hι h1 hs.1
    · exact ih h2 hs.2 v hv
/-- A segment of a row that is owned is written. -/
theorem rowWrite (hι : Scalars ι) (hh : HR B w0 E ι H w) {n : Nat} {cells : List AV} {t : TypeId} {ex : Bool} {old : Option Nat} (hg : H.get n = some (.row cells t ex (.own old))) {e : Nat × Nat × Nat} (he : E[n]? = some e)
    {vs : List AV} {ws : List Value} (hv : cvs E ι vs = some ws) (hs : ∀ v ∈ ws, v.oneCell' = true) {off : Nat} (h : off + vs.length ≤ cells.length) :
    ∃ ob, (storeCells ⟨e.1, e.2.1 + off, none⟩ ws).run P w = .ok () { w with heap := w.heap.setIfInBounds e.1 ob } ∧ HR B w0 E ι (H.write n (setAt cells off vs) t ex old) { w with heap := w.heap.setIfInBounds e.1 ob } := by
  obtain ⟨e', he', hr⟩ := hh.obj n _ hg
  rw [he] at he'; injection he' with he'; subst he'
  generalize hob : w.heap[e.1]? = ob at hr
  cases hr with
  | @row _ _ _ _ _ cs fz hr =>
    have hl := hr.len
    have hf := hr.fits
    have h1 := (cvs_get hv).1
    have hrun := run_storeSeg (P := P) ws w cs (e.2.1 + off) 0 hob (by omega) hr.free hs
    refine ⟨_, hrun, ?_⟩
    have := hh.put hg rfl he (.row (setAt cells off vs) t ex (.own none)) _ (.row (hr.seg hv h))
    exact this
theorem wStore_ok (hι : Scalars ι) (hh : HR B w0 E ι H w) (hρ : Opv E ι tm ρ) {t : TypeId} {a x : Operand} (ho : o.op = .store t a x) {rs : List AR} (h : wStore P H tm t a x = some rs) : WOk P B w0 E ι w (execOp ρ o) rs := by
  unfold wStore at h
  split at h
  · rename_i n off v ha hx
    obtain ⟨r, hr, rfl⟩ := Option.map_eq_some_iff.1 h
    unfold aStore at hr
    split at hr
    · rename_i cells t' ex old k hg hk
      split at hr
      · rename_i hc
        simp only [Bool.and_eq_true, decide_eq_true_eq] at hc
        obtain ⟨⟨c1, c2⟩, c3⟩ := hc
        simp only [Option.some.injEq] at hr; subst hr
        have h1 := hρ a _ ha
        have h2 := hρ x _ hx
        simp only [cv, Option.map_eq_some_iff] at h1
        obtain ⟨e, he, h1⟩ := h1
        have hcc := cv_cells hι h2
        have hone := singles_one hι hcc c3
        obtain ⟨ob, hrun, hH⟩ := rowWrite (P := P) hι hh hg he hcc hone (off := off) (by omega)
        have hsz : (ρ x).cells.size = k := by have := (cvs_get hcc).1; simp at this; omega
        refine WOk.one (n := .skip) ?_ (Ext.refl E) hH trivial (Touch.set (by simp) he ob) (by simp)
        simp only [execOp, ho, ← h1, Instr.storeAt, Instr.sureAddr, Sem.run_bind, Sem.run_pure, Result.andThen_ok, storeVar, run_szOf hk, hsz, ne_eq, not_true_eq_false, if_false, hrun]
      · cases hr
    · cases hr
  · cases h

/-! ### Maps are written -/
theorem run_setObj {r : Nat} {ob ob' : Obj} (h : w.heap[r]? = some ob) (hc : ∀ c t f, ob ≠ .cells c t f) : (setObj r ob').run P w = .ok () { w with heap := w.heap.setIfInBounds r ob' } := by
  simp only [setObj, Sem.run, h]
mutual
theorem same_bits : ∀ (d D : Nat) (x y : AV) (a b : Value), d ≤ D → cv E ι x = some a → cv E ι y = some b → same d x y = true → Instr.sameBits D a b = true
  | 0, _, _, _, _, _, _, _, _, h => by simp [same] at h
  | d + 1, 0, _, _, _, _, hD, _, _, _ => by omega
  | d + 1, D + 1, x, y, a, b, hD, hx, hy, h => by
    cases x <;> cases y <;> simp only [same, Bool.false_eq_true] at h
    · simp only [cv, Option.some.injEq] at hx hy; subst hx hy; simpa [Instr.sameBits] using h
    · simp only [cv, Option.some.injEq] at hx hy; subst hx hy; simpa [Instr.sameBits] using h
    · simp only [cv, Option.some.injEq] at hx hy; subst hx hy
      simp only [Instr.sameBits, bytes_eq]; exact h
    · simp only [cv, Option.map_eq_some_iff] at hx hy
      obtain ⟨l, hl, rfl⟩ := hx
      obtain ⟨m, hm, rfl⟩ := hy
      have := sames_bits d D _ _ l m (by omega) hl hm h
      simp only [Instr.sameBits, Bool.and_eq_true, beq_iff_eq]
      exact ⟨by simpa using this.1, this.2⟩
theorem sames_bits : ∀ (d D : Nat) (x y : List AV) (a b : List Value), d ≤ D → cvs E ι x = some a → cvs E ι y = some b → sames d x y = true → a.length = b.length ∧ ((a.zip b).all fun (x, y) => Instr.sameBits D x y) = true
  | _, _, [], [], a, b, _, hx, hy, _ => by
    rw [cvs_nil] at hx hy; injection hx with hx; injection hy with hy; subst hx hy
    simp
  | _, _, [], _ :: _, _, _, _, _, _, h => by simp [sames] at h
  | _, _, _ :: _, [], _, _, _, _, _, h => by simp [sames] at h
  | d, D, x :: xs, y :: ys, a, b, hD, hx, hy, h => by
    obtain ⟨a1, a2, h1, h2, rfl⟩ := cvs_cons.1 hx
    obtain ⟨b1, b2, h3, h4, rfl⟩ := cvs_cons.1 hy
    simp only [sames, Bool.and_eq_true] at h
    have i1 := same_bits d D x y a1 b1 hD h1 h3 h.1
    have i2 := sames_bits d D xs ys a2 b2 hD h2 h4 h.2
    exact ⟨by simp [i2.1], by simp [i1]; simpa using i2.2⟩
end
theorem modAt_get {α : Type} (f : α → α) : ∀ (l : List α) (i j : Nat), (modAt f l i)[j]? = if j = i then (l[j]?).map f else l[j]?
  | [], i, j => by simp [modAt]
  | x :: r, 0, 0 => by simp [modAt]
  | x :: r, 0, j + 1 => by simp [modAt]
  | x :: r, i + 1, 0 => by simp [modAt]
  | x :: r, i + 1, j + 1 => by simp [modAt, modAt_get f r i j]
theorem modAt_len {α : Type} (f : α → α) : ∀ (l : List α) (i : Nat), (modAt f l i).length = l.length
  | [], _ => rfl
  | _ :: _, 0 => rfl
  | _ :: r, i + 1 => by simp [modAt, modAt_len f r i]
/-- One entry of a map is turned. -/
theorem cvE_mod {es : List (AV × AV × Nat)} {ces : List MapEntry} (h : cvE E ι es = some ces) (i : Nat) {f : AV × AV × Nat → AV × AV × Nat} {g : MapEntry → MapEntry} (hf : ∀ e k v, es[i]? = some e → cv E ι e.1 = some k → cv E ι e.2.1 = some v →
      cv E ι (f e).1 = some (g ⟨k, v, e.2.2⟩).key ∧ cv E ι (f e).2.1 = some (g ⟨k, v, e.2.2⟩).val ∧ (f e).2.2 = (g ⟨k, v, e.2.2⟩).born) :
    cvE E ι (modAt f es i) = some (ces.toArray.modify i g).toList := by
  obtain ⟨h1, h2⟩ := cvE_get h
  refine cvE_of_get (by simp [modAt_len, h1]) fun j e he => ?_
  rw [modAt_get] at he
  rw [Array.getElem?_toList, Array.getElem?_modify]
  by_cases c : j = i
  · subst c
    rw [if_pos rfl] at he
    obtain ⟨e', he', rfl⟩ := Option.map_eq_some_iff.1 he
    obtain ⟨k, v, a, b, d⟩ := h2 j e' he'
    obtain ⟨p, q, r⟩ := hf e' k v he' a b
    refine ⟨_, _, p, q, ?_⟩
    simp [d, r]
  · rw [if_neg c] at he
    obtain ⟨k, v, a, b, d⟩ := h2 j e he
    exact ⟨k, v, a, b, by simp [Ne.symm c, d]⟩
theorem cvE_snoc {es : List (AV × AV × Nat)} {ces : List MapEntry} (h : cvE E ι es = some ces) {k v : AV} {a b : Value} (hk : cv E ι k = some a) (hv : cv E ι v = some b) (c : Nat) : cvE E ι (es ++ [(k, v, c)]) = some (ces.toArray.push ⟨a, b, c⟩).toList := by
  obtain ⟨h1, h2⟩ := cvE_get h
  refine cvE_of_get (by simp [h1]) fun j e he => ?_
  by_cases hj : j < es.length
  · rw [List.getElem?_append_left hj] at he
    obtain ⟨k', v', p, q, r⟩ := h2 j e he
    exact ⟨k', v', p, q, by simp [List.getElem?_append_left (show j < ces.length by omega), r]⟩
  · rw [List.getElem?_append_right (by omega)] at he
    have : j - es.length = 0 := by
      rcases Nat.eq_zero_or_pos (j - es.length) with h0 | h0
      · exact h0
      · rw [List.getElem?_eq_none (by simp; omega)] at he; cases he
    rw [this] at he
    simp at he
    subst he
    have hj : j = ces.length := by omega
    exact ⟨a, b, hk, hv, by simp [hj]⟩
/-- The map behind a name. -/
theorem HR.map' (hh : HR B w0 E ι H w) {n : Nat} {es : List (AV × AV × Nat)} {clock : Nat} (hg : H.get n = some (.map es clock)) {e : Nat × Nat × Nat} (he : E[n]? = some e) : ∃ ces, cvE E ι es = some ces ∧ w.heap[e.1]? = some (.map ces.toArray clock) := by
  obtain ⟨e', he', hr⟩ := hh.obj n _ hg
  rw [he] at he'; injection he' with he'; subst he'
  generalize hob : w.heap[e.1]? = ob at hr
  cases hr with
  | map hE => exact ⟨_, hE, rfl⟩
theorem run_mapUpdate (hh : HR B w0 E ι H w) {t : TypeId} {m k v : AV} {mv kv vv : Value} (hm : cv E ι m = some mv) (hk : cv E ι k = some kv) (hv : cv E ι v = some vv) {rs : List AR} (h : aMapPut P H t m k v = some rs) :
    ∃ n es e ob, rs = [(.skip, H.put n es, [n])] ∧ E[n]? = some e ∧ (Instr.mapUpdate t mv kv vv).run P w = .ok () { w with heap := w.heap.setIfInBounds e.1 ob } ∧ HR B w0 E ι (H.put n es) { w with heap := w.heap.setIfInBounds e.1 ob } := by
  unfold aMapPut at h
  split at h
  · rename_i kt et n hmk
    have hu := mapK_eq hmk
    split at h
    · rename_i es clock hg
      simp only [cv, Option.map_eq_some_iff] at hm
      obtain ⟨e, he, rfl⟩ := hm
      obtain ⟨ces, hE, hb⟩ := hh.map' hg he
      have hgo := run_getObj (P := P) hb (by simp)
      split at h
      · rename_i hko
        obtain ⟨u, hku⟩ := keyOk_undl hko
        have hck := run_keyOk (P := P) (w := w) false 9 10000 kt k _ (by decide) hk hko
        split at h
        · rename_i i u' hf
          obtain ⟨r', h1, h2⟩ := run_aFind (P := P) (w := w) hku hk hE hf
          cases r' with
          | none => exact h2.elim
          | some y =>
            obtain ⟨j, v'⟩ := y
            obtain ⟨rfl, _, _, e0, he0, _⟩ := h2
            rw [Nat.sub_zero] at he0
            rw [he0] at h
            dsimp only at h
            split at h
            · rename_i hsame
              simp only [Option.some.injEq] at h
              obtain ⟨k0, v0, q1, q2, q3⟩ := (cvE_get hE).2 _ _ he0
              have hst : (Instr.keyThatStays k0 kv).run P w = .ok kv w := by
                unfold Instr.keyThatStays
                rw [same_bits 9 10000 _ _ _ _ (by decide) q1 hk hsame]
                rfl
              have hE2 := cvE_mod hE i (f := fun e => (k, v, e.2.2)) (g := fun e => { e with key := kv, val := vv }) (fun e k' v' _ _ _ => ⟨hk, hv, rfl⟩)
              refine ⟨n, _, e, _, h.symm, he, ?_, hh.put hg rfl he _ _ (.map hE2)⟩
              simp [Instr.mapUpdate, run_undl hu, hgo, hck, h1, q3, hst, run_setObj hb]
            · cases h
        · rename_i hf
          obtain ⟨r', h1, h2⟩ := run_aFind (P := P) (w := w) hku hk hE hf
          cases r' with
          | some _ => exact h2.elim
          | none =>
            simp only [Option.some.injEq] at h
            refine ⟨n, _, e, _, h.symm, he, ?_, hh.put hg rfl he _ _ (.map (cvE_snoc hE hk hv clock))⟩
            simp [Instr.mapUpdate, run_undl hu, hgo, hck, h1, run_setObj hb]
        · cases h
      · cases h
    · cases h
  · cases h
theorem wMapPut_ok (hh : HR B w0 E ι H w) (hρ : Opv E ι tm ρ) {t : TypeId} {m k x : Operand} (ho : o.op = .mapUpdate t m k x ∨ o.op = .insert t m k x) {rs : List AR} (h : wMapPut P H tm t m k x = some rs) : WOk P B w0 E ι w (execOp ρ o) rs := by
  unfold wMapPut at h
  split at h
  · rename_i a b c ha hb hc
    obtain ⟨n, es, e, ob, rfl, he, hr, hH⟩ := run_mapUpdate hh (hρ m a ha) (hρ k b hb) (hρ x c hc) h
    refine WOk.one (n := .skip) ?_ (Ext.refl E) hH trivial (Touch.set (by simp) he ob) (by simp)
    rcases ho with ho | ho <;> simp only [execOp, ho, Sem.run_bind, hr, Result.andThen_ok, Sem.run_pure]
  · cases h
theorem wMapEntry_ok (hh : HR B w0 E ι H w) (hρ : Opv E ι tm ρ) {t : TypeId} {m k : Operand} (ho : o.op = .mapEntry t m k) {rs : List AR} (h : wMapEntry P H tm t m k = some rs) : WOk P B w0 E ι w (execOp ρ o) rs := by
  unfold wMapEntry at h
  split at h
  · rename_i am ak ha hb
    have hm := hρ m _ ha
    have hk := hρ k _ hb
    unfold aMapEntry at h
    split at h
    · rename_i kt et n hmk
      have hu := mapK_eq hmk
      split at h
      · rename_i es clock hg
        simp only [cv, Option.map_eq_some_iff] at hm
        obtain ⟨e, he, hm⟩ := hm
        obtain ⟨ces, hE, hbl⟩ := hh.map' hg he
        have hgo := run_getObj (P := P) hbl (by simp)
        split at h
        · rename_i hko
          obtain ⟨u, hku⟩ := keyOk_undl hko
          have hck := run_keyOk (P := P) (w := w) false 9 10000 kt ak _ (by decide) hk hko
          split at h
          · rename_i i u' hf
            obtain ⟨r', h1, h2⟩ := run_aFind (P := P) (w := w) hku hk hE hf
            cases r' with
            | none => exact h2.elim
            | some y =>
              obtain ⟨j, v'⟩ := y
              obtain ⟨rfl, hv', _, e0, he0, _⟩ := h2
              rw [Nat.sub_zero] at he0
              rw [he0] at h
              dsimp only at h
              split at h
              · rename_i hsame
                simp only [Option.some.injEq] at h; subst h
                obtain ⟨k0, v0, q1, q2, q3⟩ := (cvE_get hE).2 _ _ he0
                have hst : (Instr.keyThatStays k0 (ρ k)).run P w = .ok (ρ k) w := by
                  unfold Instr.keyThatStays
                  rw [same_bits 9 10000 _ _ _ _ (by decide) q1 hk hsame]
                  rfl
                have hE2 := cvE_mod hE i (f := fun e => (ak, e.2.1, e.2.2)) (g := fun e => { e with key := ρ k }) (fun e k' v' _ _ hv => ⟨hk, hv, rfl⟩)
                refine WOk.one (n := .value (.tuple #[v', .int .i64 e0.2.2])) ?_ (Ext.refl E) (hh.put hg rfl he _ _ (.map hE2)) (by simp [NR, cv, cvs, hv']) (Touch.set (by simp) he _) (by simp)
                simp [execOp, ho, ← hm, Instr.mapEntry, run_undl hu, hgo, hck, h1, q3, hst, run_setObj hbl, goInt]
              · cases h
          · rename_i hf
            obtain ⟨r', h1, h2⟩ := run_aFind (P := P) (w := w) hku hk hE hf
            cases r' with
            | some _ => exact h2.elim
            | none =>
              obtain ⟨z, hz, rfl⟩ := Option.map_eq_some_iff.1 h
              obtain ⟨zc, hzr, hzc⟩ := run_zeroT (P := P) (E := E) (ι := ι) (w := w) hz
              refine WOk.one (n := .value (.tuple #[zc, .int .i64 clock])) ?_ (Ext.refl E) (hh.put hg rfl he _ _ (.map (cvE_snoc hE hk hzc clock))) (by simp [NR, cv, cvs, hzc]) (Touch.set (by simp) he _) (by simp)
              simp [execOp, ho, ← hm, Instr.mapEntry, run_undl hu, hgo, hck, h1, hzr, run_setObj hbl, goInt]
          · cases h
        · cases h
      · cases h
    · cases h
  · cases h
theorem aBorn_find {b : Int} : ∀ (es : List (AV × AV × Nat)) (ces : List MapEntry) (i j : Nat), cvE E ι es = some ces → aBorn b es i = some j → i ≤ j ∧ ces.findIdx? (fun e => (e.born : Int) == b) = some (j - i)
  | [], _, _, _, _, h => by simp [aBorn] at h
  | e :: es, ces, i, j, hE, h => by
    simp only [cvE, Option.bind_eq_some_iff, Option.map_eq_some_iff] at hE
    obtain ⟨k, hk, v, hv, c, hc, rfl⟩ := hE
    unfold aBorn at h
    by_cases hb : ((e.2.2 : Nat) : Int) == b
    · rw [if_pos hb] at h
      simp only [Option.some.injEq] at h; subst h
      refine ⟨Nat.le_refl _, ?_⟩
      simp [List.findIdx?_cons, hb]
    · rw [if_neg hb] at h
      obtain ⟨h1, h2⟩ := aBorn_find es c (i + 1) j hc h
      refine ⟨by omega, ?_⟩
      have hb' : ((e.2.2 : Nat) : Int) ≠ b := by simpa using hb
      simp only [List.findIdx?_cons]
      have : (((e.2.2 : Nat) : Int) == b) = false := by simpa using hb'
      simp only [this, Bool.false_eq_true, if_false, h2, Option.map_some]
      congr 1
      omega
theorem wEntryStore_ok (hh : HR B w0 E ι H w) (hρ : Opv E ι tm ρ) {t : TypeId} {m s x : Operand} (ho : o.op = .entryStore t m s x) {rs : List AR} (h : wEntryStore H tm m s x = some rs) : WOk P B w0 E ι w (execOp ρ o) rs := by
  unfold wEntryStore at h
  split at h
  · rename_i am as ax ha hb hc
    have hm := hρ m _ ha
    have hs := hρ s _ hb
    have hx := hρ x _ hc
    unfold aEntryStore at h
    split at h
    · rename_i n kk b
      split at h
      · rename_i es clock hg
        obtain ⟨i, hi, rfl⟩ := Option.map_eq_some_iff.1 h
        simp only [cv, Option.map_eq_some_iff, Option.some.injEq] at hm hs
        obtain ⟨e, he, hm⟩ := hm
        obtain ⟨ces, hE, hbl⟩ := hh.map' hg he
        have hgo := run_getObj (P := P) hbl (by simp)
        have hf := (aBorn_find es ces 0 i hE hi).2
        rw [Nat.sub_zero] at hf
        have hE2 := cvE_mod hE i (f := fun e => (e.1, ax, e.2.2)) (g := fun e => { e with val := ρ x }) (fun e k' v' _ hk' _ => ⟨hk', hx, rfl⟩)
        refine WOk.one (n := .skip) ?_ (Ext.refl E) (hh.put hg rfl he _ _ (.map hE2)) trivial (Touch.set (by simp) he _) (by simp)
        simp [execOp, ho, ← hm, ← hs, Instr.entryStore, hgo, asInt, asIntOf, hf, run_setObj hbl]
      · cases h
    · cases h
  · cases h
end
end Go.Sx
