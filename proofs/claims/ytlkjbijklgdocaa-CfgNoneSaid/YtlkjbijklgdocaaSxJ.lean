/- Operations that make memory, or write it: what the symbolic run says of them holds. -/
import Derived.Test.YtlkjbijklgdocaaSxI
import Derived.IntWalk
namespace Go.Sx
open Go Go.RowKit
section
variable (E : Env) (ι : Nat → Value)
/-- Blocks other than those of these names stay. -/
def Touch (ns : List Nat) (w w' : World) : Prop := ∀ b, b < w.heap.size → (∀ m ∈ ns, ∀ e, E[m]? = some e → e.1 ≠ b) → w'.heap[b]? = w.heap[b]?
def NR : AN → Next → Prop
  | .val v, .value c => cv E ι v = some c
  | .skip, .skip => True
  | .enter f args, .enter g cs => f = g ∧ ∃ l, cvs E ι args = some l ∧ cs = l.toArray
  | .round l fn tm a b, .round k g C a' b' => (∃ e, E[l]? = some e ∧ e.1 = k) ∧ fn = g ∧ TMR E ι tm C ∧ a = a' ∧ b = b'
  | _, _ => False
end
/-- One of the ways r that the symbolic run names is what comes. -/
def WOk (P : Program) (B : Nat) (w0 : World) (E : Env) (ι : Nat → Value) (w : World) (s : Sem Next) (rs : List AR) : Prop :=
  ∃ n w', s.run P w = .ok n w' ∧ ∃ r ∈ rs, ∃ E', Ext E E' ∧ HR B w0 E' ι r.2.1 w' ∧ NR E' ι r.1 n ∧ Touch E (r.2.2.take 1) w w' ∧ w.heap.size ≤ w'.heap.size
section
variable {P : Program} {E : Env} {ι : Nat → Value} {tm : TM} {ρ : Operand → Value} {B : Nat} {w0 w : World} {H : AH} {o : Oper}
theorem Touch.push {ns : List Nat} (ob : Obj) : Touch E ns w { w with heap := w.heap.push ob } := fun b hb _ => by
  show (w.heap.push ob)[b]? = _
  rw [Array.getElem?_push, if_neg (by omega)]
theorem Touch.refl {ns : List Nat} (w : World) : Touch E ns w w := fun _ _ _ => rfl
theorem Touch.drewPush {ns : List Nat} (ob : Obj) (k : Nat) : Touch E ns w { w with heap := w.heap.push ob, drawn := k } := fun b hb _ => by
  show (w.heap.push ob)[b]? = _
  rw [Array.getElem?_push, if_neg (by omega)]
theorem Touch.set {ns : List Nat} {n : Nat} (hn : n ∈ ns) {e : Nat × Nat × Nat} (he : E[n]? = some e) (ob : Obj) : Touch E ns w { w with heap := w.heap.setIfInBounds e.1 ob } := fun b hb h => by
  show (w.heap.setIfInBounds e.1 ob)[b]? = _
  rw [Array.getElem?_setIfInBounds_ne (h n hn e he)]
theorem WOk.mem {s : Sem Next} {n : Next} {w' : World} {r : AR} {rs : List AR} {E' : Env} (h1 : s.run P w = .ok n w') (hm : r ∈ rs) (h2 : Ext E E') (h3 : HR B w0 E' ι r.2.1 w') (h4 : NR E' ι r.1 n) (h5 : Touch E (r.2.2.take 1) w w') (h6 : w.heap.size ≤ w'.heap.size) : WOk P B w0 E ι w s rs :=
  ⟨n, w', h1, r, hm, E', h2, h3, h4, h5, h6⟩
theorem WOk.one {s : Sem Next} {n : Next} {w' : World} {r : AR} {E' : Env} (h1 : s.run P w = .ok n w') (h2 : Ext E E') (h3 : HR B w0 E' ι r.2.1 w') (h4 : NR E' ι r.1 n) (h5 : Touch E (r.2.2.take 1) w w') (h6 : w.heap.size ≤ w'.heap.size) : WOk P B w0 E ι w s [r] :=
  WOk.mem h1 (by simp) h2 h3 h4 h5 h6
/-- What makes one new block, and hands its address back. -/
theorem WOk.new {s : Sem Next} {c : Value} {ob : Obj} {ao : AObj} {v : AV} {hi : Nat} (h1 : s.run P w = .ok (.value c) { w with heap := w.heap.push ob }) (h3 : HR B w0 (E ++ [(w.heap.size, 0, hi)]) ι (H.new ao) { w with heap := w.heap.push ob })
    (h4 : cv (E ++ [(w.heap.size, 0, hi)]) ι v = some c) : WOk P B w0 E ι w s [(.val v, H.new ao, [])] :=
  WOk.one h1 (Ext.app _ _) h3 h4 (Touch.push _) (by simp)
/-- A new row, all of it known. -/
theorem rowNew {cells : List AV} {cs : Array Value} (h : cvs E ι cells = some cs.toList) (t : TypeId) (b : Nat) : RowR E ι cells t true (b, 0, cs.size) cs (0, 0) := by
  obtain ⟨h1, h2⟩ := cvs_get h
  simp at h1
  refine ⟨fun i v hv => ?_, by simp; omega, Nat.le_refl _, fun _ => by simp; omega, fun i _ hi => by omega⟩
  obtain ⟨c, a, b⟩ := h2 i v hv
  exact ⟨c, a, by simpa using b⟩
theorem newRow_ok (hh : HR B w0 E ι H w) {cells : List AV} {cs : Array Value} (hc : cvs E ι cells = some cs.toList) (t : TypeId) :
    (newRow t cs).run P w = .ok ⟨w.heap.size, 0, none⟩ { w with heap := w.heap.push (.cells cs t) } ∧ HR B w0 (E ++ [(w.heap.size, 0, cs.size)]) ι (H.new (.row cells t true (.own none))) { w with heap := w.heap.push (.cells cs t) } :=
  ⟨by simp [newRow], hh.new _ _ cs.size (.row (RowR_ext (Ext.app _ _) (rowNew hc t w.heap.size)))⟩
theorem cv_newptr (hh : HR B w0 E ι H w) (hi : Nat) : cv (E ++ [(w.heap.size, 0, hi)]) ι (.ptr H.nx 0) = some (.pointer (some ⟨w.heap.size, 0, none⟩)) := by
  simp only [cv, hh.nx, get_app_self, Option.map_some]
theorem wAlloc_ok (hι : Scalars ι) (hh : HR B w0 E ι H w) {t : TypeId} (ho : o.op = .alloc t) {rs : List AR} (h : wAlloc P H t = some rs) : WOk P B w0 E ι w (execOp ρ o) rs := by
  unfold wAlloc at h
  obtain ⟨z, hz, rfl⟩ := Option.map_eq_some_iff.1 h
  obtain ⟨c, hr, hc⟩ := run_zeroT (P := P) (E := E) (ι := ι) (w := w) hz
  obtain ⟨h1, h2⟩ := newRow_ok (P := P) hh (cv_cells hι hc) t
  exact WOk.new (by simp only [execOp, ho, Instr.alloc, Sem.run_bind, hr, Result.andThen_ok, newVar, h1, Sem.run_pure]) h2 (cv_newptr hh _)
theorem wBox_ok (hι : Scalars ι) (hh : HR B w0 E ι H w) (hρ : Opv E ι tm ρ) {t : TypeId} {x : Operand} (ho : o.op = .box t x) {rs : List AR} (h : wBox H tm t x = some rs) : WOk P B w0 E ι w (execOp ρ o) rs := by
  unfold wBox at h
  obtain ⟨v, hv, rfl⟩ := Option.map_eq_some_iff.1 h
  obtain ⟨h1, h2⟩ := newRow_ok (P := P) hh (cv_cells hι (hρ x v hv)) t
  exact WOk.new (by simp only [execOp, ho, Instr.box, Sem.run_bind, Result.andThen_ok, newVar, h1, Sem.run_pure]) h2 (cv_newptr hh _)

/-! ### Rows of zeros -/
theorem reps_get (z : List AV) (hz : 0 < z.length) : ∀ (n i : Nat), (reps z n)[i]? = if i < n * z.length then z[i % z.length]? else none
  | 0, i => by simp [reps]
  | n + 1, i => by
    unfold reps
    by_cases h : i < z.length
    · rw [List.getElem?_append_left h, if_pos (by rw [Nat.add_mul]; omega), Nat.mod_eq_of_lt h]
    · rw [List.getElem?_append_right (by omega), reps_get z hz n]
      have e : (i - z.length) % z.length = i % z.length := by
        rw [← Nat.mod_eq_sub_mod (by omega)]
      rw [e]
      by_cases h2 : i < (n + 1) * z.length
      · rw [if_pos h2, if_pos (by rw [Nat.add_mul] at h2; omega)]
      · rw [if_neg h2, if_neg (by rw [Nat.add_mul] at h2; omega)]
theorem reps_len (z : List AV) : ∀ n, (reps z n).length = n * z.length
  | 0 => by simp [reps]
  | n + 1 => by unfold reps; rw [List.length_append, reps_len z n, Nat.add_mul]; omega
theorem cvs_reps {z : List AV} {c : Array Value} (h : cvs E ι z = some c.toList) (hz : 0 < z.length) (n : Nat) : cvs E ι (reps z n) = some ((Array.range (n * c.size)).map fun i => c[i % c.size]!).toList := by
  obtain ⟨h1, h2⟩ := cvs_get h
  simp at h1
  refine cvs_of_get (by simp [reps_len, h1]) fun i v hv => ?_
  rw [reps_get z hz] at hv
  split at hv
  · rename_i hi
    obtain ⟨x, a, b⟩ := h2 _ v hv
    refine ⟨x, a, ?_⟩
    have hm : i % c.size < c.size := Nat.mod_lt _ (by omega)
    rw [← h1] at hi b
    rw [Array.getElem?_toList, Array.getElem?_eq_getElem hm] at b
    injection b with b
    rw [Array.getElem?_toList, Array.getElem?_map, Array.getElem?_eq_getElem (by simpa using hi), Option.map_some, Array.getElem_range, getElem!_pos c _ hm, b]
  · cases hv
theorem range0 : Array.range 0 = #[] := rfl
theorem szOf_eq {t : TypeId} {n : Nat} (h : szOf P t = some n) : ∃ i, P.info? t = some i ∧ i.size = n := Option.map_eq_some_iff.1 h
theorem cv_newslice (hh : HR B w0 E ι H w) (hi l c : Nat) : cv (E ++ [(w.heap.size, 0, hi)]) ι (.slice H.nx 0 l c) = some (.slice (some ⟨w.heap.size, 0, none⟩) l c) := by
  simp only [cv, hh.nx, get_app_self, Option.map_some]
theorem wBuildSlice_ok (hι : Scalars ι) (hh : HR B w0 E ι H w) (hρ : Opv E ι tm ρ) {t : TypeId} {len : Nat} {parts : Array (Nat × Operand)} (ho : o.op = .buildSlice t len parts) {rs : List AR} (h : wBuildSlice P H tm t len parts = some rs) : WOk P B w0 E ι w (execOp ρ o) rs := by
  unfold wBuildSlice at h
  split at h
  · rename_i e hu
    split at h
    · rename_i size z ps hs hz hps
      split at h
      · rename_i hc
        simp only [Bool.and_eq_true, decide_eq_true_eq] at hc
        obtain ⟨⟨hc1, hc2⟩, hc3⟩ := hc
        obtain ⟨cs, hcs, rfl⟩ := Option.map_eq_some_iff.1 h
        obtain ⟨c, hr, hcv⟩ := run_zeroT (P := P) (E := E) (ι := ι) (w := w) hz
        have hcc := cv_cells hι hcv
        have hsz : c.cells.size = size := by have := (cvs_get hcc).1; simp at this; omega
        have hreps := cvs_reps hcc (by omega) len
        obtain ⟨r, hfill, hrc⟩ := fill_ok hι ps _ _ _ cs hreps (opvp_cvp hρ _ _ hps) hcs
        obtain ⟨h1, h2⟩ := newRow_ok (P := P) hh hrc e
        have hpl : (parts.map fun (i, x) => (i, ρ x)).toList = parts.toList.map fun (i, x) => (i, ρ x) := by simp
        have hrun : (Instr.buildSlice t len (parts.map fun (i, x) => (i, ρ x))).run P w = .ok (.slice (some ⟨w.heap.size, 0, none⟩) len len) { w with heap := w.heap.push (.cells r e) } := by
          have hbig : ¬ (len * size > 2 ^ 24) := by simp; omega
          by_cases h0 : len * size = 0
          · have hl0 : len = 0 := by
              rcases Nat.mul_eq_zero.1 h0 with h | h
              · exact h
              · omega
            subst hl0
            simp only [Nat.zero_mul, range0, Array.map_empty] at hfill
            simp only [Instr.buildSlice, Sem.run_bind, run_undl hu, Result.andThen_ok, run_szOf hs, Nat.zero_mul, if_true, range0, Array.map_empty]
            rw [if_neg (by simp)]
            simp only [Sem.run_pure, Result.andThen_ok, hpl, hfill, h1, Sem.run_bind]
          · simp only [Instr.buildSlice, Sem.run_bind, run_undl hu, Result.andThen_ok, run_szOf hs]
            rw [if_neg hbig]
            simp only [Sem.run_pure, Result.andThen_ok, h0, if_false, Sem.run_bind, hr]
            rw [hsz] at hfill
            simp only [hsz, hpl, hfill, h1, Result.andThen_ok, Sem.run_bind, Sem.run_pure]
        exact WOk.new (by simp only [execOp, ho, Sem.run_bind, hrun, Result.andThen_ok, Sem.run_pure]) h2 (cv_newslice hh _ _ _)
      · cases h
    · cases h
  · cases h
theorem wMakeMap_ok (hh : HR B w0 E ι H w) (hρ : Opv E ι tm ρ) {t : TypeId} {r : Option Operand} (ho : o.op = .makeMap t r) {rs : List AR} (h : wMakeMap P H tm t r = some rs) : WOk P B w0 E ι w (execOp ρ o) rs := by
  have h2 : HR B w0 (E ++ [(w.heap.size, 0, 0)]) ι (H.new (.map [] 0)) { w with heap := w.heap.push (.map #[] 0) } := hh.new _ _ 0 (.map (ces := []) rfl)
  have hcv : cv (E ++ [(w.heap.size, 0, 0)]) ι (.map H.nx) = some (.map (some w.heap.size)) := by simp only [cv, hh.nx, get_app_self, Option.map_some]
  unfold wMakeMap at h
  split at h
  · simp only [Option.some.injEq] at h; subst h
    exact WOk.new (by simp [execOp, ho, Instr.makeMap]) h2 hcv
  · rename_i x
    split at h
    · rename_i p k n hm hx
      simp only [Option.some.injEq] at h; subst h
      have h1 := hρ x _ hx
      simp only [cv, Option.some.injEq] at h1
      have hu := mapK_eq (P := P) (t := t) (kt := p.1) (et := p.2) hm
      exact WOk.new (by simp [execOp, ho, Instr.makeMap, run_undl hu, ← h1, asInt, asIntOf]) h2 hcv
    · cases h
theorem wrap64_small {x : Int} (h0 : 0 ≤ x) (h1 : x ≤ 9223372036854775807) : IntKind.i64.wrap x = x := IntWalk.i64_in _ (by omega)
theorem wMakeSlice_ok (hι : Scalars ι) (hh : HR B w0 E ι H w) (hρ : Opv E ι tm ρ) {t : TypeId} {l c : Operand} (ho : o.op = .makeSlice t l c) {rs : List AR} (h : wMakeSlice P H tm t l c = some rs) : WOk P B w0 E ι w (execOp ρ o) rs := by
  unfold wMakeSlice at h
  split at h
  · rename_i e k1 ln k2 cn hu hl hc
    split at h
    · rename_i size z hs hz
      split at h
      · rename_i hcond
        simp only [Bool.and_eq_true, decide_eq_true_eq] at hcond
        obtain ⟨⟨⟨⟨⟨c1, c2⟩, c3⟩, c4⟩, c5⟩, c6⟩ := hcond
        simp only [Option.some.injEq] at h; subst h
        have h1 := hρ l _ hl
        have h2 := hρ c _ hc
        simp only [cv, Option.some.injEq] at h1 h2
        obtain ⟨zc, hr, hcv⟩ := run_zeroT (P := P) (E := E) (ι := ι) (w := w) hz
        have hcc := cv_cells hι hcv
        have hsz : zc.cells.size = size := by have := (cvs_get hcc).1; simp at this; omega
        have hreps := cvs_reps hcc (by omega) cn.toNat
        obtain ⟨q1, q2⟩ := newRow_ok (P := P) hh hreps e
        obtain ⟨i, hi, hisz⟩ := szOf_eq hs
        have hby : bytesT P e = i.bytes := by simp [bytesT, hi]
        have hrun : (Instr.makeSlice t (.int k1 ln) (.int k2 cn)).run P w = .ok (.slice (some ⟨w.heap.size, 0, none⟩) ln.toNat cn.toNat) { w with heap := w.heap.push (.cells ((Array.range (cn.toNat * zc.cells.size)).map fun i => zc.cells[i % zc.cells.size]!) e) } := by
          have w1 : IntKind.i64.wrap ln = ln := wrap64_small c1 (by omega)
          have w2 : IntKind.i64.wrap cn = cn := wrap64_small (by omega) (by omega)
          have hb : (i.bytes : Int) * cn ≤ 140737488355328 := by
            rw [hby] at c4
            have : (i.bytes : Int) * cn = ((cn.toNat * i.bytes : Nat) : Int) := by
              rw [Int.natCast_mul, Int.mul_comm, Int.toNat_of_nonneg (by omega)]
            omega
          simp only [Instr.makeSlice, Sem.run_bind, run_undl hu, Result.andThen_ok, asInt, asIntOf, Sem.run_pure, typeInfo, run_program, hi, w1, w2]
          have hcd : ((decide (cn < 0) || decide ((i.bytes : Int) * cn > 2 ^ 48)) || decide (ln < 0) || decide (ln > cn)) = false := by
            simp
            omega
          have hcd' : ¬ (((decide (cn < 0) || decide ((i.bytes : Int) * cn > 2 ^ 48)) || decide (ln < 0) || decide (ln > cn)) = true) := by rw [hcd]; simp
          rw [if_neg hcd']
          simp only [Sem.run_pure, Result.andThen_ok, Sem.run_bind, run_askRoom, run_szOf hs]
          by_cases h0 : cn.toNat * size = 0
          · have hc0 : cn.toNat = 0 := by
              rcases Nat.mul_eq_zero.1 h0 with h | h
              · exact h
              · omega
            simp only [hc0, Nat.zero_mul, range0, Array.map_empty] at q1
            simp [hc0, range0, q1]
          · simp only [h0, if_false, Sem.run_bind, hr, Result.andThen_ok, Sem.run_pure]
            rw [hsz] at q1
            simp only [hsz, q1, Result.andThen_ok]
        exact WOk.new (by simp only [execOp, ho, ← h1, ← h2, Sem.run_bind, hrun, Result.andThen_ok, Sem.run_pure]) q2 (cv_newslice hh _ _ _)
      · cases h
    · cases h
  · cases h
end
end Go.Sx
