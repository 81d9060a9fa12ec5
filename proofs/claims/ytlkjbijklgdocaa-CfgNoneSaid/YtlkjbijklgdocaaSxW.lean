/- The arguments of a call as unknown scalars: what the rows of the closed laws ask. -/
import Derived.Test.YtlkjbijklgdocaaSxV
import Derived.WideShapes
import Derived.Carry
namespace Go.Sx
open Go Go.WideShapes Go.RowKit
section
variable {P : Program} {w : World} {r : Reach} {base : Nat}
theorem okWide_one {t : TypeId} {v : Value} (h : Cell.okWide P w r base t v) : v.oneCell' = true := by
  cases v with
  | agg cs => simp only [Cell.okWide, Cell.ok] at h; split at h <;> simp_all
  | tuple cs => simp only [Cell.okWide, Cell.ok] at h; split at h <;> simp_all
  | _ => rfl
theorem rowWide_one {t : TypeId} {cs : Array Value} (h : Row.okWide P w r base t cs) : ∀ v ∈ cs.toList, v.oneCell' = true := by
  obtain ⟨ts, _, _, h⟩ := h
  intro v hv
  obtain ⟨i, hi, e⟩ := List.mem_iff_getElem.1 hv
  obtain ⟨u, _, hu⟩ := h i v (by rw [Array.getElem?_eq_some_iff]; exact ⟨by simpa using hi, by simpa using e⟩)
  exact okWide_one hu
/-- An argument of a type, its cells numbered from n on. -/
def absArg (P : Program) (n : Nat) (t : TypeId) : AV × Nat :=
  match P.underlying t with
  | some (.struct _) | some (.array _ _) => (.agg ((List.range' n (P.cellsOf t)).map .opq), n + P.cellsOf t)
  | _ => (.opq n, n + 1)
def absArgs (P : Program) : Nat → List TypeId → List AV
  | _, [] => []
  | n, t :: ts => (absArg P n t).1 :: absArgs P (absArg P n t).2 ts
theorem absArg_ok {t : TypeId} {v : Value} (h : Value.okWide P w r base t v) {ι : Nat → Value} {n : Nat} (hι : ∀ i, i < v.cells.size → some (ι (n + i)) = v.cells[i]?) :
    cv [] ι (absArg P n t).1 = some v ∧ (absArg P n t).2 = n + v.cells.size ∧ ∀ c ∈ v.cells.toList, c.oneCell' = true := by
  have key : ∀ cs : Array Value, v = .agg cs → cs.size = P.cellsOf t → Row.okWide P w r base t cs →
      cv [] ι (.agg ((List.range' n (P.cellsOf t)).map .opq)) = some v ∧ n + P.cellsOf t = n + v.cells.size ∧ ∀ c ∈ v.cells.toList, c.oneCell' = true := by
    intro cs hv hs hr
    subst hv
    refine ⟨?_, by simp [Value.cells, hs], rowWide_one hr⟩
    have : ∀ (l : List Value) (m : Nat), (∀ i, i < l.length → some (ι (m + i)) = l[i]?) → cvs [] ι ((List.range' m l.length).map .opq) = some l := by
      intro l
      induction l with
      | nil => intro m _; exact cvs_nil
      | cons x l ih =>
        intro m hm
        rw [List.length_cons, List.range'_succ, List.map_cons]
        have h0 := hm 0 (by simp)
        simp only [Nat.add_zero, List.getElem?_cons_zero, Option.some.injEq] at h0
        refine cvs_cons.2 ⟨x, l, by rw [← h0]; rfl, ih (m + 1) fun i hi => ?_, rfl⟩
        have := hm (i + 1) (by simpa using hi)
        rw [List.getElem?_cons_succ] at this
        rw [← this, Nat.add_assoc, Nat.add_comm 1 i]
    have h1 := this cs.toList n (fun i hi => by simpa [Value.cells] using hι i (by simpa [Value.cells] using hi))
    rw [show cs.toList.length = P.cellsOf t by simpa using hs] at h1
    show (cvs [] ι _).map _ = _
    rw [h1]
    rfl
  have leaf : Cell.okWide P w r base t v → cv [] ι (.opq n) = some v ∧ n + 1 = n + v.cells.size ∧ ∀ c ∈ v.cells.toList, c.oneCell' = true := by
    intro h
    have h1 := okWide_one h
    rw [cells_of_one h1] at hι ⊢
    have h0 := hι 0 (by simp)
    simp at h0
    refine ⟨by rw [← h0]; rfl, by simp, by simpa using h1⟩
  unfold Value.okWide at h
  unfold absArg
  split at h
  · rename_i heq; obtain ⟨cs, h1, h2, h3⟩ := h; simp only [heq]; exact key cs h1 h2 h3
  · rename_i heq; obtain ⟨cs, h1, h2, h3⟩ := h; simp only [heq]; exact key cs h1 h2 h3
  · rename_i h1 h2
    split
    · rename_i heq; exact absurd heq (h1 _)
    · rename_i heq; exact absurd heq (h2 _ _)
    · exact leaf h
theorem absArgs_ok : ∀ (ts : List TypeId) (vs : List Value) (n : Nat) (ι : Nat → Value), vs.length = ts.length → (∀ (j : Nat) t v, ts[j]? = some t → vs[j]? = some v → Value.okWide P w r base t v) →
    (∀ i, i < (vs.flatMap (·.cells.toList)).length → some (ι (n + i)) = (vs.flatMap (·.cells.toList))[i]?) →
    cvs [] ι (absArgs P n ts) = some vs ∧ ∀ c ∈ vs.flatMap (·.cells.toList), c.oneCell' = true
  | [], [], _, _, _, _, _ => ⟨cvs_nil, by simp⟩
  | [], _ :: _, _, _, h, _, _ => by simp at h
  | _ :: _, [], _, _, h, _, _ => by simp at h
  | t :: ts, v :: vs, n, ι, hl, ht, hι => by
    rw [List.flatMap_cons] at hι ⊢
    obtain ⟨h1, h2, h3⟩ := absArg_ok (ht 0 t v rfl rfl) (ι := ι) (n := n) (fun i hi => by
      have := hι i (by simp; omega)
      rw [List.getElem?_append_left (by simpa using hi)] at this
      simpa using this)
    obtain ⟨h4, h5⟩ := absArgs_ok ts vs (n + v.cells.size) ι (by simpa using hl) (fun j t' v' a b => ht (j + 1) t' v' a b) (fun i hi => by
      have := hι (v.cells.size + i) (by rw [List.length_append]; simp only [Array.length_toList]; omega)
      rw [List.getElem?_append_right (by simp)] at this
      simp only [Array.length_toList, Nat.add_sub_cancel_left] at this
      rw [Nat.add_assoc]
      exact this)
    refine ⟨?_, ?_⟩
    · show cvs [] ι ((absArg P n t).1 :: absArgs P (absArg P n t).2 ts) = _
      rw [h2]
      exact cvs_cons.2 ⟨v, vs, h1, h4, rfl⟩
    · intro c hc
      rcases List.mem_append.1 hc with hc | hc
      · exact h3 c hc
      · exact h5 c hc
/-- A law whose run over unknown scalars ends true: true in every world, for every argument of the types. -/
theorem open_true (hP : Fine P) {fuel : Nat} {f : FuncId} {ts : List TypeId} (h : runs P fuel f (absArgs P 0 ts) = true) {args : Array Value} (hn : args.size = ts.length)
    (hok : ∀ (j : Nat) t v, ts[j]? = some t → args[j]? = some v → Value.okWide P w r base t v) (W : World) :
    Calls P f args W fun e w' => e = .returned (.bool true) ∧ Below W.heap.size W w' := by
  let l := args.toList.flatMap (·.cells.toList)
  let ι : Nat → Value := fun i => l[i]?.getD (.bool false)
  obtain ⟨h1, h2⟩ := absArgs_ok ts args.toList 0 ι (by simpa using hn) (fun j t v a b => hok j t v a (by simpa using b)) (fun i hi => by
    show some (l[0 + i]?.getD _) = l[i]?
    rw [Nat.zero_add, List.getElem?_eq_getElem hi]
    rfl)
  have hι : Scalars ι := by
    intro i
    show (l[i]?.getD (.bool false)).oneCell' = true
    cases hx : l[i]? with
    | none => rfl
    | some c => exact h2 c (List.mem_of_getElem? hx)
  have := calls_true hP hι h1 h W
  simpa using this
end
section
variable {H : Type} {enc : TypeId × Value → H} {P : Program}
/-- The arguments read as before. -/
theorem below_trodAll (hl : laidOutB P = true) {W W' : World} (bel : Below W.heap.size W W') : ∀ {ts : List TypeId} {vs : List Value} {ds : List (DataW H)} {ps : List MemPlace},
    ts.all (fun t => P.readableRec t && decide (t < P.types.size)) = true → DataW.TrodAll enc P W 0 (fun _ => true) true ts vs ds ps → DataW.TrodAll enc P W' 0 (fun b => decide (b < W.heap.size)) true ts vs ds ps
  | [], [], [], _, _, h => h
  | t :: ts, v :: vs, d :: ds, _, hr, ⟨p, q, h1, h2, e⟩ => by
    rw [List.all_cons, Bool.and_eq_true, Bool.and_eq_true, decide_eq_true_eq] at hr
    exact ⟨p, q, RowKit.Below.trod hl hr.1.1 hr.1.2 h1 bel (by obtain ⟨m, hm⟩ := h1; exact DataW.trod_lt m _ _ _ hm), below_trodAll hl bel hr.2 h2, e⟩
  | [], [], _ :: _, _, _, h => h.elim
  | [], _ :: _, _, _, _, h => by cases ‹List (DataW H)› <;> exact h.elim
  | _ :: _, [], _, _, _, h => by cases ‹List (DataW H)› <;> exact h.elim
  | _ :: _, _ :: _, [], _, _, h => h.elim
end
end Go.Sx
