/- The operations that read memory, or make a value out of parts. -/
import Derived.Test.YtlkjbijklgdocaaSxE
import Derived.Laws.Tables
namespace Go.Sx
open Go Go.RowKit

/-! ### Parts laid into a list -/
theorem setAt_get (l vs : List AV) (off i : Nat) (h : off + vs.length ≤ l.length) : (setAt l off vs)[i]? = if off ≤ i ∧ i < off + vs.length then vs[i - off]? else l[i]? := by
  unfold setAt
  by_cases h1 : i < off
  · rw [List.append_assoc, List.getElem?_append_left (by simp; omega), List.getElem?_take, if_pos h1, if_neg (by omega)]
  · by_cases h2 : i < off + vs.length
    · rw [if_pos ⟨by omega, h2⟩, List.append_assoc, List.getElem?_append_right (by simp; omega), List.getElem?_append_left (by simp; omega)]
      congr 1
      simp
      omega
    · rw [if_neg (by omega), List.getElem?_append_right (by simp; omega), List.getElem?_drop]
      congr 1
      simp
      omega
theorem setAt_len (l vs : List AV) (off : Nat) (h : off + vs.length ≤ l.length) : (setAt l off vs).length = l.length := by
  unfold setAt
  simp
  omega
/-- A segment of an array is written. -/
def seg (cs : Array Value) (off : Nat) : List Value → Array Value
  | [] => cs
  | v :: r => seg (cs.setIfInBounds off v) (off + 1) r
theorem seg_size : ∀ (vs : List Value) (cs : Array Value) (off : Nat), (seg cs off vs).size = cs.size
  | [], _, _ => rfl
  | v :: r, cs, off => by unfold seg; rw [seg_size]; simp
theorem seg_get : ∀ (vs : List Value) (cs : Array Value) (off i : Nat), off + vs.length ≤ cs.size → (seg cs off vs)[i]? = if off ≤ i ∧ i < off + vs.length then vs[i - off]? else cs[i]?
  | [], cs, off, i, _ => by simp [seg]; omega
  | v :: r, cs, off, i, h => by
    unfold seg
    simp only [List.length_cons] at h
    rw [seg_get r _ (off + 1) i (by simp; omega)]
    by_cases h1 : off + 1 ≤ i ∧ i < off + 1 + r.length
    · rw [if_pos h1, if_pos (by simp; omega)]
      have : i - off = (i - (off + 1)) + 1 := by omega
      rw [this]; rfl
    · rw [if_neg h1]
      by_cases h2 : i = off
      · subst h2
        rw [if_pos (by simp), Nat.sub_self]
        simp [show i < cs.size by omega]
      · rw [if_neg (by simp; omega), Array.getElem?_setIfInBounds_ne (by omega)]
theorem fold_seg : ∀ (vs : List Value) (cs : Array Value) (off k : Nat), ((vs.zipIdx k).foldl (fun (cs : Array Value) (x : Value × Nat) => cs.setIfInBounds (off + x.2) x.1) cs) = seg cs (off + k) vs
  | [], _, _, _ => rfl
  | v :: r, cs, off, k => by
    simp only [List.zipIdx_cons, List.foldl_cons, seg]
    rw [fold_seg r _ off (k + 1)]
    rfl
section
variable {P : Program} {E : Env} {ι : Nat → Value} {tm : TM} {ρ : Operand → Value}
theorem cvs_setAt {l vs : List AV} {cs : Array Value} {ws : List Value} (hl : cvs E ι l = some cs.toList) (hv : cvs E ι vs = some ws) {off : Nat} (h : off + vs.length ≤ l.length) : cvs E ι (setAt l off vs) = some (seg cs off ws).toList := by
  obtain ⟨l1, l2⟩ := cvs_get hl
  obtain ⟨v1, v2⟩ := cvs_get hv
  have hsz : off + ws.length ≤ cs.size := by simp at l1; omega
  refine cvs_of_get (by rw [setAt_len _ _ _ h]; simp [seg_size]; simpa using l1) fun i v hi => ?_
  rw [setAt_get _ _ _ _ h] at hi
  rw [Array.getElem?_toList, seg_get _ _ _ _ hsz]
  by_cases c : off ≤ i ∧ i < off + vs.length
  · rw [if_pos c] at hi
    rw [if_pos (by omega)]
    exact v2 _ _ hi
  · rw [if_neg c] at hi
    rw [if_neg (by omega)]
    simpa using l2 _ _ hi
theorem fill_ok (hι : Scalars ι) {place : Nat → Option (Nat × Nat)} : ∀ (ps : List (Nat × AV)) (cps : List (Nat × Value)) (l : List AV) (cs : Array Value) (out : List AV), cvs E ι l = some cs.toList → cvp E ι ps = some cps → aFill place l ps = some out →
    ∃ r, Instr.fill place cs cps = some r ∧ cvs E ι out = some r.toList
  | [], cps, l, cs, out, hl, hp, h => by
    simp only [cvp, Option.some.injEq] at hp; subst hp
    simp only [aFill, Option.some.injEq] at h; subst h
    exact ⟨cs, rfl, hl⟩
  | (i, v) :: r, cps, l, cs, out, hl, hp, h => by
    simp only [cvp, Option.bind_eq_some_iff, Option.map_eq_some_iff] at hp
    obtain ⟨a, ha, b, hb, rfl⟩ := hp
    unfold aFill at h
    unfold Instr.fill
    have hc := cv_cells hι ha
    have hlen := (cvs_get hc).1
    have hll := (cvs_get hl).1
    simp only [Array.length_toList] at hlen hll
    cases hpl : place i with
    | none => simp [hpl] at h
    | some x =>
      obtain ⟨off, size⟩ := x
      simp only [hpl] at h ⊢
      split at h
      · cases h
      · rename_i hn
        simp only [Bool.or_eq_true, bne_iff_ne, ne_eq, decide_eq_true_eq, not_or, Decidable.not_not, Nat.not_lt] at hn
        have : ¬ (a.cells.size ≠ size || decide (off + a.cells.size > cs.size)) = true := by
          simp; omega
        rw [if_neg this]
        have e : (a.cells.zipIdx.foldl (fun (cs : Array Value) (x : Value × Nat) => cs.setIfInBounds (off + x.2) x.1) cs) = seg cs off a.cells.toList := by
          have := fold_seg a.cells.toList cs off 0
          rw [← Array.foldl_toList, Array.toList_zipIdx]
          simpa using this
        rw [e]
        exact fill_ok hι r b _ _ out (cvs_setAt hl hc (by omega)) hb h
theorem places_ok : ∀ (fs : List Field) (pl : List (Nat × Nat)), fieldPlaces P fs = some pl → fs.mapM (fun f => (P.info? f.type).map fun i => (f.offset, i.size)) = some pl
  | [], pl, h => by simp only [fieldPlaces, Option.some.injEq] at h; subst h; rfl
  | f :: r, pl, h => by
    simp only [fieldPlaces, Option.bind_eq_some_iff, Option.map_eq_some_iff] at h
    obtain ⟨n, hn, b, hb, rfl⟩ := h
    unfold szOf at hn
    obtain ⟨i, hi, rfl⟩ := Option.map_eq_some_iff.1 hn
    simp [List.mapM_cons, hi, places_ok r b hb]
theorem zeroT_eq {t : TypeId} {a : AV} (h : zeroT P t = some a) : ∃ i z, P.info? t = some i ∧ i.zero = some z ∧ ofV z = some a := by
  unfold zeroT at h
  cases hi : P.info? t with
  | none => simp [hi] at h
  | some i =>
    simp only [hi] at h
    cases hz : i.zero with
    | none => simp [hz] at h
    | some z => exact ⟨i, z, rfl, hz, by simpa [hz] using h⟩
theorem run_aBuild (hι : Scalars ι) {t : TypeId} {ps : List (Nat × AV)} {cps : List (Nat × Value)} (hp : cvp E ι ps = some cps) {v : AV} (h : aBuild P t ps = some v) :
    ∃ c, cv E ι v = some c ∧ ∀ w, (Instr.build t cps.toArray).run P w = .ok c w := by
  unfold aBuild at h
  obtain ⟨z, hz, h⟩ := Option.bind_eq_some_iff.1 h
  obtain ⟨it, zv, hit, hzv, hof⟩ := zeroT_eq hz
  have hzc := cv_cells hι (ofV_cv (E := E) (ι := ι) zv z hof)
  split at h
  · rename_i fs hu
    simp only [Option.bind_eq_some_iff, Option.map_eq_some_iff] at h
    obtain ⟨pl, hpl, out, hout, rfl⟩ := h
    obtain ⟨r, hr, hrc⟩ := fill_ok hι ps cps _ zv.cells out hzc hp hout
    refine ⟨.agg r, by simp [cv, hrc], fun w => run_build w t cps.toArray r ?_⟩
    simp only [Program.built, hit, hu, hzv, places_ok _ _ hpl]
    simpa using hr
  · rename_i k e hu
    simp only [Option.bind_eq_some_iff, Option.map_eq_some_iff] at h
    obtain ⟨n, hn, out, hout, rfl⟩ := h
    unfold szOf at hn
    obtain ⟨ie, hie, rfl⟩ := Option.map_eq_some_iff.1 hn
    obtain ⟨r, hr, hrc⟩ := fill_ok hι ps cps _ zv.cells out hzc hp hout
    refine ⟨.agg r, by simp [cv, hrc], fun w => run_build w t cps.toArray r ?_⟩
    simp only [Program.built, hit, hu, hzv, hie]
    exact hr
  · cases h
variable {w : World} {o : Oper}
theorem map_arr_pairs (a : Array (Nat × Operand)) (ρ : Operand → Value) : (a.toList.map fun (i, x) => (i, ρ x)).toArray = a.map fun (i, x) => (i, ρ x) := by rw [← Array.toList_map]
theorem eBuild_ok (hι : Scalars ι) (hρ : Opv E ι tm ρ) {t : TypeId} {parts : Array (Nat × Operand)} (ho : o.op = .build t parts) {r : AV × List Nat} (h : eBuild P tm t parts = some r) : EOk P E ι w ρ o r := by
  unfold eBuild at h
  simp only [Option.bind_eq_some_iff, Option.map_eq_some_iff] at h
  obtain ⟨ps, hps, v, hv, rfl⟩ := h
  obtain ⟨c, hc, hr⟩ := run_aBuild hι (opvp_cvp hρ _ _ hps) hv
  refine ⟨c, hc, fun w' _ => ?_⟩
  have := hr w'
  rw [map_arr_pairs] at this
  simp [execOp, ho, this]

/-! ### Slices of slices -/
theorem run_bound {x : AV} {a : Value} (hx : cv E ι x = some a) {y n : Nat} {code : BoundsCode} (h : aBound x y = some n) : (Instr.sliceBound a y code).run P w = .ok n w := by
  unfold aBound at h
  split at h
  · simp only [cv, Option.some.injEq] at hx; subst hx
    split at h
    · rename_i hi
      simp only [Option.some.injEq] at h; subst h
      simp [Instr.sliceBound, asIntOf, hi]
    · cases h
  · cases h
def cvo (E : Env) (ι : Nat → Value) (x : Option AV) (a : Option Value) : Prop := match x, a with
  | none, none => True
  | some x, some a => cv E ι x = some a
  | _, _ => False
theorem run_bounds {s : Bool} {len cap : Nat} {lo hi mx : Option AV} {l' h' m' : Option Value} (hl : cvo E ι lo l') (hh : cvo E ι hi h') (hm : cvo E ι mx m') {r : Nat × Nat × Nat} (h : aBounds len cap lo hi mx = some r) :
    (Instr.sliceBounds s len cap l' h' m').run P w = .ok r w := by
  unfold aBounds at h
  simp only [Option.bind_eq_some_iff, Option.map_eq_some_iff] at h
  obtain ⟨m, h1, hh', h2, l, h3, rfl⟩ := h
  unfold Instr.sliceBounds
  cases mx with
  | none =>
    cases m' with
    | some _ => exact hm.elim
    | none =>
      simp only [bndM, Option.some.injEq] at h1; subst h1
      cases hi with
      | none =>
        cases h' with
        | some _ => exact hh.elim
        | none =>
          simp only [bndH, Option.some.injEq] at h2; subst h2
          cases lo with
          | none =>
            cases l' with
            | some _ => exact hl.elim
            | none => simp only [bndL, Option.some.injEq] at h3; subst h3; rfl
          | some x =>
            cases l' with
            | none => exact hl.elim
            | some y => simp [run_bound (P := P) (w := w) (show cv E ι x = some y from hl) h3]
      | some x =>
        cases h' with
        | none => exact hh.elim
        | some y =>
          have e1 := fun code => run_bound (P := P) (w := w) (code := code) (show cv E ι x = some y from hh) h2
          cases lo with
          | none =>
            cases l' with
            | some _ => exact hl.elim
            | none => simp only [bndL, Option.some.injEq] at h3; subst h3; simp [e1]
          | some x =>
            cases l' with
            | none => exact hl.elim
            | some y => simp [e1, run_bound (P := P) (w := w) (show cv E ι x = some y from hl) h3]
  | some x =>
    cases m' with
    | none => exact hm.elim
    | some y =>
      have e0 := fun code => run_bound (P := P) (w := w) (code := code) (show cv E ι x = some y from hm) h1
      cases hi with
      | none => simp [bndH] at h2
      | some x =>
        cases h' with
        | none => exact hh.elim
        | some y =>
          have e1 := fun code => run_bound (P := P) (w := w) (code := code) (show cv E ι x = some y from hh) h2
          cases lo with
          | none =>
            cases l' with
            | some _ => exact hl.elim
            | none => simp only [bndL, Option.some.injEq] at h3; subst h3; simp [e0, e1]
          | some x =>
            cases l' with
            | none => exact hl.elim
            | some y => simp [e0, e1, run_bound (P := P) (w := w) (show cv E ι x = some y from hl) h3]
theorem optv_cvo (hρ : Opv E ι tm ρ) {x : Option Operand} {v : Option AV} (h : optv tm x = some v) : cvo E ι v (x.map ρ) := by
  rcases optv_cv hρ h with ⟨rfl, rfl⟩ | ⟨a, y, rfl, rfl, h2⟩
  · trivial
  · exact h2
/-- A bound within what is there is a bound within what may be there. -/
theorem aBound_mono {x : AV} {y z n : Nat} (h : aBound x y = some n) (hz : y ≤ z) : aBound x z = some n ∧ n ≤ y := by
  unfold aBound at h ⊢
  split at h
  · split at h
    · rename_i hi
      simp only [Option.some.injEq] at h
      refine ⟨?_, by omega⟩
      rw [if_pos ⟨hi.1, by omega⟩, h]
    · cases h
  · cases h
end
end Go.Sx
