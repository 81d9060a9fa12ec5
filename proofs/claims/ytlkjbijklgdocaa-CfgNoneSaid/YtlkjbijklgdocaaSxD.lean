/- What a symbolic heap says of a world; what reads only: equality, fields, sizes. -/
import Derived.Test.YtlkjbijklgdocaaSxC
import Derived.Laws.StructEq
import Derived.ChangeKeysEq
import Derived.Orders
namespace Go.Sx
open Go Go.RowKit

def undefA : AV := .tuple []
section
variable (E : Env) (ι : Nat → Value)
def TMR (tm : TM) (C : Array Value) : Prop := C.size = tm.n ∧ ∀ i, cv E ι (tm.get i) = some (C.getD i undef)
def cvE : List (AV × AV × Nat) → Option (List MapEntry)
  | [] => some []
  | e :: r => (cv E ι e.1).bind fun k => (cv E ι e.2.1).bind fun v => (cvE r).map fun b => ⟨k, v, e.2.2⟩ :: b
/-- A row's cells, as far as they are known. -/
structure RowR (cells : List AV) (t : TypeId) (ex : Bool) (e : Nat × Nat × Nat) (cs : Array Value) (fz : Nat × Nat) : Prop where
  at_ : ∀ (i : Nat) (v : AV), cells[i]? = some v → ∃ c, cv E ι v = some c ∧ cs[e.2.1 + i]? = some c
  len : e.2.1 + cells.length ≤ e.2.2
  fits : e.2.2 ≤ cs.size
  exact : ex = true → e.2.1 + cells.length = e.2.2
  free : ∀ i, i < cs.size → ¬ (fz.1 ≤ i ∧ i < fz.2)
inductive OR : AObj → Nat × Nat × Nat → Option Obj → Prop
  | row {cells t ex st e cs fz} : RowR E ι cells t ex e cs fz → OR (.row cells t ex st) e (some (.cells cs t fz))
  | map {es clock e ces} : cvE E ι es = some ces → OR (.map es clock) e (some (.map ces.toArray clock))
  | iter0 {s l k e s' l' k'} : e.2.1 = 0 → OR (.iter none s l k) e (some (.mapIter none s' l' k'))
  | iter {m s l k e em} : e.2.1 = 0 → E[m]? = some em → OR (.iter (some m) s l k) e (some (.mapIter (some em.1) s l.toArray k))
  | loop {st jump fn tm ps assign body d e ed C} : TMR E ι tm C → E[d]? = some ed →
      OR (.loop st jump fn tm ps assign body d) e (some (.loop { state := st, pending := jump, fn := fn, tmps := C, params := ps, assign := assign, body := body, defers := ed.1 }))
  | there {e} : OR (.deferred true) e (some (.deferred (some [])))
  | gone {e} : OR (.deferred false) e (some (.deferred none))
end
structure HR (B : Nat) (w0 : World) (E : Env) (ι : Nat → Value) (H : AH) (w : World) : Prop where
  below : Below B w0 w
  base : B ≤ w.heap.size
  nx : H.nx = E.length
  inb : ∀ (n : Nat) e, E[n]? = some e → B ≤ e.1 ∧ e.1 < w.heap.size
  obj : ∀ (n : Nat) o, H.get n = some o → ∃ e, E[n]? = some e ∧ OR E ι o e w.heap[e.1]?
  sep : ∀ (n m : Nat) o p e d, H.get n = some o → H.get m = some p → n ≠ m → E[n]? = some e → E[m]? = some d → e.1 = d.1 → (o.isView = true ∨ p.isView = true) ∧ (o.isView = false → o.old = some m)
/-- The blocks of these names are in w' as they are in w. -/
def Agree (E : Env) (ns : List Nat) (w w' : World) : Prop := ∀ n ∈ ns, ∀ e, E[n]? = some e → w'.heap[e.1]? = w.heap[e.1]?
theorem Agree.refl (E : Env) (ns : List Nat) (w : World) : Agree E ns w w := fun _ _ _ _ => rfl

/-! ### Cells -/
def Scalars (ι : Nat → Value) : Prop := ∀ i, (ι i).oneCell' = true
theorem cells_of_one {v : Value} (h : v.oneCell' = true) : v.cells = #[v] := by cases v <;> simp [Value.oneCell', Value.cells] at h ⊢
section
variable {E : Env} {ι : Nat → Value}
theorem cv_cells (hι : Scalars ι) {v : AV} {c : Value} (h : cv E ι v = some c) : cvs E ι v.cells = some c.cells.toList := by
  cases v with
  | agg l =>
    simp only [cv, Option.map_eq_some_iff] at h
    obtain ⟨x, hx, rfl⟩ := h
    simpa [AV.cells, Value.cells] using hx
  | opq i =>
    have h' := h
    simp only [cv, Option.some.injEq] at h
    subst h
    rw [cells_of_one (hι i)]
    exact cvs_cons.2 ⟨_, [], h', cvs_nil, rfl⟩
  | _ =>
    have h' := h
    have hc : c.cells = #[c] := by
      simp only [cv, Option.some.injEq, Option.map_eq_some_iff, Option.bind_eq_some_iff] at h
      first
        | (subst h; rfl)
        | (obtain ⟨_, _, rfl⟩ := h; rfl)
        | (obtain ⟨_, _, _, _, rfl⟩ := h; rfl)
    rw [hc]
    exact cvs_cons.2 ⟨_, [], h', cvs_nil, rfl⟩
theorem cv_single (hι : Scalars ι) {v : AV} {c : Value} (h : cv E ι v = some c) (hs : v.single = true) : c.oneCell' = true := by
  cases v with
  | agg l => simp [AV.single] at hs
  | tuple l => simp [AV.single] at hs
  | opq i => simp only [cv, Option.some.injEq] at h; subst h; exact hι i
  | _ =>
    simp only [cv, Option.some.injEq, Option.map_eq_some_iff, Option.bind_eq_some_iff] at h
    first
      | (subst h; rfl)
      | (obtain ⟨_, _, rfl⟩ := h; rfl)
      | (obtain ⟨_, _, _, _, rfl⟩ := h; rfl)

/-! ### Types -/
variable {P : Program} {w : World}
theorem run_undl {t : TypeId} {d : TypeDesc} (h : P.underlying t = some d) : (underlying t).run P w = .ok d w := by simp [underlying, h]
theorem run_szOf {t : TypeId} {n : Nat} (h : szOf P t = some n) : (sizeOf t).run P w = .ok n w := by
  unfold szOf at h
  obtain ⟨i, hi, rfl⟩ := Option.map_eq_some_iff.1 h
  simp [sizeOf, typeInfo, hi]
theorem run_aggT {t : TypeId} {b : Bool} (h : aggT P t = some b) : (isAgg t).run P w = .ok b w := by
  unfold aggT at h
  cases hu : P.underlying t with
  | none => simp [hu] at h
  | some d => cases d <;> simp [hu] at h <;> subst h <;> simp [isAgg, underlying, hu]
theorem run_zeroT {t : TypeId} {a : AV} (h : zeroT P t = some a) : ∃ z, (zeroValue t).run P w = .ok z w ∧ cv E ι a = some z := by
  unfold zeroT at h
  cases hi : P.info? t with
  | none => simp [hi] at h
  | some i =>
    simp only [hi] at h
    cases hz : i.zero with
    | none => simp [hz] at h
    | some z =>
      simp only [hz] at h
      exact ⟨z, by simp [zeroValue, typeInfo, hi, hz], ofV_cv z a h⟩
theorem run_aPart {t : TypeId} {l : List AV} {cs : List Value} (hl : cvs E ι l = some cs) {off : Nat} {v : AV} (h : aPart P t l off = some v) :
    ∃ c, (part t cs.toArray off).run P w = .ok c w ∧ cv E ι v = some c := by
  unfold aPart at h
  cases ha : aggT P t with
  | none => simp [ha] at h
  | some b =>
    cases b with
    | true =>
      cases hs : szOf P t with
      | none => simp [ha, hs] at h
      | some n =>
        simp only [ha, hs, Option.some.injEq] at h
        subst h
        refine ⟨.agg (cs.toArray.extract off (off + n)), by simp [part, run_aggT ha, run_szOf hs], ?_⟩
        simp only [cv, Option.map_eq_some_iff]
        refine ⟨_, cvs_take (cvs_drop hl off) n, ?_⟩
        simp
    | false =>
      simp only [ha] at h
      obtain ⟨c, hc, hg⟩ := (cvs_get hl).2 off v h
      exact ⟨c, by simp [part, run_aggT ha, hg], hc⟩

/-! ### Equality -/
theorem run_allB {f : Field → Option Bool} {d : Nat} {xs ys : List Value} (H : ∀ (g : Field) (b : Bool), f g = some b → ∃ a c, (part g.type xs.toArray g.offset).run P w = .ok a w ∧ (part g.type ys.toArray g.offset).run P w = .ok c w ∧ (Op.equalIn d g.type a c).run P w = .ok b w) :
    ∀ (fs : List Field) (b : Bool), allB f fs = some b → (Op.eqFields d xs.toArray ys.toArray fs).run P w = .ok b w
  | [], b, h => by simp only [allB, Option.some.injEq] at h; subst h; rfl
  | g :: r, b, h => by
    unfold allB at h
    unfold Op.eqFields
    by_cases hn : g.name ≠ "_"
    · rw [if_pos hn] at h ⊢
      cases hf : f g with
      | none => simp [hf] at h
      | some x =>
        obtain ⟨a, c, h1, h2, h3⟩ := H g x hf
        simp only [Sem.run_bind, h1, h2, h3, Result.andThen_ok]
        cases x with
        | true => simp only [hf] at h; simpa using run_allB H r b h
        | false => simp only [hf, Option.some.injEq] at h; subst h; simp
    · rw [if_neg hn] at h ⊢
      exact run_allB H r b h
theorem bytes_eq (a b : List UInt8) : ((⟨a.toArray⟩ : ByteArray) == ⟨b.toArray⟩) = (a == b) := by
  rw [beq_toListBytes, ByteArray.toList_eq, ByteArray.toList_eq]
set_option maxHeartbeats 1000000 in
theorem run_aEq (d : Nat) : ∀ (D : Nat) (t : TypeId) (x y : AV) (a b : Value) (r : Bool), d ≤ D → cv E ι x = some a → cv E ι y = some b → aEq P d t x y = some r → (Op.equalIn D t a b).run P w = .ok r w := by
  induction d with
  | zero => intro _ _ _ _ _ _ _ _ _ _ h; simp [aEq] at h
  | succ d ih =>
    intro D t x y a b r hD hx hy h
    obtain ⟨D, rfl⟩ : ∃ q, D = q + 1 := ⟨D - 1, by omega⟩
    unfold aEq at h
    split at h
    case h_1 u p q hu =>
      simp only [cv, Option.some.injEq] at hx hy h; subst hx hy h
      simp [Op.equalIn, run_undl hu]
    case h_2 u k p k' q hu =>
      simp only [cv, Option.some.injEq] at hx hy; subst hx hy
      split at h
      · rename_i hk; simp only [Option.some.injEq] at h; subst h hk
        simp [Op.equalIn, run_undl hu]
      · cases h
    case h_3 p q hu =>
      simp only [cv, Option.some.injEq] at hx hy h; subst hx hy h
      simp [Op.equalIn, run_undl hu, bytes_eq]
    case h_4 e hu =>
      simp only [cv, Option.some.injEq] at hx hy h; subst hx hy h
      simp [Op.equalIn, run_undl hu]
    case h_5 e n o hu =>
      simp only [cv, Option.some.injEq, Option.map_eq_some_iff] at hx hy h; subst hx h
      obtain ⟨_, _, rfl⟩ := hy
      simp [Op.equalIn, run_undl hu]
    case h_6 e n o hu =>
      simp only [cv, Option.some.injEq, Option.map_eq_some_iff] at hx hy h; subst hy h
      obtain ⟨_, _, rfl⟩ := hx
      simp [Op.equalIn, run_undl hu]
    case h_7 e n o m p hu =>
      simp only [cv, Option.map_eq_some_iff] at hx hy
      obtain ⟨e1, he1, rfl⟩ := hx
      obtain ⟨e2, he2, rfl⟩ := hy
      split at h
      · rename_i z hz
        split at h
        · rename_i hnm
          subst hnm
          rw [he1] at he2
          injection he2 with he2
          subst he2
          simp only [Option.some.injEq] at h
          subst h
          simp only [Op.equalIn, Sem.run_bind, run_undl hu, Result.andThen_ok, run_szOf hz]
          rw [if_pos (Nat.succ_ne_zero z)]
          simp only [sameAddr, beq_self_eq_true, if_true, Sem.run_pure]
          congr 1
          rw [Bool.eq_iff_iff]
          simp
        · cases h
      · cases h
    case h_8 ms hu =>
      simp only [cv, Option.some.injEq] at hx hy h; subst hx hy h
      simp [Op.equalIn, run_undl hu]
    case h_9 ms tv v hu =>
      simp only [cv, Option.some.injEq, Option.map_eq_some_iff] at hx hy h; subst hx h
      obtain ⟨_, _, rfl⟩ := hy
      simp [Op.equalIn, run_undl hu]
    case h_10 ms tv v hu =>
      simp only [cv, Option.some.injEq, Option.map_eq_some_iff] at hx hy h; subst hy h
      obtain ⟨_, _, rfl⟩ := hx
      simp [Op.equalIn, run_undl hu]
    case h_11 ms tx vx ty vy hu =>
      simp only [cv, Option.map_eq_some_iff] at hx hy
      obtain ⟨a', ha, rfl⟩ := hx
      obtain ⟨b', hb, rfl⟩ := hy
      split at h
      · rename_i hne
        simp only [Option.some.injEq] at h
        subst h
        simp [Op.equalIn, run_undl hu, hne]
      · rename_i heq
        have heq : tx = ty := Classical.not_not.1 heq
        subst heq
        split at h
        · rename_i i hi
          split at h
          · rename_i hc
            have := ih D tx vx vy a' b' r (by omega) ha hb h
            simp [Op.equalIn, run_undl hu, typeInfo, hi, hc, this]
          · cases h
        · cases h
    case h_12 fs xs ys hu =>
      simp only [cv, Option.map_eq_some_iff] at hx hy
      obtain ⟨a', ha, rfl⟩ := hx
      obtain ⟨b', hb, rfl⟩ := hy
      split at h
      · cases h
      · rename_i hp
        have hp : P.stoodInHeld t = false := by simpa using hp
        have hf : P.fieldsOf t = fs := by simp [Program.fieldsOf, hu]
        rw [run_equalIn_struct w D t _ _ (by rw [hf]; exact hu) hp, hf]
        refine run_allB (fun g q hg => ?_) fs.toList r h
        split at hg
        · rename_i u v h1 h2
          obtain ⟨c1, hc1, hv1⟩ := run_aPart (w := w) ha h1
          obtain ⟨c2, hc2, hv2⟩ := run_aPart (w := w) hb h2
          exact ⟨c1, c2, hc1, hc2, ih D g.type u v c1 c2 q (by omega) hv1 hv2 hg⟩
        · cases hg
    all_goals first | (cases h; done) | skip
    all_goals
      simp only [cv, Option.some.injEq, Option.map_eq_some_iff, Option.bind_eq_some_iff] at hx hy h
      subst h
      first
        | (subst hx hy; simp [Op.equalIn, run_undl (by assumption : P.underlying t = _)]; done)
        | (subst hx; obtain ⟨_, _, rfl⟩ := hy; simp [Op.equalIn, run_undl (by assumption : P.underlying t = _)]; done)
        | (subst hy; obtain ⟨_, _, rfl⟩ := hx; simp [Op.equalIn, run_undl (by assumption : P.underlying t = _)]; done)
        | (subst hx; obtain ⟨_, _, _, _, rfl⟩ := hy; simp [Op.equalIn, run_undl (by assumption : P.underlying t = _)]; done)
        | (subst hy; obtain ⟨_, _, _, _, rfl⟩ := hx; simp [Op.equalIn, run_undl (by assumption : P.underlying t = _)]; done)
theorem run_aEqual {t : TypeId} {x y : AV} {a b : Value} {r : Bool} (hx : cv E ι x = some a) (hy : cv E ι y = some b) (h : aEqual P t x y = some r) : (Op.equal t a b).run P w = .ok r w :=
  run_aEq 12 Op.maxDepth t x y a b r (by decide) hx hy h
end
end Go.Sx
