/- Operations that write nothing come, in the world, to what the symbolic run says of them. -/
import Derived.Test.YtlkjbijklgdocaaSxD
namespace Go.Sx
open Go Go.RowKit
section
variable {P : Program} {E : Env} {ι : Nat → Value} {tm : TM} {ρ : Operand → Value}
theorem constV_cv {v : Value} {a : AV} (h : constV v = some a) : cv E ι a = some v := by
  unfold constV at h
  split at h
  · simp only [Option.some.injEq] at h; subst h; rfl
  · simp only [Option.some.injEq] at h; subst h; rfl
  · simp only [Option.some.injEq] at h; subst h; rfl
  · exact ofV_cv _ _ h
theorem opv_eval {a : Act} (ht : TMR E ι tm a.tmps) {x : Operand} {v : AV} (h : opv tm x = some v) : cv E ι v = some (a.eval x) := by
  cases x with
  | tmp t => simp only [opv, Option.some.injEq] at h; subst h; exact ht.2 t
  | const c => exact constV_cv h
  | global g => simp [opv] at h
  | func f => simp only [opv, Option.some.injEq] at h; subst h; simp [cv, cvs, Act.eval]
/-- Operands read as the symbolic run reads them. -/
def Opv (E : Env) (ι : Nat → Value) (tm : TM) (ρ : Operand → Value) : Prop := ∀ x v, opv tm x = some v → cv E ι v = some (ρ x)
theorem opvs_cvs (hρ : Opv E ι tm ρ) : ∀ (xs : List Operand) (vs : List AV), opvs tm xs = some vs → cvs E ι vs = some (xs.map ρ)
  | [], vs, h => by simp only [opvs, Option.some.injEq] at h; subst h; exact cvs_nil
  | x :: r, vs, h => by
    simp only [opvs, Option.bind_eq_some_iff, Option.map_eq_some_iff] at h
    obtain ⟨a, ha, b, hb, rfl⟩ := h
    exact cvs_cons.2 ⟨_, _, hρ x a ha, opvs_cvs hρ r b hb, rfl⟩
def cvp (E : Env) (ι : Nat → Value) : List (Nat × AV) → Option (List (Nat × Value))
  | [] => some []
  | (i, v) :: r => (cv E ι v).bind fun a => (cvp E ι r).map fun b => (i, a) :: b
theorem opvp_cvp (hρ : Opv E ι tm ρ) : ∀ (xs : List (Nat × Operand)) (vs : List (Nat × AV)), opvp tm xs = some vs → cvp E ι vs = some (xs.map fun (i, x) => (i, ρ x))
  | [], vs, h => by simp only [opvp, Option.some.injEq] at h; subst h; rfl
  | (i, x) :: r, vs, h => by
    simp only [opvp, Option.bind_eq_some_iff, Option.map_eq_some_iff] at h
    obtain ⟨a, ha, b, hb, rfl⟩ := h
    simp [cvp, hρ x a ha, opvp_cvp hρ r b hb]
theorem optv_cv (hρ : Opv E ι tm ρ) {x : Option Operand} {v : Option AV} (h : optv tm x = some v) : (v = none ∧ x = none) ∨ ∃ a y, v = some a ∧ x = some y ∧ cv E ι a = some (ρ y) := by
  cases x with
  | none => simp only [optv, Option.some.injEq] at h; subst h; exact .inl ⟨rfl, rfl⟩
  | some y =>
    simp only [optv, Option.map_eq_some_iff] at h
    obtain ⟨a, ha, rfl⟩ := h
    exact .inr ⟨a, y, rfl, rfl, hρ y a ha⟩

/-! ### What each comes to -/
/-- The operation yields what r says, wherever the blocks of r's names are as in w. -/
def EOk (P : Program) (E : Env) (ι : Nat → Value) (w : World) (ρ : Operand → Value) (o : Oper) (r : AV × List Nat) : Prop :=
  ∃ c, cv E ι r.1 = some c ∧ ∀ w', Agree E r.2 w w' → (execOp ρ o).run P w' = .ok (.value c) w'
variable {w : World} {o : Oper}
theorem eMove_ok (hρ : Opv E ι tm ρ) {x : Operand} (ho : o.op = .move x ∨ o.op = .assign x) {r : AV × List Nat} (h : eMove tm x = some r) : EOk P E ι w ρ o r := by
  simp only [eMove, Option.map_eq_some_iff] at h
  obtain ⟨v, hv, rfl⟩ := h
  refine ⟨_, hρ x v hv, fun w' _ => ?_⟩
  rcases ho with ho | ho <;> simp [execOp, ho]
theorem ePick_ok (hρ : Opv E ι tm ρ) {c a b : Operand} (ho : o.op = .pick c a b) {r : AV × List Nat} (h : ePick tm c a b = some r) : EOk P E ι w ρ o r := by
  unfold ePick at h
  split at h
  · rename_i hc
    simp only [Option.map_eq_some_iff] at h
    obtain ⟨v, hv, rfl⟩ := h
    have h1 := hρ c _ hc
    simp only [cv, Option.some.injEq] at h1
    exact ⟨_, hρ a v hv, fun w' _ => by simp [execOp, ho, ← h1, asBool]⟩
  · rename_i hc
    simp only [Option.map_eq_some_iff] at h
    obtain ⟨v, hv, rfl⟩ := h
    have h1 := hρ c _ hc
    simp only [cv, Option.some.injEq] at h1
    exact ⟨_, hρ b v hv, fun w' _ => by simp [execOp, ho, ← h1, asBool]⟩
  · cases h
theorem eNil_ok (hρ : Opv E ι tm ρ) {x : Operand} (ho : o.op = .nilCheck x) {r : AV × List Nat} (h : eNil tm x = some r) : EOk P E ι w ρ o r := by
  simp only [eNil, Option.bind_eq_some_iff] at h
  obtain ⟨v, hv, h⟩ := h
  have h1 := hρ x v hv
  split at h
  · rename_i hn
    simp only [Option.some.injEq] at h
    subst h
    refine ⟨_, h1, fun w' _ => ?_⟩
    unfold nilOk at hn
    split at hn <;> first
      | (cases hn; done)
      | (simp only [cv, Option.map_eq_some_iff, Option.bind_eq_some_iff] at h1
         first
          | (obtain ⟨_, _, h1⟩ := h1; simp [execOp, ho, ← h1]; done)
          | (obtain ⟨_, _, _, _, h1⟩ := h1; simp [execOp, ho, ← h1]; done))
  · cases h
/-! #### == and its like -/
theorem isC_eq (x : Operand) : (x matches .const _) = isC x := by cases x <;> rfl
def eqgV (t : TypeId) (x y : Operand) (c d : Value) : Sem Unit := do
  match c, d with
  | .nilIface, .nilIface =>
    if (x matches .const _) || (y matches .const _) then return
    if ← Op.eqGuardIn Op.maxDepth t c d then unsupported (.noEntry "binop/eql: two nil values of an interface type with methods, neither of them the literal nil")
  | .agg _, .agg _ =>
    if !(← program).eqGuardType (← program).depth t then return
    if ← Op.eqGuardIn Op.maxDepth t c d then unsupported (.noEntry "binop/eql: two nil values of an interface type with methods, in a part of a struct or an array")
  | _, _ => pure ()
theorem run_guardOk {op : BinOp} {t : TypeId} {x y : Operand} {a b : AV} {c d : Value} (ha : cv E ι a = some c) (hb : cv E ι b = some d) (h : guardOk P op t x y a b = true) : (eqGuard op t x y c d).run P w = .ok () w := by
  have key : (op = .eql ∨ op = .neq) ∨ (op ≠ .eql ∧ op ≠ .neq) := by cases op <;> simp
  rcases key with hop | hop
  · have hg : eqG P t x y a b = true := by rcases hop with rfl | rfl <;> exact h
    have hu : eqGuard op t x y c d = eqgV t x y c d := by rcases hop with rfl | rfl <;> rfl
    rw [hu]
    clear hu h hop
    unfold eqgV
    unfold eqG at hg
    split
    · have h1 : a = .niface ∨ ∃ i, a = .opq i := by cases a <;> simp_all [cv, Option.bind_eq_some_iff, Option.map_eq_some_iff]
      have h2 : b = .niface ∨ ∃ i, b = .opq i := by cases b <;> simp_all [cv, Option.bind_eq_some_iff, Option.map_eq_some_iff]
      rcases h1 with rfl | ⟨i, rfl⟩
      · rcases h2 with rfl | ⟨i, rfl⟩
        · cases x <;> cases y <;> first | rfl | (simp [isC] at hg; done)
        · cases hg
      · cases b <;> cases hg
    · have h1 : (∃ l, a = .agg l) ∨ ∃ i, a = .opq i := by cases a <;> simp_all [cv, Option.bind_eq_some_iff, Option.map_eq_some_iff]
      have h2 : (∃ l, b = .agg l) ∨ ∃ i, b = .opq i := by cases b <;> simp_all [cv, Option.bind_eq_some_iff, Option.map_eq_some_iff]
      rcases h1 with ⟨l, rfl⟩ | ⟨i, rfl⟩
      · rcases h2 with ⟨m, rfl⟩ | ⟨i, rfl⟩
        · have hm : P.eqGuardType P.depth t = false := by simpa using hg
          simp [hm]
        · cases hg
      · cases b <;> cases hg
    · rfl
  · obtain ⟨h1, h2⟩ := hop
    cases op <;> first | exact absurd rfl h1 | exact absurd rfl h2 | rfl
theorem run_aInt {op : BinOp} {t : TypeId} {k : IntKind} {a b : Int} {v : AV} (hs : op ≠ .shl ∧ op ≠ .shr) (h : aInt op k a b = some v) : ∃ c, cv E ι v = some c ∧ ∀ w', (binOp op t (.int k a) (.int k b)).run P w' = .ok c w' := by
  cases op <;> simp only [aInt] at h
  case shl => exact absurd rfl hs.1
  case shr => exact absurd rfl hs.2
  case quo =>
    split at h
    · cases h
    · rename_i hb
      simp only [Option.some.injEq] at h; subst h
      exact ⟨_, rfl, fun w' => by simp [binOp, Op.intDiv, hb]⟩
  case rem =>
    split at h
    · cases h
    · rename_i hb
      simp only [Option.some.injEq] at h; subst h
      exact ⟨_, rfl, fun w' => by simp [binOp, Op.intDiv, hb]⟩
  all_goals
    simp only [Option.some.injEq] at h; subst h
    exact ⟨_, rfl, fun w' => by simp [binOp, Op.intArith, Op.intBits, Op.intCmp]⟩
theorem run_aShift {op : BinOp} {t : TypeId} {k k' : IntKind} {a b : Int} {v : AV} (hs : op = .shl ∨ op = .shr) (h : aShift op k a b = some v) : ∃ c, cv E ι v = some c ∧ ∀ w', (binOp op t (.int k a) (.int k' b)).run P w' = .ok c w' := by
  unfold aShift at h
  split at h
  · cases h
  · rename_i hb
    rcases hs with rfl | rfl <;> simp only [Option.some.injEq] at h <;> subst h <;> exact ⟨_, rfl, fun w' => by simp [binOp, Op.shift, hb]⟩
theorem run_aStr {op : BinOp} {t : TypeId} {x y : List UInt8} {v : AV} (h : aStr op x y = some v) : ∃ c, cv E ι v = some c ∧ ∀ w', (binOp op t (.string ⟨x.toArray⟩) (.string ⟨y.toArray⟩)).run P w' = .ok c w' := by
  have e1 : (⟨x.toArray⟩ : ByteArray).toList = x := by rw [ByteArray.toList_eq]
  have e2 : (⟨y.toArray⟩ : ByteArray).toList = y := by rw [ByteArray.toList_eq]
  have s1 : (⟨x.toArray⟩ : ByteArray).size = x.length := rfl
  have s2 : (⟨y.toArray⟩ : ByteArray).size = y.length := rfl
  cases op <;> simp only [aStr] at h
  case add =>
    split at h
    · cases h
    · rename_i hb
      simp only [Option.some.injEq] at h; subst h
      refine ⟨_, rfl, fun w' => ?_⟩
      have e : (⟨x.toArray⟩ : ByteArray) ++ ⟨y.toArray⟩ = ⟨(x ++ y).toArray⟩ := by
        apply ByteArray.ext
        simp
      simp only [binOp, Op.stringOp, s1, s2]
      rw [if_neg hb, e]
      rfl
  all_goals first
    | (cases h; done)
    | (simp only [Option.some.injEq] at h; subst h
       exact ⟨_, rfl, fun w' => by simp [binOp, Op.stringOp, e1, e2]⟩)
theorem run_aBin {op : BinOp} {t : TypeId} {x y v : AV} {a b : Value} (hx : cv E ι x = some a) (hy : cv E ι y = some b) (h : aBin P op t x y = some v) : ∃ c, cv E ι v = some c ∧ ∀ w', (binOp op t a b).run P w' = .ok c w' := by
  unfold aBin at h
  split at h
  · rename_i k n k' m
    simp only [cv, Option.some.injEq] at hx hy
    subst hx hy
    split at h
    · exact run_aShift (.inl rfl) h
    · exact run_aShift (.inr rfl) h
    · rename_i h1 h2
      split at h
      · rename_i hk
        subst hk
        exact run_aInt ⟨fun e => h1 e, fun e => h2 e⟩ h
      · cases h
  · simp only [cv, Option.some.injEq] at hx hy
    subst hx hy
    exact run_aStr h
  · cases h
  · cases h
  · rename_i n3 n4 n1 n2
    have na : ∀ k n, ¬ (a = .int k n ∧ ∃ k' m, b = .int k' m) := by
      rintro k n ⟨rfl, k', m, rfl⟩
      cases x <;> simp [cv, Option.bind_eq_some_iff, Option.map_eq_some_iff] at hx
      · cases y <;> simp [cv, Option.bind_eq_some_iff, Option.map_eq_some_iff] at hy
        · exact n1 _ _ _ _ rfl rfl
        · exact n4 _ rfl
      · exact n3 _ rfl
    have nsx : ∀ s s', ¬ (a = .string s ∧ b = .string s') := by
      rintro s s' ⟨rfl, rfl⟩
      cases x <;> simp [cv, Option.bind_eq_some_iff, Option.map_eq_some_iff] at hx
      · cases y <;> simp [cv, Option.bind_eq_some_iff, Option.map_eq_some_iff] at hy
        · exact n2 _ _ rfl rfl
        · exact n4 _ rfl
      · exact n3 _ rfl
    have noq : ∀ i, x ≠ .opq i := fun i e => n3 i e
    have noq' : ∀ i, y ≠ .opq i := fun i e => n4 i e
    clear n1 n2 n3 n4
    -- neither floats nor complex numbers are told of
    have nf : ∀ k f, a ≠ .float k f := by rintro k f rfl; cases x <;> simp [cv, Option.bind_eq_some_iff, Option.map_eq_some_iff] at hx; exact noq _ rfl
    have ncx : ∀ k f g, a ≠ .complex k f g := by rintro k f g rfl; cases x <;> simp [cv, Option.bind_eq_some_iff, Option.map_eq_some_iff] at hx; exact noq _ rfl
    have hop : (op = .eql ∧ ∃ r, aEqual P t x y = some r ∧ v = .bool r) ∨ (op = .neq ∧ ∃ r, aEqual P t x y = some r ∧ v = .bool (!r)) := by
      cases op <;> simp only [reduceCtorEq, Option.map_eq_some_iff] at h
      · obtain ⟨r, hr, rfl⟩ := h; exact .inl ⟨rfl, r, hr, rfl⟩
      · obtain ⟨r, hr, rfl⟩ := h; exact .inr ⟨rfl, r, hr, rfl⟩
    rcases hop with ⟨rfl, r, hr, rfl⟩ | ⟨rfl, r, hr, rfl⟩
    · refine ⟨_, rfl, fun w' => ?_⟩
      have : binOp .eql t a b = (do pure (.bool (← Op.equal t a b))) := by
        clear hx hy hr h noq noq'
        cases a <;> cases b <;> first
          | rfl
          | exact absurd rfl (nf _ _)
          | exact absurd rfl (ncx _ _ _)
          | exact absurd ⟨rfl, _, _, rfl⟩ (na _ _)
          | exact absurd ⟨rfl, rfl⟩ (nsx _ _)
      rw [this]
      simp [run_aEqual hx hy hr]
    · refine ⟨_, rfl, fun w' => ?_⟩
      have : binOp .neq t a b = (do pure (.bool (!(← Op.equal t a b)))) := by
        clear hx hy hr h noq noq'
        cases a <;> cases b <;> first
          | rfl
          | exact absurd rfl (nf _ _)
          | exact absurd rfl (ncx _ _ _)
          | exact absurd ⟨rfl, _, _, rfl⟩ (na _ _)
          | exact absurd ⟨rfl, rfl⟩ (nsx _ _)
      rw [this]
      simp [run_aEqual hx hy hr]
theorem eBin_ok (hρ : Opv E ι tm ρ) {op : BinOp} {t u : TypeId} {x y : Operand} (ho : o.op = .binOp op t x y u) {r : AV × List Nat} (h : eBin P tm op t x y = some r) : EOk P E ι w ρ o r := by
  unfold eBin at h
  split at h
  · rename_i a b ha hb
    split at h
    · rename_i hg
      simp only [Option.map_eq_some_iff] at h
      obtain ⟨v, hv, rfl⟩ := h
      obtain ⟨c, hc, hr⟩ := run_aBin (hρ x a ha) (hρ y b hb) hv
      refine ⟨c, hc, fun w' _ => ?_⟩
      simp [execOp, ho, run_guardOk (hρ x a ha) (hρ y b hb) hg, hr]
    · cases h
  · cases h
theorem eUn_ok (hρ : Opv E ι tm ρ) {op : UnOp} {t : TypeId} {x : Operand} (ho : o.op = .unOp op t x) {r : AV × List Nat} (h : eUn tm op x = some r) : EOk P E ι w ρ o r := by
  simp only [eUn, Option.bind_eq_some_iff, Option.map_eq_some_iff] at h
  obtain ⟨a, ha, v, hv, rfl⟩ := h
  have h1 := hρ x a ha
  unfold aUn at hv
  split at hv <;> first
    | (cases hv; done)
    | (simp only [Option.some.injEq] at hv; subst hv
       simp only [cv, Option.some.injEq] at h1
       exact ⟨_, rfl, fun w' _ => by simp [execOp, ho, ← h1, Op.unary, Op.intArith, Op.intBits]⟩)
theorem eConv_ok (hρ : Opv E ι tm ρ) {s d : TypeId} {x : Operand} (ho : o.op = .convert s d x) {r : AV × List Nat} (h : eConv P tm s d x = some r) : EOk P E ι w ρ o r := by
  unfold eConv at h
  split at h
  · rename_i u k k' n hs hd hx
    simp only [Option.some.injEq] at h; subst h
    have h1 := hρ x _ hx
    simp only [cv, Option.some.injEq] at h1
    exact ⟨_, rfl, fun w' _ => by simp [execOp, ho, ← h1, convert, run_undl hs, run_undl hd, Conv.intToInt]⟩
  · rename_i u b hs hd hx
    simp only [Option.some.injEq] at h; subst h
    have h1 := hρ x _ hx
    refine ⟨_, h1, fun w' _ => ?_⟩
    simp only [cv, Option.some.injEq] at h1
    simp only [execOp, ho, ← h1, convert, Sem.run_bind, run_undl hs, run_undl hd, Result.andThen_ok]
    rfl
  · cases h
theorem eIface_ok (hρ : Opv E ι tm ρ) {t : TypeId} {x : Operand} (ho : o.op = .makeInterface t x) {r : AV × List Nat} (h : eIface P tm t x = some r) : EOk P E ι w ρ o r := by
  unfold eIface at h
  split at h
  · cases h
  · rename_i d hd hu
    simp only [Option.map_eq_some_iff] at h
    obtain ⟨v, hv, rfl⟩ := h
    have h1 := hρ x v hv
    refine ⟨.iface t (ρ x), by simp [cv, h1], fun w' _ => ?_⟩
    simp only [execOp, ho, Instr.makeInterface, Sem.run_bind, run_undl hu, Result.andThen_ok]
    cases d <;> first | rfl | exact absurd rfl (hd _)
  · cases h
theorem map_arr {α β : Type} (f : α → β) (a : Array α) : (a.toList.map f).toArray = a.map f := by rw [← Array.toList_map]
theorem eFunc_ok (hρ : Opv E ι tm ρ) {f : FuncId} {a b : Array Operand} (ho : o.op = .makeFunc (.func f) a b) {r : AV × List Nat} (h : eFunc tm f a b = some r) : EOk P E ι w ρ o r := by
  simp only [eFunc, Option.bind_eq_some_iff, Option.map_eq_some_iff] at h
  obtain ⟨x, hx, y, hy, rfl⟩ := h
  refine ⟨.func (.func f) (a.map ρ) (b.map ρ), ?_, fun w' _ => by simp [execOp, ho, Instr.makeFunc]⟩
  simp only [cv, opvs_cvs hρ _ _ hx, opvs_cvs hρ _ _ hy, Option.bind_some, Option.map_some, map_arr]
theorem eExtract_ok (hρ : Opv E ι tm ρ) {x : Operand} {i : Nat} (ho : o.op = .extract x i) {r : AV × List Nat} (h : eExtract tm x i = some r) : EOk P E ι w ρ o r := by
  unfold eExtract at h
  split at h
  · rename_i vs hx
    simp only [Option.map_eq_some_iff] at h
    obtain ⟨v, hv, rfl⟩ := h
    have h1 := hρ x _ hx
    simp only [cv, Option.map_eq_some_iff] at h1
    obtain ⟨cs, hc, h1⟩ := h1
    obtain ⟨c, h2, h3⟩ := (cvs_get hc).2 i v hv
    exact ⟨c, h2, fun w' _ => by simp [execOp, ho, ← h1, Instr.extract, h3]⟩
  · cases h
theorem aFieldOff_eq {t : TypeId} {f ft off : Nat} (h : aFieldOff P t f = some (ft, off)) : ∃ fs g, P.underlying t = some (.struct fs) ∧ fs[f]? = some g ∧ g.type = ft ∧ g.offset = off := by
  unfold aFieldOff at h
  split at h
  · rename_i fs hu
    split at h
    · rename_i g hg
      simp only [Option.some.injEq, Prod.mk.injEq] at h
      exact ⟨fs, g, hu, hg, h.1, h.2⟩
    · cases h
  · cases h
theorem eField_ok (hρ : Opv E ι tm ρ) {t : TypeId} {x : Operand} {f : Nat} (ho : o.op = .field t x f) {r : AV × List Nat} (h : eField P tm t x f = some r) : EOk P E ι w ρ o r := by
  unfold eField at h
  split at h
  · rename_i ft off cs hf hx
    simp only [Option.map_eq_some_iff] at h
    obtain ⟨v, hv, rfl⟩ := h
    obtain ⟨fs, g, hu, hg, rfl, rfl⟩ := aFieldOff_eq hf
    have h1 := hρ x _ hx
    simp only [cv, Option.map_eq_some_iff] at h1
    obtain ⟨l, hl, h1⟩ := h1
    obtain ⟨c, _, hc⟩ := run_aPart (P := P) (w := w) hl hv
    refine ⟨c, hc, fun w' _ => ?_⟩
    obtain ⟨c', hr', hc'⟩ := run_aPart (P := P) (w := w') hl hv
    rw [hc] at hc'
    injection hc' with hc'
    subst hc'
    simp [execOp, ho, ← h1, Instr.field, run_undl hu, hg, asAgg, hr']
  · cases h
theorem addr_add (b lo n : Nat) : (⟨b, lo, none⟩ : Addr).add n = ⟨b, lo + n, none⟩ := by unfold Addr.add; split <;> simp_all
theorem eFieldAddr_ok (hρ : Opv E ι tm ρ) {t : TypeId} {x : Operand} {f : Nat} (ho : o.op = .fieldAddr t x f) {r : AV × List Nat} (h : eFieldAddr P tm t x f = some r) : EOk P E ι w ρ o r := by
  unfold eFieldAddr at h
  split at h
  · rename_i ft off n p hf hx
    split at h
    · rename_i z hz
      simp only [Option.some.injEq] at h
      subst h
      obtain ⟨fs, g, hu, hg, rfl, rfl⟩ := aFieldOff_eq hf
      have h1 := hρ x _ hx
      simp only [cv, Option.map_eq_some_iff] at h1
      obtain ⟨e, he, h1⟩ := h1
      refine ⟨.pointer (some ⟨e.1, e.2.1 + (p + g.offset), none⟩), by simp [cv, he], fun w' _ => ?_⟩
      simp [execOp, ho, ← h1, Instr.fieldAt, run_undl hu, hg, Instr.sureAddr, fieldPlace, run_szOf hz, addr_add, Nat.add_assoc]
    · cases h
  · cases h
theorem eIndexAddr_ok (hρ : Opv E ι tm ρ) {t : TypeId} {x i : Operand} (ho : o.op = .indexAddr t x i) {r : AV × List Nat} (h : eIndexAddr P tm t x i = some r) : EOk P E ι w ρ o r := by
  unfold eIndexAddr at h
  split at h
  · rename_i a b ha hb
    simp only [Option.map_eq_some_iff] at h
    obtain ⟨v, hv, rfl⟩ := h
    have h1 := hρ x _ ha
    have h2 := hρ i _ hb
    unfold aIndexAt at hv
    split at hv
    · rename_i k n
      simp only [cv, Option.some.injEq] at h2
      split at hv
      all_goals first
        | (cases hv; done)
        | skip
      · rename_i len e m off hu
        split at hv
        · rename_i hi
          simp only [Option.map_eq_some_iff] at hv
          obtain ⟨z, hz, rfl⟩ := hv
          simp only [cv, Option.map_eq_some_iff] at h1
          obtain ⟨d, hd, h1⟩ := h1
          refine ⟨.pointer (some ⟨d.1, d.2.1 + (off + n.toNat * z), none⟩), by simp [cv, hd], fun w' _ => ?_⟩
          simp [execOp, ho, ← h1, ← h2, Instr.indexAt, asIntOf, run_undl hu, Instr.sureAddr, hi, run_szOf hz, addr_add, Nat.add_assoc]
        · cases hv
      · rename_i e m off len cap hu
        split at hv
        · rename_i hi
          simp only [Option.map_eq_some_iff] at hv
          obtain ⟨z, hz, rfl⟩ := hv
          simp only [cv, Option.map_eq_some_iff] at h1
          obtain ⟨d, hd, h1⟩ := h1
          refine ⟨.pointer (some ⟨d.1, d.2.1 + (off + n.toNat * z), none⟩), by simp [cv, hd], fun w' _ => ?_⟩
          simp [execOp, ho, ← h1, ← h2, Instr.indexAt, asIntOf, run_undl hu, Instr.sureAddr, hi, run_szOf hz, addr_add, Nat.add_assoc]
        · cases hv
      · rename_i e m off len cap hu
        split at hv
        · rename_i hi
          simp only [Option.map_eq_some_iff] at hv
          obtain ⟨z, hz, rfl⟩ := hv
          simp only [cv, Option.map_eq_some_iff] at h1
          obtain ⟨d, hd, h1⟩ := h1
          refine ⟨.pointer (some ⟨d.1, d.2.1 + (off + n.toNat * z), none⟩), by simp [cv, hd], fun w' _ => ?_⟩
          simp [execOp, ho, ← h1, ← h2, Instr.indexAt, asIntOf, run_undl hu, Instr.sureAddr, hi, run_szOf hz, addr_add, Nat.add_assoc]
        · cases hv
    · cases hv
  · cases h
theorem eIndex_ok (hρ : Opv E ι tm ρ) {t : TypeId} {x i : Operand} (ho : o.op = .index t x i) {r : AV × List Nat} (h : eIndex P tm t x i = some r) : EOk P E ι w ρ o r := by
  unfold eIndex at h
  split at h
  · rename_i a b ha hb
    simp only [Option.map_eq_some_iff] at h
    obtain ⟨v, hv, rfl⟩ := h
    have h1 := hρ x _ ha
    have h2 := hρ i _ hb
    unfold aIndex at hv
    split at hv
    · rename_i k n
      simp only [cv, Option.some.injEq] at h2
      split at hv
      · rename_i len e cs hu
        split at hv
        · rename_i hi
          simp only [Option.bind_eq_some_iff] at hv
          obtain ⟨z, hz, hv⟩ := hv
          simp only [cv, Option.map_eq_some_iff] at h1
          obtain ⟨l, hl, h1⟩ := h1
          obtain ⟨c, _, hc⟩ := run_aPart (P := P) (w := w) hl hv
          refine ⟨c, hc, fun w' _ => ?_⟩
          obtain ⟨c', hr', hc'⟩ := run_aPart (P := P) (w := w') hl hv
          rw [hc] at hc'
          injection hc' with hc'
          subst hc'
          simp [execOp, ho, ← h1, ← h2, Instr.index, asIntOf, run_undl hu, hi, run_szOf hz, hr']
        · cases hv
      · rename_i s hu
        split at hv
        · rename_i hi
          simp only [Option.map_eq_some_iff] at hv
          obtain ⟨b, hb', rfl⟩ := hv
          simp only [cv, Option.some.injEq] at h1
          refine ⟨_, rfl, fun w' _ => ?_⟩
          have hg : (⟨s.toArray⟩ : ByteArray)[n.toNat]? = some b := by
            have hlt := (List.getElem?_eq_some_iff.1 hb').1
            have : (⟨s.toArray⟩ : ByteArray)[n.toNat]? = s.toArray[n.toNat]? := by
              show (if h : n.toNat < (⟨s.toArray⟩ : ByteArray).size then some ((⟨s.toArray⟩ : ByteArray)[n.toNat]'h) else none) = _
              rw [dif_pos (show n.toNat < (⟨s.toArray⟩ : ByteArray).size from hlt)]
              simp [hlt]
              rfl
            rw [this]
            simpa using hb'
          simp [execOp, ho, ← h1, ← h2, Instr.index, asIntOf, run_undl hu, hi, hg]
        · cases hv
      · cases hv
    · cases hv
  · cases h
end
end Go.Sx
