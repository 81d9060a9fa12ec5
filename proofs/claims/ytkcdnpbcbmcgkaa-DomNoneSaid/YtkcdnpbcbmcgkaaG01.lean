/- The engine and the contracts, part 1. No condition beyond the hypotheses of each theorem. -/
import Derived.Test.YtkcdnpbcbmcgkaaG00
import Derived.Laws.Tables
import Derived.Laws.IdiomStrings
/- Operations that write nothing come, in the world, to what the symbolic run says of them. -/
namespace Go.Sx
open Go Go.RowKit
section
variable {P : Program} {E : Env} {ι : Val} {tm : TM} {ρ : Operand → Value}
theorem constV_cv {v : Value} {a : AV} (h : constV v = some a) : cv E ι a = some v := by
  unfold constV at h
  split at h
  · simp only [Option.some.injEq] at h; subst h; rfl
  · simp only [Option.some.injEq] at h; subst h; rfl
  · simp only [Option.some.injEq] at h; subst h; rfl
  · exact ofV_cv _ _ h
theorem opv_eval {a : Act} (ht : TMR E ι tm a.tmps) {x : Operand} {v : AV} (h : opv tm x = some v) : cv E ι v = some (a.eval x) := by
  cases x with
  | tmp t => simp only [opv, Option.some.injEq] at h; subst h; exact ht.2 t
  | const c => exact constV_cv h
  | global g => simp [opv] at h
  | func f => simp only [opv, Option.some.injEq] at h; subst h; simp [cv, cvs, Act.eval]
/-- Operands read as the symbolic run reads them. -/
def Opv (E : Env) (ι : Val) (tm : TM) (ρ : Operand → Value) : Prop := ∀ x v, opv tm x = some v → cv E ι v = some (ρ x)
theorem opvs_cvs (hρ : Opv E ι tm ρ) : ∀ (xs : List Operand) (vs : List AV), opvs tm xs = some vs → cvs E ι vs = some (xs.map ρ)
  | [], vs, h => by simp only [opvs, Option.some.injEq] at h; subst h; exact cvs_nil
  | x :: r, vs, h => by
    simp only [opvs, Option.bind_eq_some_iff, Option.map_eq_some_iff] at h
    obtain ⟨a, ha, b, hb, rfl⟩ := h
    exact cvs_cons.2 ⟨_, _, hρ x a ha, opvs_cvs hρ r b hb, rfl⟩
def cvp (E : Env) (ι : Val) : List (Nat × AV) → Option (List (Nat × Value))
  | [] => some []
  | (i, v) :: r => (cv E ι v).bind fun a => (cvp E ι r).map fun b => (i, a) :: b
theorem opvp_cvp (hρ : Opv E ι tm ρ) : ∀ (xs : List (Nat × Operand)) (vs : List (Nat × AV)), opvp tm xs = some vs → cvp E ι vs = some (xs.map fun (i, x) => (i, ρ x))
  | [], vs, h => by simp only [opvp, Option.some.injEq] at h; subst h; rfl
  | (i, x) :: r, vs, h => by
    simp only [opvp, Option.bind_eq_some_iff, Option.map_eq_some_iff] at h
    obtain ⟨a, ha, b, hb, rfl⟩ := h
    simp [cvp, hρ x a ha, opvp_cvp hρ r b hb]
theorem optv_cv (hρ : Opv E ι tm ρ) {x : Option Operand} {v : Option AV} (h : optv tm x = some v) : (v = none ∧ x = none) ∨ ∃ a y, v = some a ∧ x = some y ∧ cv E ι a = some (ρ y) := by
  cases x with
  | none => simp only [optv, Option.some.injEq] at h; subst h; exact .inl ⟨rfl, rfl⟩
  | some y =>
    simp only [optv, Option.map_eq_some_iff] at h
    obtain ⟨a, ha, rfl⟩ := h
    exact .inr ⟨a, y, rfl, rfl, hρ y a ha⟩

/-! ### What each comes to -/
/-- The operation yields what r says, wherever the blocks of r's names are as in w. -/
def EOk (P : Program) (E : Env) (ι : Val) (w : World) (ρ : Operand → Value) (o : Oper) (r : AV × List Nat) : Prop :=
  ∃ c, cv E ι r.1 = some c ∧ ∀ w', Agree E r.2 w w' → (execOp ρ o).run P w' = .ok (.value c) w'
variable {w : World} {o : Oper}
theorem eMove_ok (hρ : Opv E ι tm ρ) {x : Operand} (ho : o.op = .move x ∨ o.op = .assign x) {r : AV × List Nat} (h : eMove tm x = some r) : EOk P E ι w ρ o r := by
  simp only [eMove, Option.map_eq_some_iff] at h
  obtain ⟨v, hv, rfl⟩ := h
  refine ⟨_, hρ x v hv, fun w' _ => ?_⟩
  rcases ho with ho | ho <;> simp [execOp, ho]
theorem pcFind_ok {s : SB} : ∀ {pc : List (SB × Bool)}, (∀ x ∈ pc, x.1.den ι = x.2) → ∀ {b : Bool}, pcFind s pc = some b → s.den ι = b
  | [], _, b, h => by simp [pcFind] at h
  | x :: r, hpc, b, h => by
    unfold pcFind at h
    split at h
    · rename_i hx
      simp only [Option.some.injEq] at h; subst h hx
      exact hpc x (by simp)
    · exact pcFind_ok (fun y hy => hpc y (by simp [hy])) h
theorem boolOf_ok {pc : List (SB × Bool)} (hpc : ∀ x ∈ pc, x.1.den ι = x.2) {v : AV} {b : Bool} (h : boolOf pc v = some b) {c : Value} (hc : cv E ι v = some c) : c = .bool b := by
  unfold boolOf at h
  split at h
  · simp only [Option.some.injEq] at h; subst h
    simp only [cv, Option.some.injEq] at hc
    exact hc.symm
  · rename_i s pos
    obtain ⟨x, hx, rfl⟩ := Option.map_eq_some_iff.1 h
    simp only [cv, Option.some.injEq] at hc
    rw [← hc, pcFind_ok hpc hx]
  · cases h
theorem ePick_ok {pc : List (SB × Bool)} (hpc : ∀ x ∈ pc, x.1.den ι = x.2) (hρ : Opv E ι tm ρ) {c a b : Operand} (ho : o.op = .pick c a b) {r : AV × List Nat} (h : ePick pc tm c a b = some r) : EOk P E ι w ρ o r := by
  unfold ePick at h
  split at h
  · rename_i hc
    obtain ⟨cv0, hc0, hc⟩ := Option.bind_eq_some_iff.1 hc
    simp only [Option.map_eq_some_iff] at h
    obtain ⟨v, hv, rfl⟩ := h
    have h1 := boolOf_ok hpc hc (hρ c _ hc0)
    exact ⟨_, hρ a v hv, fun w' _ => by simp [execOp, ho, h1, asBool]⟩
  · rename_i hc
    obtain ⟨cv0, hc0, hc⟩ := Option.bind_eq_some_iff.1 hc
    simp only [Option.map_eq_some_iff] at h
    obtain ⟨v, hv, rfl⟩ := h
    have h1 := boolOf_ok hpc hc (hρ c _ hc0)
    exact ⟨_, hρ b v hv, fun w' _ => by simp [execOp, ho, h1, asBool]⟩
  · cases h
theorem eNil_ok (hρ : Opv E ι tm ρ) {x : Operand} (ho : o.op = .nilCheck x) {r : AV × List Nat} (h : eNil tm x = some r) : EOk P E ι w ρ o r := by
  simp only [eNil, Option.bind_eq_some_iff] at h
  obtain ⟨v, hv, h⟩ := h
  have h1 := hρ x v hv
  split at h
  · rename_i hn
    simp only [Option.some.injEq] at h
    subst h
    refine ⟨_, h1, fun w' _ => ?_⟩
    unfold nilOk at hn
    split at hn <;> first
      | (cases hn; done)
      | (simp only [cv, Option.map_eq_some_iff, Option.bind_eq_some_iff] at h1
         first
          | (obtain ⟨_, _, h1⟩ := h1; simp [execOp, ho, ← h1]; done)
          | (obtain ⟨_, _, _, _, h1⟩ := h1; simp [execOp, ho, ← h1]; done))
  · cases h
/-! #### == and its like -/
theorem isC_eq (x : Operand) : (x matches .const _) = isC x := by cases x <;> rfl
def eqgV (t : TypeId) (x y : Operand) (c d : Value) : Sem Unit := do
  match c, d with
  | .nilIface, .nilIface =>
    if (x matches .const _) || (y matches .const _) then return
    if ← Op.eqGuardIn Op.maxDepth t c d then unsupported (.noEntry "binop/eql: two nil values of an interface type with methods, neither of them the literal nil")
  | .agg _, .agg _ =>
    if !(← program).eqGuardType (← program).depth t then return
    if ← Op.eqGuardIn Op.maxDepth t c d then unsupported (.noEntry "binop/eql: two nil values of an interface type with methods, in a part of a struct or an array")
  | _, _ => pure ()
theorem run_guardOk {op : BinOp} {t : TypeId} {x y : Operand} {a b : AV} {c d : Value} (ha : cv E ι a = some c) (hb : cv E ι b = some d) (h : guardOk P op t x y a b = true) : (eqGuard op t x y c d).run P w = .ok () w := by
  have key : (op = .eql ∨ op = .neq) ∨ (op ≠ .eql ∧ op ≠ .neq) := by cases op <;> simp
  rcases key with hop | hop
  · have hg : eqG P t x y a b = true := by rcases hop with rfl | rfl <;> exact h
    have hu : eqGuard op t x y c d = eqgV t x y c d := by rcases hop with rfl | rfl <;> rfl
    rw [hu]
    clear hu h hop
    unfold eqgV
    unfold eqG at hg
    split
    · have h1 : a = .niface ∨ ∃ i, a = .opq i := by cases a <;> simp_all [cv, Option.bind_eq_some_iff, Option.map_eq_some_iff]
      have h2 : b = .niface ∨ ∃ i, b = .opq i := by cases b <;> simp_all [cv, Option.bind_eq_some_iff, Option.map_eq_some_iff]
      rcases h1 with rfl | ⟨i, rfl⟩
      · rcases h2 with rfl | ⟨i, rfl⟩
        · cases x <;> cases y <;> first | rfl | (simp [isC] at hg; done)
        · cases hg
      · cases b <;> cases hg
    · have h1 : (∃ l, a = .agg l) ∨ ∃ i, a = .opq i := by cases a <;> simp_all [cv, Option.bind_eq_some_iff, Option.map_eq_some_iff]
      have h2 : (∃ l, b = .agg l) ∨ ∃ i, b = .opq i := by cases b <;> simp_all [cv, Option.bind_eq_some_iff, Option.map_eq_some_iff]
      rcases h1 with ⟨l, rfl⟩ | ⟨i, rfl⟩
      · rcases h2 with ⟨m, rfl⟩ | ⟨i, rfl⟩
        · have hm : P.eqGuardType P.depth t = false := by simpa using hg
          simp [hm]
        · cases hg
      · cases b <;> cases hg
    · rfl
  · obtain ⟨h1, h2⟩ := hop
    cases op <;> first | exact absurd rfl h1 | exact absurd rfl h2 | rfl
theorem run_aInt {op : BinOp} {t : TypeId} {k : IntKind} {a b : Int} {v : AV} (hs : op ≠ .shl ∧ op ≠ .shr) (h : aInt op k a b = some v) : ∃ c, cv E ι v = some c ∧ ∀ w', (binOp op t (.int k a) (.int k b)).run P w' = .ok c w' := by
  cases op <;> simp only [aInt] at h
  case shl => exact absurd rfl hs.1
  case shr => exact absurd rfl hs.2
  case quo =>
    split at h
    · cases h
    · rename_i hb
      simp only [Option.some.injEq] at h; subst h
      exact ⟨_, rfl, fun w' => by simp [binOp, Op.intDiv, hb]⟩
  case rem =>
    split at h
    · cases h
    · rename_i hb
      simp only [Option.some.injEq] at h; subst h
      exact ⟨_, rfl, fun w' => by simp [binOp, Op.intDiv, hb]⟩
  all_goals
    simp only [Option.some.injEq] at h; subst h
    exact ⟨_, rfl, fun w' => by simp [binOp, Op.intArith, Op.intBits, Op.intCmp]⟩
theorem run_aShift {op : BinOp} {t : TypeId} {k k' : IntKind} {a b : Int} {v : AV} (hs : op = .shl ∨ op = .shr) (h : aShift op k a b = some v) : ∃ c, cv E ι v = some c ∧ ∀ w', (binOp op t (.int k a) (.int k' b)).run P w' = .ok c w' := by
  unfold aShift at h
  split at h
  · cases h
  · rename_i hb
    rcases hs with rfl | rfl <;> simp only [Option.some.injEq] at h <;> subst h <;> exact ⟨_, rfl, fun w' => by simp [binOp, Op.shift, hb]⟩
theorem run_aStr {op : BinOp} {t : TypeId} {x y : List UInt8} {v : AV} (h : aStr op x y = some v) : ∃ c, cv E ι v = some c ∧ ∀ w', (binOp op t (.string ⟨x.toArray⟩) (.string ⟨y.toArray⟩)).run P w' = .ok c w' := by
  have e1 : (⟨x.toArray⟩ : ByteArray).toList = x := by rw [ByteArray.toList_eq]
  have e2 : (⟨y.toArray⟩ : ByteArray).toList = y := by rw [ByteArray.toList_eq]
  have s1 : (⟨x.toArray⟩ : ByteArray).size = x.length := rfl
  have s2 : (⟨y.toArray⟩ : ByteArray).size = y.length := rfl
  cases op <;> simp only [aStr] at h
  case add =>
    split at h
    · cases h
    · rename_i hb
      simp only [Option.some.injEq] at h; subst h
      refine ⟨_, rfl, fun w' => ?_⟩
      have e : (⟨x.toArray⟩ : ByteArray) ++ ⟨y.toArray⟩ = ⟨(x ++ y).toArray⟩ := by
        apply ByteArray.ext
        simp
      simp only [binOp, Op.stringOp, s1, s2]
      rw [if_neg hb, e]
      rfl
  all_goals first
    | (cases h; done)
    | (simp only [Option.some.injEq] at h; subst h
       exact ⟨_, rfl, fun w' => by simp [binOp, Op.stringOp, e1, e2]⟩)
theorem run_aBinC {op : BinOp} {t : TypeId} {x y v : AV} {a b : Value} (hx : cv E ι x = some a) (hy : cv E ι y = some b) (hns : (isSym x || isSym y) = false) (h : aBinC P op t x y = some v) : ∃ c, cv E ι v = some c ∧ ∀ w', (binOp op t a b).run P w' = .ok c w' := by
  unfold aBinC at h
  split at h
  · rename_i k n k' m
    simp only [cv, Option.some.injEq] at hx hy
    subst hx hy
    split at h
    · exact run_aShift (.inl rfl) h
    · exact run_aShift (.inr rfl) h
    · rename_i h1 h2
      split at h
      · rename_i hk
        subst hk
        exact run_aInt ⟨fun e => h1 e, fun e => h2 e⟩ h
      · cases h
  · simp only [cv, Option.some.injEq] at hx hy
    subst hx hy
    exact run_aStr h
  · cases h
  · cases h
  · rename_i n3 n4 n1 n2
    have na : ∀ k n, ¬ (a = .int k n ∧ ∃ k' m, b = .int k' m) := by
      rintro k n ⟨rfl, k', m, rfl⟩
      cases x <;> simp [cv, Option.bind_eq_some_iff, Option.map_eq_some_iff] at hx
      · cases y <;> simp [cv, Option.bind_eq_some_iff, Option.map_eq_some_iff] at hy
        · exact n1 _ _ _ _ rfl rfl
        · exact n4 _ rfl
        · simp [isSym] at hns
      · exact n3 _ rfl
      · simp [isSym] at hns
    have nsx : ∀ s s', ¬ (a = .string s ∧ b = .string s') := by
      rintro s s' ⟨rfl, rfl⟩
      cases x <;> simp [cv, Option.bind_eq_some_iff, Option.map_eq_some_iff] at hx
      · cases y <;> simp [cv, Option.bind_eq_some_iff, Option.map_eq_some_iff] at hy
        · exact n2 _ _ rfl rfl
        · exact n4 _ rfl
      · exact n3 _ rfl
    have noq : ∀ i, x ≠ .opq i := fun i e => n3 i e
    have noq' : ∀ i, y ≠ .opq i := fun i e => n4 i e
    clear n1 n2 n3 n4
    -- neither floats nor complex numbers are told of
    have nf : ∀ k f, a ≠ .float k f := by rintro k f rfl; cases x <;> simp [cv, Option.bind_eq_some_iff, Option.map_eq_some_iff] at hx; exact noq _ rfl
    have ncx : ∀ k f g, a ≠ .complex k f g := by rintro k f g rfl; cases x <;> simp [cv, Option.bind_eq_some_iff, Option.map_eq_some_iff] at hx; exact noq _ rfl
    have hop : (op = .eql ∧ ∃ r, aEqual P t x y = some r ∧ v = .bool r) ∨ (op = .neq ∧ ∃ r, aEqual P t x y = some r ∧ v = .bool (!r)) := by
      cases op <;> simp only [reduceCtorEq, Option.map_eq_some_iff] at h
      · obtain ⟨r, hr, rfl⟩ := h; exact .inl ⟨rfl, r, hr, rfl⟩
      · obtain ⟨r, hr, rfl⟩ := h; exact .inr ⟨rfl, r, hr, rfl⟩
    rcases hop with ⟨rfl, r, hr, rfl⟩ | ⟨rfl, r, hr, rfl⟩
    · refine ⟨_, rfl, fun w' => ?_⟩
      have : binOp .eql t a b = (do pure (.bool (← Op.equal t a b))) := by
        clear hx hy hr h noq noq'
        cases a <;> cases b <;> first
          | rfl
          | exact absurd rfl (nf _ _)
          | exact absurd rfl (ncx _ _ _)
          | exact absurd ⟨rfl, _, _, rfl⟩ (na _ _)
          | exact absurd ⟨rfl, rfl⟩ (nsx _ _)
      rw [this]
      simp [run_aEqual hx hy hr]
    · refine ⟨_, rfl, fun w' => ?_⟩
      have : binOp .neq t a b = (do pure (.bool (!(← Op.equal t a b)))) := by
        clear hx hy hr h noq noq'
        cases a <;> cases b <;> first
          | rfl
          | exact absurd rfl (nf _ _)
          | exact absurd rfl (ncx _ _ _)
          | exact absurd ⟨rfl, _, _, rfl⟩ (na _ _)
          | exact absurd ⟨rfl, rfl⟩ (nsx _ _)
      rw [this]
      simp [run_aEqual hx hy hr]
theorem toSE_ok {x : AV} {a : Value} (hx : cv E ι x = some a) {k : IntKind} {e : SE} (h : toSE x = some (k, e)) : a = .int k (e.den ι) := by
  unfold toSE at h
  split at h <;> simp only [Option.some.injEq, Prod.mk.injEq, reduceCtorEq] at h
  · obtain ⟨rfl, rfl⟩ := h
    simp only [cv, Option.some.injEq] at hx
    exact hx.symm
  · obtain ⟨rfl, rfl⟩ := h
    simp only [cv, Option.some.injEq] at hx
    exact hx.symm
theorem run_aBin {op : BinOp} {t : TypeId} {x y v : AV} {a b : Value} (hx : cv E ι x = some a) (hy : cv E ι y = some b) (h : aBin P op t x y = some v) : ∃ c, cv E ι v = some c ∧ ∀ w', (binOp op t a b).run P w' = .ok c w' := by
  unfold aBin at h
  split at h
  · rename_i hs
    unfold symBin at h
    rw [if_pos hs] at h
    split at h
    · rename_i k p k' q hp hq
      have ha := toSE_ok hx hp
      have hb := toSE_ok hy hq
      split at h
      · rename_i hk
        subst hk ha hb
        split at h
        · rename_i har
          simp only [Option.some.injEq] at h; subst h
          refine ⟨_, rfl, fun w' => ?_⟩
          cases op <;> first | (cases har; done) | simp [binOp, Op.intArith, SE.den, opI]
        · split at h
          · rename_i hcm
            simp only [Option.some.injEq] at h; subst h
            refine ⟨_, rfl, fun w' => ?_⟩
            cases op <;> first | (cases hcm; done) | simp [binOp, Op.intCmp, SB.den, opB]
          · cases h
      · cases h
    · cases h
  · rename_i hs
    exact run_aBinC hx hy (by simpa using hs) h
theorem eBin_ok (hρ : Opv E ι tm ρ) {op : BinOp} {t u : TypeId} {x y : Operand} (ho : o.op = .binOp op t x y u) {r : AV × List Nat} (h : eBin P tm op t x y = some r) : EOk P E ι w ρ o r := by
  unfold eBin at h
  split at h
  · rename_i a b ha hb
    split at h
    · rename_i hg
      simp only [Option.map_eq_some_iff] at h
      obtain ⟨v, hv, rfl⟩ := h
      obtain ⟨c, hc, hr⟩ := run_aBin (hρ x a ha) (hρ y b hb) hv
      refine ⟨c, hc, fun w' _ => ?_⟩
      simp [execOp, ho, run_guardOk (hρ x a ha) (hρ y b hb) hg, hr]
    · cases h
  · cases h
theorem eUn_ok (hρ : Opv E ι tm ρ) {op : UnOp} {t : TypeId} {x : Operand} (ho : o.op = .unOp op t x) {r : AV × List Nat} (h : eUn tm op x = some r) : EOk P E ι w ρ o r := by
  simp only [eUn, Option.bind_eq_some_iff, Option.map_eq_some_iff] at h
  obtain ⟨a, ha, v, hv, rfl⟩ := h
  have h1 := hρ x a ha
  unfold aUn at hv
  split at hv
  · simp only [Option.some.injEq] at hv; subst hv
    simp only [cv, Option.some.injEq] at h1
    exact ⟨_, rfl, fun w' _ => by simp [execOp, ho, ← h1, Op.unary, Op.intArith, Op.intBits]⟩
  · simp only [Option.some.injEq] at hv; subst hv
    simp only [cv, Option.some.injEq] at h1
    exact ⟨_, rfl, fun w' _ => by simp [execOp, ho, ← h1, Op.unary, Op.intArith, Op.intBits]⟩
  · simp only [Option.some.injEq] at hv; subst hv
    simp only [cv, Option.some.injEq] at h1
    exact ⟨_, rfl, fun w' _ => by simp [execOp, ho, ← h1, Op.unary, Op.intArith, Op.intBits]⟩
  · rename_i s pos
    simp only [Option.some.injEq] at hv; subst hv
    simp only [cv, Option.some.injEq] at h1
    refine ⟨.bool (!(s.den ι == pos)), ?_, fun w' _ => by simp [execOp, ho, ← h1, Op.unary]⟩
    show some (Value.bool (s.den ι == !pos)) = _
    cases s.den ι <;> cases pos <;> rfl
  · cases hv
theorem eConv_ok (hρ : Opv E ι tm ρ) {s d : TypeId} {x : Operand} (ho : o.op = .convert s d x) {r : AV × List Nat} (h : eConv P tm s d x = some r) : EOk P E ι w ρ o r := by
  unfold eConv at h
  split at h
  · rename_i u k k' n hs hd hx
    simp only [Option.some.injEq] at h; subst h
    have h1 := hρ x _ hx
    simp only [cv, Option.some.injEq] at h1
    exact ⟨_, rfl, fun w' _ => by simp [execOp, ho, ← h1, convert, run_undl hs, run_undl hd, Conv.intToInt]⟩
  · rename_i u k k' e hs hd hx
    simp only [Option.some.injEq] at h; subst h
    have h1 := hρ x _ hx
    simp only [cv, Option.some.injEq] at h1
    exact ⟨_, rfl, fun w' _ => by simp [execOp, ho, ← h1, convert, run_undl hs, run_undl hd, Conv.intToInt, SE.den]⟩
  · rename_i u b hs hd hx
    simp only [Option.some.injEq] at h; subst h
    have h1 := hρ x _ hx
    refine ⟨_, h1, fun w' _ => ?_⟩
    simp only [cv, Option.some.injEq] at h1
    simp only [execOp, ho, ← h1, convert, Sem.run_bind, run_undl hs, run_undl hd, Result.andThen_ok]
    rfl
  · cases h
theorem eIface_ok (hρ : Opv E ι tm ρ) {t : TypeId} {x : Operand} (ho : o.op = .makeInterface t x) {r : AV × List Nat} (h : eIface P tm t x = some r) : EOk P E ι w ρ o r := by
  unfold eIface at h
  split at h
  · cases h
  · rename_i d hd hu
    simp only [Option.map_eq_some_iff] at h
    obtain ⟨v, hv, rfl⟩ := h
    have h1 := hρ x v hv
    refine ⟨.iface t (ρ x), by simp [cv, h1], fun w' _ => ?_⟩
    simp only [execOp, ho, Instr.makeInterface, Sem.run_bind, run_undl hu, Result.andThen_ok]
    cases d <;> first | rfl | exact absurd rfl (hd _)
  · cases h
theorem map_arr {α β : Type} (f : α → β) (a : Array α) : (a.toList.map f).toArray = a.map f := by rw [← Array.toList_map]
theorem eFunc_ok (hρ : Opv E ι tm ρ) {f : FuncId} {a b : Array Operand} (ho : o.op = .makeFunc (.func f) a b) {r : AV × List Nat} (h : eFunc tm f a b = some r) : EOk P E ι w ρ o r := by
  simp only [eFunc, Option.bind_eq_some_iff, Option.map_eq_some_iff] at h
  obtain ⟨x, hx, y, hy, rfl⟩ := h
  refine ⟨.func (.func f) (a.map ρ) (b.map ρ), ?_, fun w' _ => by simp [execOp, ho, Instr.makeFunc]⟩
  simp only [cv, opvs_cvs hρ _ _ hx, opvs_cvs hρ _ _ hy, Option.bind_some, Option.map_some, map_arr]
theorem eExtract_ok (hρ : Opv E ι tm ρ) {x : Operand} {i : Nat} (ho : o.op = .extract x i) {r : AV × List Nat} (h : eExtract tm x i = some r) : EOk P E ι w ρ o r := by
  unfold eExtract at h
  split at h
  · rename_i vs hx
    simp only [Option.map_eq_some_iff] at h
    obtain ⟨v, hv, rfl⟩ := h
    have h1 := hρ x _ hx
    simp only [cv, Option.map_eq_some_iff] at h1
    obtain ⟨cs, hc, h1⟩ := h1
    obtain ⟨c, h2, h3⟩ := (cvs_get hc).2 i v hv
    exact ⟨c, h2, fun w' _ => by simp [execOp, ho, ← h1, Instr.extract, h3]⟩
  · cases h
theorem aFieldOff_eq {t : TypeId} {f ft off : Nat} (h : aFieldOff P t f = some (ft, off)) : ∃ fs g, P.underlying t = some (.struct fs) ∧ fs[f]? = some g ∧ g.type = ft ∧ g.offset = off := by
  unfold aFieldOff at h
  split at h
  · rename_i fs hu
    split at h
    · rename_i g hg
      simp only [Option.some.injEq, Prod.mk.injEq] at h
      exact ⟨fs, g, hu, hg, h.1, h.2⟩
    · cases h
  · cases h
theorem eField_ok (hρ : Opv E ι tm ρ) {t : TypeId} {x : Operand} {f : Nat} (ho : o.op = .field t x f) {r : AV × List Nat} (h : eField P tm t x f = some r) : EOk P E ι w ρ o r := by
  unfold eField at h
  split at h
  · rename_i ft off cs hf hx
    simp only [Option.map_eq_some_iff] at h
    obtain ⟨v, hv, rfl⟩ := h
    obtain ⟨fs, g, hu, hg, rfl, rfl⟩ := aFieldOff_eq hf
    have h1 := hρ x _ hx
    simp only [cv, Option.map_eq_some_iff] at h1
    obtain ⟨l, hl, h1⟩ := h1
    obtain ⟨c, _, hc⟩ := run_aPart (P := P) (w := w) hl hv
    refine ⟨c, hc, fun w' _ => ?_⟩
    obtain ⟨c', hr', hc'⟩ := run_aPart (P := P) (w := w') hl hv
    rw [hc] at hc'
    injection hc' with hc'
    subst hc'
    simp [execOp, ho, ← h1, Instr.field, run_undl hu, hg, asAgg, hr']
  · cases h
theorem addr_add (b lo n : Nat) : (⟨b, lo, none⟩ : Addr).add n = ⟨b, lo + n, none⟩ := by unfold Addr.add; split <;> simp_all
theorem eFieldAddr_ok (hρ : Opv E ι tm ρ) {t : TypeId} {x : Operand} {f : Nat} (ho : o.op = .fieldAddr t x f) {r : AV × List Nat} (h : eFieldAddr P tm t x f = some r) : EOk P E ι w ρ o r := by
  unfold eFieldAddr at h
  split at h
  · rename_i ft off n p hf hx
    split at h
    · rename_i z hz
      simp only [Option.some.injEq] at h
      subst h
      obtain ⟨fs, g, hu, hg, rfl, rfl⟩ := aFieldOff_eq hf
      have h1 := hρ x _ hx
      simp only [cv, Option.map_eq_some_iff] at h1
      obtain ⟨e, he, h1⟩ := h1
      refine ⟨.pointer (some ⟨e.1, e.2.1 + (p + g.offset), none⟩), by simp [cv, he], fun w' _ => ?_⟩
      simp [execOp, ho, ← h1, Instr.fieldAt, run_undl hu, hg, Instr.sureAddr, fieldPlace, run_szOf hz, addr_add, Nat.add_assoc]
    · cases h
  · cases h
theorem eIndexAddr_ok (hρ : Opv E ι tm ρ) {t : TypeId} {x i : Operand} (ho : o.op = .indexAddr t x i) {r : AV × List Nat} (h : eIndexAddr P tm t x i = some r) : EOk P E ι w ρ o r := by
  unfold eIndexAddr at h
  split at h
  · rename_i a b ha hb
    simp only [Option.map_eq_some_iff] at h
    obtain ⟨v, hv, rfl⟩ := h
    have h1 := hρ x _ ha
    have h2 := hρ i _ hb
    unfold aIndexAt at hv
    split at hv
    · rename_i k n
      simp only [cv, Option.some.injEq] at h2
      split at hv
      all_goals first
        | (cases hv; done)
        | skip
      · rename_i len e m off hu
        split at hv
        · rename_i hi
          simp only [Option.map_eq_some_iff] at hv
          obtain ⟨z, hz, rfl⟩ := hv
          simp only [cv, Option.map_eq_some_iff] at h1
          obtain ⟨d, hd, h1⟩ := h1
          refine ⟨.pointer (some ⟨d.1, d.2.1 + (off + n.toNat * z), none⟩), by simp [cv, hd], fun w' _ => ?_⟩
          simp [execOp, ho, ← h1, ← h2, Instr.indexAt, asIntOf, run_undl hu, Instr.sureAddr, hi, run_szOf hz, addr_add, Nat.add_assoc]
        · cases hv
      · rename_i e m off len cap hu
        split at hv
        · rename_i hi
          simp only [Option.map_eq_some_iff] at hv
          obtain ⟨z, hz, rfl⟩ := hv
          simp only [cv, Option.map_eq_some_iff] at h1
          obtain ⟨d, hd, h1⟩ := h1
          refine ⟨.pointer (some ⟨d.1, d.2.1 + (off + n.toNat * z), none⟩), by simp [cv, hd], fun w' _ => ?_⟩
          simp [execOp, ho, ← h1, ← h2, Instr.indexAt, asIntOf, run_undl hu, Instr.sureAddr, hi, run_szOf hz, addr_add, Nat.add_assoc]
        · cases hv
      · rename_i e m off len cap hu
        split at hv
        · rename_i hi
          simp only [Option.map_eq_some_iff] at hv
          obtain ⟨z, hz, rfl⟩ := hv
          simp only [cv, Option.map_eq_some_iff] at h1
          obtain ⟨d, hd, h1⟩ := h1
          refine ⟨.pointer (some ⟨d.1, d.2.1 + (off + n.toNat * z), none⟩), by simp [cv, hd], fun w' _ => ?_⟩
          simp [execOp, ho, ← h1, ← h2, Instr.indexAt, asIntOf, run_undl hu, Instr.sureAddr, hi, run_szOf hz, addr_add, Nat.add_assoc]
        · cases hv
    · cases hv
  · cases h
theorem eIndex_ok (hρ : Opv E ι tm ρ) {t : TypeId} {x i : Operand} (ho : o.op = .index t x i) {r : AV × List Nat} (h : eIndex P tm t x i = some r) : EOk P E ι w ρ o r := by
  unfold eIndex at h
  split at h
  · rename_i a b ha hb
    simp only [Option.map_eq_some_iff] at h
    obtain ⟨v, hv, rfl⟩ := h
    have h1 := hρ x _ ha
    have h2 := hρ i _ hb
    unfold aIndex at hv
    split at hv
    · rename_i k n
      simp only [cv, Option.some.injEq] at h2
      split at hv
      · rename_i len e cs hu
        split at hv
        · rename_i hi
          simp only [Option.bind_eq_some_iff] at hv
          obtain ⟨z, hz, hv⟩ := hv
          simp only [cv, Option.map_eq_some_iff] at h1
          obtain ⟨l, hl, h1⟩ := h1
          obtain ⟨c, _, hc⟩ := run_aPart (P := P) (w := w) hl hv
          refine ⟨c, hc, fun w' _ => ?_⟩
          obtain ⟨c', hr', hc'⟩ := run_aPart (P := P) (w := w') hl hv
          rw [hc] at hc'
          injection hc' with hc'
          subst hc'
          simp [execOp, ho, ← h1, ← h2, Instr.index, asIntOf, run_undl hu, hi, run_szOf hz, hr']
        · cases hv
      · rename_i s hu
        split at hv
        · rename_i hi
          simp only [Option.map_eq_some_iff] at hv
          obtain ⟨b, hb', rfl⟩ := hv
          simp only [cv, Option.some.injEq] at h1
          refine ⟨_, rfl, fun w' _ => ?_⟩
          have hg : (⟨s.toArray⟩ : ByteArray)[n.toNat]? = some b := by
            have hlt := (List.getElem?_eq_some_iff.1 hb').1
            have : (⟨s.toArray⟩ : ByteArray)[n.toNat]? = s.toArray[n.toNat]? := by
              show (if h : n.toNat < (⟨s.toArray⟩ : ByteArray).size then some ((⟨s.toArray⟩ : ByteArray)[n.toNat]'h) else none) = _
              rw [dif_pos (show n.toNat < (⟨s.toArray⟩ : ByteArray).size from hlt)]
              simp [hlt]
              rfl
            rw [this]
            simpa using hb'
          simp [execOp, ho, ← h1, ← h2, Instr.index, asIntOf, run_undl hu, hi, hg]
        · cases hv
      · cases hv
    · cases hv
  · cases h
end
end Go.Sx
/- The operations that read memory, or make a value out of parts. -/
namespace Go.Sx
open Go Go.RowKit

/-! ### Parts laid into a list -/
theorem setAt_get (l vs : List AV) (off i : Nat) (h : off + vs.length ≤ l.length) : (setAt l off vs)[i]? = if off ≤ i ∧ i < off + vs.length then vs[i - off]? else l[i]? := by
  unfold setAt
  by_cases h1 : i < off
  · rw [List.append_assoc, List.getElem?_append_left (by simp; omega), List.getElem?_take, if_pos h1, if_neg (by omega)]
  · by_cases h2 : i < off + vs.length
    · rw [if_pos ⟨by omega, h2⟩, List.append_assoc, List.getElem?_append_right (by simp; omega), List.getElem?_append_left (by simp; omega)]
      congr 1
      simp
      omega
    · rw [if_neg (by omega), List.getElem?_append_right (by simp; omega), List.getElem?_drop]
      congr 1
      simp
      omega
theorem setAt_len (l vs : List AV) (off : Nat) (h : off + vs.length ≤ l.length) : (setAt l off vs).length = l.length := by
  unfold setAt
  simp
  omega
/-- A segment of an array is written. -/
def seg (cs : Array Value) (off : Nat) : List Value → Array Value
  | [] => cs
  | v :: r => seg (cs.setIfInBounds off v) (off + 1) r
theorem seg_size : ∀ (vs : List Value) (cs : Array Value) (off : Nat), (seg cs off vs).size = cs.size
  | [], _, _ => rfl
  | v :: r, cs, off => by unfold seg; rw [seg_size]; simp
theorem seg_get : ∀ (vs : List Value) (cs : Array Value) (off i : Nat), off + vs.length ≤ cs.size → (seg cs off vs)[i]? = if off ≤ i ∧ i < off + vs.length then vs[i - off]? else cs[i]?
  | [], cs, off, i, _ => by simp [seg]; omega
  | v :: r, cs, off, i, h => by
    unfold seg
    simp only [List.length_cons] at h
    rw [seg_get r _ (off + 1) i (by simp; omega)]
    by_cases h1 : off + 1 ≤ i ∧ i < off + 1 + r.length
    · rw [if_pos h1, if_pos (by simp; omega)]
      have : i - off = (i - (off + 1)) + 1 := by omega
      rw [this]; rfl
    · rw [if_neg h1]
      by_cases h2 : i = off
      · subst h2
        rw [if_pos (by simp), Nat.sub_self]
        simp [show i < cs.size by omega]
      · rw [if_neg (by simp; omega), Array.getElem?_setIfInBounds_ne (by omega)]
theorem fold_seg : ∀ (vs : List Value) (cs : Array Value) (off k : Nat), ((vs.zipIdx k).foldl (fun (cs : Array Value) (x : Value × Nat) => cs.setIfInBounds (off + x.2) x.1) cs) = seg cs (off + k) vs
  | [], _, _, _ => rfl
  | v :: r, cs, off, k => by
    simp only [List.zipIdx_cons, List.foldl_cons, seg]
    rw [fold_seg r _ off (k + 1)]
    rfl
section
variable {P : Program} {E : Env} {ι : Val} {tm : TM} {ρ : Operand → Value}
theorem cvs_setAt {l vs : List AV} {cs : Array Value} {ws : List Value} (hl : cvs E ι l = some cs.toList) (hv : cvs E ι vs = some ws) {off : Nat} (h : off + vs.length ≤ l.length) : cvs E ι (setAt l off vs) = some (seg cs off ws).toList := by
  obtain ⟨l1, l2⟩ := cvs_get hl
  obtain ⟨v1, v2⟩ := cvs_get hv
  have hsz : off + ws.length ≤ cs.size := by simp at l1; omega
  refine cvs_of_get (by rw [setAt_len _ _ _ h]; simp [seg_size]; simpa using l1) fun i v hi => ?_
  rw [setAt_get _ _ _ _ h] at hi
  rw [Array.getElem?_toList, seg_get _ _ _ _ hsz]
  by_cases c : off ≤ i ∧ i < off + vs.length
  · rw [if_pos c] at hi
    rw [if_pos (by omega)]
    exact v2 _ _ hi
  · rw [if_neg c] at hi
    rw [if_neg (by omega)]
    simpa using l2 _ _ hi
theorem fill_ok (hι : Scalars ι) {place : Nat → Option (Nat × Nat)} : ∀ (ps : List (Nat × AV)) (cps : List (Nat × Value)) (l : List AV) (cs : Array Value) (out : List AV), cvs E ι l = some cs.toList → cvp E ι ps = some cps → aFill place l ps = some out →
    ∃ r, Instr.fill place cs cps = some r ∧ cvs E ι out = some r.toList
  | [], cps, l, cs, out, hl, hp, h => by
    simp only [cvp, Option.some.injEq] at hp; subst hp
    simp only [aFill, Option.some.injEq] at h; subst h
    exact ⟨cs, rfl, hl⟩
  | (i, v) :: r, cps, l, cs, out, hl, hp, h => by
    simp only [cvp, Option.bind_eq_some_iff, Option.map_eq_some_iff] at hp
    obtain ⟨a, ha, b, hb, rfl⟩ := hp
    unfold aFill at h
    unfold Instr.fill
    have hc := cv_cells hι ha
    have hlen := (cvs_get hc).1
    have hll := (cvs_get hl).1
    simp only [Array.length_toList] at hlen hll
    cases hpl : place i with
    | none => simp [hpl] at h
    | some x =>
      obtain ⟨off, size⟩ := x
      simp only [hpl] at h ⊢
      split at h
      · cases h
      · rename_i hn
        simp only [Bool.or_eq_true, bne_iff_ne, ne_eq, decide_eq_true_eq, not_or, Decidable.not_not, Nat.not_lt] at hn
        have : ¬ (a.cells.size ≠ size || decide (off + a.cells.size > cs.size)) = true := by
          simp; omega
        rw [if_neg this]
        have e : (a.cells.zipIdx.foldl (fun (cs : Array Value) (x : Value × Nat) => cs.setIfInBounds (off + x.2) x.1) cs) = seg cs off a.cells.toList := by
          have := fold_seg a.cells.toList cs off 0
          rw [← Array.foldl_toList, Array.toList_zipIdx]
          simpa using this
        rw [e]
        exact fill_ok hι r b _ _ out (cvs_setAt hl hc (by omega)) hb h
theorem places_ok : ∀ (fs : List Field) (pl : List (Nat × Nat)), fieldPlaces P fs = some pl → fs.mapM (fun f => (P.info? f.type).map fun i => (f.offset, i.size)) = some pl
  | [], pl, h => by simp only [fieldPlaces, Option.some.injEq] at h; subst h; rfl
  | f :: r, pl, h => by
    simp only [fieldPlaces, Option.bind_eq_some_iff, Option.map_eq_some_iff] at h
    obtain ⟨n, hn, b, hb, rfl⟩ := h
    unfold szOf at hn
    obtain ⟨i, hi, rfl⟩ := Option.map_eq_some_iff.1 hn
    simp [List.mapM_cons, hi, places_ok r b hb]
theorem zeroT_eq {t : TypeId} {a : AV} (h : zeroT P t = some a) : ∃ i z, P.info? t = some i ∧ i.zero = some z ∧ ofV z = some a := by
  unfold zeroT at h
  cases hi : P.info? t with
  | none => simp [hi] at h
  | some i =>
    simp only [hi] at h
    cases hz : i.zero with
    | none => simp [hz] at h
    | some z => exact ⟨i, z, rfl, hz, by simpa [hz] using h⟩
theorem run_aBuild (hι : Scalars ι) {t : TypeId} {ps : List (Nat × AV)} {cps : List (Nat × Value)} (hp : cvp E ι ps = some cps) {v : AV} (h : aBuild P t ps = some v) :
    ∃ c, cv E ι v = some c ∧ ∀ w, (Instr.build t cps.toArray).run P w = .ok c w := by
  unfold aBuild at h
  obtain ⟨z, hz, h⟩ := Option.bind_eq_some_iff.1 h
  obtain ⟨it, zv, hit, hzv, hof⟩ := zeroT_eq hz
  have hzc := cv_cells hι (ofV_cv (E := E) (ι := ι) zv z hof)
  split at h
  · rename_i fs hu
    simp only [Option.bind_eq_some_iff, Option.map_eq_some_iff] at h
    obtain ⟨pl, hpl, out, hout, rfl⟩ := h
    obtain ⟨r, hr, hrc⟩ := fill_ok hι ps cps _ zv.cells out hzc hp hout
    refine ⟨.agg r, by simp [cv, hrc], fun w => run_build w t cps.toArray r ?_⟩
    simp only [Program.built, hit, hu, hzv, places_ok _ _ hpl]
    simpa using hr
  · rename_i k e hu
    simp only [Option.bind_eq_some_iff, Option.map_eq_some_iff] at h
    obtain ⟨n, hn, out, hout, rfl⟩ := h
    unfold szOf at hn
    obtain ⟨ie, hie, rfl⟩ := Option.map_eq_some_iff.1 hn
    obtain ⟨r, hr, hrc⟩ := fill_ok hι ps cps _ zv.cells out hzc hp hout
    refine ⟨.agg r, by simp [cv, hrc], fun w => run_build w t cps.toArray r ?_⟩
    simp only [Program.built, hit, hu, hzv, hie]
    exact hr
  · cases h
variable {w : World} {o : Oper}
theorem map_arr_pairs (a : Array (Nat × Operand)) (ρ : Operand → Value) : (a.toList.map fun (i, x) => (i, ρ x)).toArray = a.map fun (i, x) => (i, ρ x) := by rw [← Array.toList_map]
theorem eBuild_ok (hι : Scalars ι) (hρ : Opv E ι tm ρ) {t : TypeId} {parts : Array (Nat × Operand)} (ho : o.op = .build t parts) {r : AV × List Nat} (h : eBuild P tm t parts = some r) : EOk P E ι w ρ o r := by
  unfold eBuild at h
  simp only [Option.bind_eq_some_iff, Option.map_eq_some_iff] at h
  obtain ⟨ps, hps, v, hv, rfl⟩ := h
  obtain ⟨c, hc, hr⟩ := run_aBuild hι (opvp_cvp hρ _ _ hps) hv
  refine ⟨c, hc, fun w' _ => ?_⟩
  have := hr w'
  rw [map_arr_pairs] at this
  simp [execOp, ho, this]

/-! ### Slices of slices -/
theorem run_bound {x : AV} {a : Value} (hx : cv E ι x = some a) {y n : Nat} {code : BoundsCode} (h : aBound x y = some n) : (Instr.sliceBound a y code).run P w = .ok n w := by
  unfold aBound at h
  split at h
  · simp only [cv, Option.some.injEq] at hx; subst hx
    split at h
    · rename_i hi
      simp only [Option.some.injEq] at h; subst h
      simp [Instr.sliceBound, asIntOf, hi]
    · cases h
  · cases h
def cvo (E : Env) (ι : Val) (x : Option AV) (a : Option Value) : Prop := match x, a with
  | none, none => True
  | some x, some a => cv E ι x = some a
  | _, _ => False
theorem run_bounds {s : Bool} {len cap : Nat} {lo hi mx : Option AV} {l' h' m' : Option Value} (hl : cvo E ι lo l') (hh : cvo E ι hi h') (hm : cvo E ι mx m') {r : Nat × Nat × Nat} (h : aBounds len cap lo hi mx = some r) :
    (Instr.sliceBounds s len cap l' h' m').run P w = .ok r w := by
  unfold aBounds at h
  simp only [Option.bind_eq_some_iff, Option.map_eq_some_iff] at h
  obtain ⟨m, h1, hh', h2, l, h3, rfl⟩ := h
  unfold Instr.sliceBounds
  cases mx with
  | none =>
    cases m' with
    | some _ => exact hm.elim
    | none =>
      simp only [bndM, Option.some.injEq] at h1; subst h1
      cases hi with
      | none =>
        cases h' with
        | some _ => exact hh.elim
        | none =>
          simp only [bndH, Option.some.injEq] at h2; subst h2
          cases lo with
          | none =>
            cases l' with
            | some _ => exact hl.elim
            | none => simp only [bndL, Option.some.injEq] at h3; subst h3; rfl
          | some x =>
            cases l' with
            | none => exact hl.elim
            | some y => simp [run_bound (P := P) (w := w) (show cv E ι x = some y from hl) h3]
      | some x =>
        cases h' with
        | none => exact hh.elim
        | some y =>
          have e1 := fun code => run_bound (P := P) (w := w) (code := code) (show cv E ι x = some y from hh) h2
          cases lo with
          | none =>
            cases l' with
            | some _ => exact hl.elim
            | none => simp only [bndL, Option.some.injEq] at h3; subst h3; simp [e1]
          | some x =>
            cases l' with
            | none => exact hl.elim
            | some y => simp [e1, run_bound (P := P) (w := w) (show cv E ι x = some y from hl) h3]
  | some x =>
    cases m' with
    | none => exact hm.elim
    | some y =>
      have e0 := fun code => run_bound (P := P) (w := w) (code := code) (show cv E ι x = some y from hm) h1
      cases hi with
      | none => simp [bndH] at h2
      | some x =>
        cases h' with
        | none => exact hh.elim
        | some y =>
          have e1 := fun code => run_bound (P := P) (w := w) (code := code) (show cv E ι x = some y from hh) h2
          cases lo with
          | none =>
            cases l' with
            | some _ => exact hl.elim
            | none => simp only [bndL, Option.some.injEq] at h3; subst h3; simp [e0, e1]
          | some x =>
            cases l' with
            | none => exact hl.elim
            | some y => simp [e0, e1, run_bound (P := P) (w := w) (show cv E ι x = some y from hl) h3]
theorem optv_cvo (hρ : Opv E ι tm ρ) {x : Option Operand} {v : Option AV} (h : optv tm x = some v) : cvo E ι v (x.map ρ) := by
  rcases optv_cv hρ h with ⟨rfl, rfl⟩ | ⟨a, y, rfl, rfl, h2⟩
  · trivial
  · exact h2
/-- A bound within what is there is a bound within what may be there. -/
theorem aBound_mono {x : AV} {y z n : Nat} (h : aBound x y = some n) (hz : y ≤ z) : aBound x z = some n ∧ n ≤ y := by
  unfold aBound at h ⊢
  split at h
  · split at h
    · rename_i hi
      simp only [Option.some.injEq] at h
      refine ⟨?_, by omega⟩
      rw [if_pos ⟨hi.1, by omega⟩, h]
    · cases h
  · cases h
end
end Go.Sx
/- The operations that read memory: slices, loads, maps. All that write nothing, in one theorem. -/
namespace Go.Sx
open Go Go.RowKit
section
variable {P : Program} {E : Env} {ι : Val} {tm : TM} {ρ : Operand → Value} {B : Base} {w0 w : World} {H : AH} {o : Oper}
theorem HR.at' (h : HR B w0 E ι H w) {n : Nat} {ob : AObj} (hn : H.get n = some ob) {ns : List Nat} {w' : World} (ha : Agree E ns w w') (hm : n ∈ ns) : ∃ e, E[n]? = some e ∧ OR E ι ob e w'.heap[e.1]? := by
  obtain ⟨e, he, hr⟩ := h.obj n ob hn
  exact ⟨e, he, by rw [ha n hm e he]; exact hr⟩
theorem HR.rowHas (h : HR B w0 E ι H w) {n k : Nat} (hk : rowHas H n k = true) {e : Nat × Nat × Nat} (he : E[n]? = some e) : e.2.1 + k ≤ e.2.2 := by
  unfold Sx.rowHas at hk
  split at hk
  · rename_i cs _ _ _ hg
    obtain ⟨e', he', hr⟩ := h.obj n _ hg
    rw [he] at he'
    injection he' with he'
    subst he'
    generalize w.heap[e.1]? = ob at hr
    cases hr with
    | row hr => have := hr.len; have := Nat.le_of_ble_eq_true hk; omega
  · cases hk
theorem extract_bytes (s : List UInt8) (l h : Nat) : (⟨s.toArray⟩ : ByteArray).extract l h = ⟨((s.take h).drop l).toArray⟩ := by
  apply ByteArray.ext
  rw [ByteArray.data_extract]
  simp [List.drop_take]
/-- The same bounds, against the capacity. -/
theorem bounds_cap {len C l q m : Nat} {lo hi : Option AV} (hb : aBounds len len lo hi none = some (l, q, m)) (hlen : len ≤ C) : aBounds len C lo hi none = some (l, q, C) ∧ l ≤ q ∧ q ≤ len := by
  unfold aBounds at hb ⊢
  simp only [bndM, Option.bind_some, Option.bind_eq_some_iff, Option.map_eq_some_iff, Prod.mk.injEq] at hb ⊢
  obtain ⟨q', hq, l'', hl'', rfl, rfl, _⟩ := hb
  have hq2 : bndH len C none hi = some q' ∧ q' ≤ len := by
    cases hi with
    | none => simp only [bndH, Option.some.injEq] at hq ⊢; omega
    | some x => exact aBound_mono hq hlen
  have hl2 : l'' ≤ q' := by
    cases lo with
    | none => simp only [bndL, Option.some.injEq] at hl''; omega
    | some x => exact (aBound_mono hl'' (Nat.le_refl _)).2
  exact ⟨⟨q', hq2.1, l'', hl'', by simp⟩, hl2, hq2.2⟩
theorem run_aSlice (hh : HR B w0 E ι H w) {t : TypeId} {x v : AV} {a : Value} (hx : cv E ι x = some a) {lo hi mx : Option AV} {l' h' m' : Option Value} (hl : cvo E ι lo l') (hhi : cvo E ι hi h') (hm : cvo E ι mx m')
    (h : aSlice P H t x lo hi mx = some v) : ∃ c, cv E ι v = some c ∧ ∀ w', (Instr.sliceAt t a l' h' m').run P w' = .ok c w' := by
  unfold aSlice at h
  split at h
  · rename_i s hu
    simp only [cv, Option.some.injEq] at hx; subst hx
    split at h
    · cases h
    · rename_i hmx
      have hmx : mx = none := by simpa using hmx
      subst hmx
      cases m' with
      | some _ => exact hm.elim
      | none =>
        simp only [Option.map_eq_some_iff] at h
        obtain ⟨⟨l, q, m⟩, hb, rfl⟩ := h
        refine ⟨_, rfl, fun w' => ?_⟩
        have := run_bounds (P := P) (w := w') (s := false) hl hhi (show cvo E ι none none from trivial) hb
        have hsz : (⟨s.toArray⟩ : ByteArray).size = s.length := rfl
        simp [Instr.sliceAt, run_undl hu, Instr.slice, hsz, this, extract_bytes]
  · rename_i e len cap hu
    simp only [cv, Option.some.injEq] at hx; subst hx
    simp only [Option.bind_eq_some_iff, Option.map_eq_some_iff] at h
    obtain ⟨⟨l, q, m⟩, hb, z, hz, rfl⟩ := h
    refine ⟨_, rfl, fun w' => ?_⟩
    have := run_bounds (P := P) (w := w') (s := true) hl hhi hm hb
    simp [Instr.sliceAt, run_undl hu, Instr.slice, this, run_szOf hz]
  · rename_i e n off len cap hu
    simp only [cv, Option.map_eq_some_iff] at hx
    obtain ⟨d, hd, rfl⟩ := hx
    simp only [Option.bind_eq_some_iff, Option.map_eq_some_iff] at h
    obtain ⟨⟨l, q, m⟩, hb, z, hz, rfl⟩ := h
    refine ⟨.slice (some ⟨d.1, d.2.1 + (if m = l then off else off + l * z), none⟩) (q - l) (m - l), by simp [cv, hd], fun w' => ?_⟩
    have := run_bounds (P := P) (w := w') (s := true) hl hhi hm hb
    simp only [Instr.sliceAt, Sem.run_bind, run_undl hu, Result.andThen_ok, Instr.slice, this, run_szOf hz, Sem.run_pure, Option.map_some, addr_add]
    split <;> simp [Nat.add_assoc]
  · rename_i e n off len z hu
    simp only [cv, Option.map_eq_some_iff] at hx
    obtain ⟨d, hd, rfl⟩ := hx
    split at h
    · rename_i z' hz
      split at h
      · rename_i hc
        obtain ⟨rfl, hrow⟩ := hc
        have hcap := hh.rowHas hrow hd
        cases m' with
        | some _ => exact hm.elim
        | none =>
          simp only [Option.bind_eq_some_iff] at h
          obtain ⟨⟨l, q, m⟩, hb, h⟩ := h
          generalize hC : (d.2.2 - d.2.1 - off) / (z' + 1) = C at *
          have hlen : len ≤ C := by
            rw [← hC, Nat.le_div_iff_mul_le (by omega)]
            omega
          obtain ⟨hb2, hle, hle2⟩ := bounds_cap hb hlen
          split at h
          · rename_i hlq
            simp only [Option.some.injEq] at h
            subst h
            simp only at hlq
            refine ⟨.slice (some ⟨d.1, d.2.1 + (off + l * (z' + 1)), none⟩) (q - l) ((d.2.2 - d.2.1 - (off + l * (z' + 1))) / (z' + 1)), by simp [cv, hd], fun w' => ?_⟩
            have := run_bounds (P := P) (w := w') (s := true) hl hhi (show cvo E ι none none from trivial) hb2
            have e1 : (d.2.2 - d.2.1 - (off + l * (z' + 1))) / (z' + 1) = C - l := by
              rw [← hC, ← Nat.sub_sub, Nat.mul_comm, Nat.sub_mul_div]
            simp only [Instr.sliceAt, Sem.run_bind, run_undl hu, Result.andThen_ok, Instr.slice, this, run_szOf hz, Sem.run_pure, Option.map_some, addr_add, e1]
            rcases hlq with hlq | rfl
            · rw [if_neg (by omega), Nat.add_assoc]
            · simp
          · rename_i hlq
            simp only [Option.some.injEq] at h
            subst h
            simp only at hlq
            have hql : q = l := by omega
            subst hql
            refine ⟨.slice (some ⟨d.1, if C = q then d.2.1 + off else d.2.1 + off + q * (z' + 1), none⟩) 0 (C - q), by simp [cv, hd, hC], fun w' => ?_⟩
            have := run_bounds (P := P) (w := w') (s := true) hl hhi (show cvo E ι none none from trivial) hb2
            simp only [Instr.sliceAt, Sem.run_bind, run_undl hu, Result.andThen_ok, Instr.slice, this, run_szOf hz, Sem.run_pure, Option.map_some, addr_add, Nat.sub_self]
            split <;> simp
      · cases h
    · cases h
  · rename_i e n off l0 z hu
    simp only [cv, Option.map_eq_some_iff] at hx
    obtain ⟨d, hd, rfl⟩ := hx
    split at h
    · rename_i z' hz
      cases m' with
      | some _ => exact hm.elim
      | none =>
        simp only [Option.map_eq_some_iff] at h
        obtain ⟨⟨l, q, m⟩, hb, rfl⟩ := h
        generalize hC : (d.2.2 - d.2.1 - off) / z - l0 = C at *
        obtain ⟨hb2, hle, hle2⟩ := bounds_cap hb (Nat.zero_le C)
        have hq : q = 0 := by omega
        have hl0 : l = 0 := by omega
        subst hq hl0
        refine ⟨_, by simp only [cv, hd, Option.map_some, hC]; rfl, fun w' => ?_⟩
        have := run_bounds (P := P) (w := w') (s := true) hl hhi (show cvo E ι none none from trivial) hb2
        simp only [Instr.sliceAt, Sem.run_bind, run_undl hu, Result.andThen_ok, Instr.slice, this, run_szOf hz, Sem.run_pure, Option.map_some, addr_add, Nat.sub_zero, Nat.zero_mul, Nat.add_zero, ite_self]
    · cases h
  · rename_i e a0 hu
    simp only [cv, Option.some.injEq] at hx
    subst hx
    split at h
    · rename_i z' hz
      cases m' with
      | some _ => exact hm.elim
      | none =>
        simp only [Option.map_eq_some_iff] at h
        obtain ⟨⟨l, q, m⟩, hb, rfl⟩ := h
        obtain ⟨hb2, hle, hle2⟩ := bounds_cap hb (Nat.zero_le 0)
        have hq : q = 0 := by omega
        have hl0 : l = 0 := by omega
        subst hq hl0
        refine ⟨_, by simp only [cv]; rfl, fun w' => ?_⟩
        have := run_bounds (P := P) (w := w') (s := true) hl hhi (show cvo E ι none none from trivial) hb2
        simp only [Instr.sliceAt, Sem.run_bind, run_undl hu, Result.andThen_ok, Instr.slice, this, run_szOf hz, Sem.run_pure, Option.map_some, Nat.sub_zero, Nat.zero_mul, if_true]
    · cases h
  · rename_i k e n off hu
    simp only [cv, Option.map_eq_some_iff] at hx
    obtain ⟨d, hd, rfl⟩ := hx
    simp only [Option.bind_eq_some_iff, Option.map_eq_some_iff] at h
    obtain ⟨⟨l, q, m⟩, hb, z, hz, rfl⟩ := h
    refine ⟨.slice (some ⟨d.1, d.2.1 + (if m = l then off else off + l * z), none⟩) (q - l) (m - l), by simp [cv, hd], fun w' => ?_⟩
    have := run_bounds (P := P) (w := w') (s := false) hl hhi hm hb
    simp only [Instr.sliceAt, Sem.run_bind, run_undl hu, Result.andThen_ok, Instr.sureAddr, this, run_szOf hz, Sem.run_pure, addr_add]
    split <;> simp [Nat.add_assoc]
  · cases h
theorem eSlice_ok (hh : HR B w0 E ι H w) (hρ : Opv E ι tm ρ) {t : TypeId} {x : Operand} {lo hi mx : Option Operand} (ho : o.op = .slice t x lo hi mx) {r : AV × List Nat} (h : eSlice P H tm t x lo hi mx = some r) : EOk P E ι w ρ o r := by
  unfold eSlice at h
  split at h
  · rename_i a b c d ha hb hc hd
    simp only [Option.map_eq_some_iff] at h
    obtain ⟨v, hv, rfl⟩ := h
    obtain ⟨c', h1, h2⟩ := run_aSlice hh (hρ x a ha) (optv_cvo hρ hb) (optv_cvo hρ hc) (optv_cvo hρ hd) hv
    exact ⟨c', h1, fun w' _ => by simp [execOp, ho, h2]⟩
  · cases h

/-! ### Loads -/
theorem cell_of_heap {w : World} {b k : Nat} {cs : Array Value} {t : TypeId} {fz : Nat × Nat} (h : w.heap[b]? = some (.cells cs t fz)) : w.cell? ⟨b, k, none⟩ = cs[k]? := by simp [World.cell?, h]
theorem run_loadRow {w : World} {cells : List AV} {t : TypeId} {ex : Bool} {e : Nat × Nat × Nat} {cs : Array Value} {fz : Nat × Nat} (hr : RowR E ι cells t ex e cs fz) (hb : w.heap[e.1]? = some (.cells cs t fz)) {off n : Nat} (hn : off + n ≤ cells.length) :
    ∃ l, cvs E ι ((cells.drop off).take n) = some l ∧ (loadCells ⟨e.1, e.2.1 + off, none⟩ n).run P w = .ok l.toArray w := by
  let l : List Value := (cs.toList.drop (e.2.1 + off)).take n
  have hfit := hr.fits
  have hlen := hr.len
  have hl : l.length = n := by simp [l]; omega
  have hc : cvs E ι ((cells.drop off).take n) = some l := by
    refine cvs_of_get (by simp [hl]; omega) fun i v hv => ?_
    rw [List.getElem?_take] at hv
    split at hv
    · rename_i hi
      rw [List.getElem?_drop] at hv
      obtain ⟨c, h1, h2⟩ := hr.at_ _ v hv
      refine ⟨c, h1, ?_⟩
      simp only [l]
      rw [List.getElem?_take, if_pos hi, List.getElem?_drop, Array.getElem?_toList, ← h2]
      congr 1
      omega
    · cases hv
  refine ⟨l, hc, ?_⟩
  have := run_loadCells_list (P := P) w ⟨e.1, e.2.1 + off, none⟩ l (fun j v hj => by
    rw [addr_add, cell_of_heap hb]
    simp only [l] at hj
    rw [List.getElem?_take] at hj
    split at hj
    · rw [List.getElem?_drop, Array.getElem?_toList] at hj
      exact hj
    · cases hj)
  rwa [hl] at this
theorem run_aLoad (hh : HR B w0 E ι H w) {t : TypeId} {n off : Nat} {v : AV} (h : aLoad P H t n off = some v) {e : Nat × Nat × Nat} (he : E[n]? = some e) :
    ∃ c, cv E ι v = some c ∧ ∀ w', Agree E [n] w w' → (loadVar t ⟨e.1, e.2.1 + off, none⟩).run P w' = .ok c w' := by
  unfold aLoad at h
  split at h
  · rename_i cs t' ex st hg ha
    split at h
    · rename_i k hk
      split at h
      · rename_i hlen
        simp only [Option.some.injEq] at h
        subst h
        obtain ⟨e', he', hr⟩ := hh.obj n _ hg
        rw [he] at he'; injection he' with he'; subst he'
        generalize hob : w.heap[e.1]? = ob at hr
        cases hr with
        | @row cells t1 ex1 st1 e1 cs' fz hr =>
          obtain ⟨l, hl, _⟩ := run_loadRow (P := P) hr hob hlen
          refine ⟨.agg l.toArray, by simp [cv, hl], fun w' hw => ?_⟩
          have hb' : w'.heap[e.1]? = some (.cells cs' t' fz) := by rw [hw n (by simp) e he]; exact hob
          obtain ⟨l', hl', hrun⟩ := run_loadRow (P := P) hr hb' hlen
          rw [hl] at hl'; injection hl' with hl'; subst hl'
          simp [loadVar, run_aggT ha, run_szOf hk, hrun]
      · cases h
    · cases h
  · rename_i cs t' ex st hg ha
    obtain ⟨e', he', hr⟩ := hh.obj n _ hg
    rw [he] at he'; injection he' with he'; subst he'
    generalize hob : w.heap[e.1]? = ob at hr
    cases hr with
    | @row cells t1 ex1 st1 e1 cs' fz hr =>
      obtain ⟨c, h1, h2⟩ := hr.at_ off v h
      refine ⟨c, h1, fun w' hw => ?_⟩
      have hb' : w'.heap[e.1]? = some (.cells cs' t' fz) := by rw [hw n (by simp) e he]; exact hob
      simp [loadVar, run_aggT ha, cell_of_heap hb', h2]
  · cases h
theorem eLoad_ok (hh : HR B w0 E ι H w) (hρ : Opv E ι tm ρ) {t : TypeId} {x : Operand} (ho : o.op = .load t x) {r : AV × List Nat} (h : eLoad P H tm t x = some r) : EOk P E ι w ρ o r := by
  unfold eLoad at h
  split at h
  · rename_i n off hx
    simp only [Option.map_eq_some_iff] at h
    obtain ⟨v, hv, rfl⟩ := h
    have h1 := hρ x _ hx
    simp only [cv, Option.map_eq_some_iff] at h1
    obtain ⟨e, he, h1⟩ := h1
    obtain ⟨c, hc, hr⟩ := run_aLoad hh hv he
    exact ⟨c, hc, fun w' hw => by simp [execOp, ho, ← h1, Instr.loadAt, Instr.sureAddr, hr w' hw]⟩
  · cases h
end
end Go.Sx
/- Maps are asked; all operations that write nothing, in one theorem. -/
namespace Go.Sx
open Go Go.RowKit
theorem run_getObj {P : Program} {w : World} {b : Nat} {ob : Obj} (h : w.heap[b]? = some ob) (hc : ∀ c t f, ob ≠ .cells c t f) : (getObj b).run P w = .ok ob w := by
  simp only [getObj, Sem.run, h]
section
variable {P : Program} {E : Env} {ι : Val} {tm : TM} {ρ : Operand → Value} {B : Base} {w0 w : World} {H : AH} {o : Oper}
theorem cvE_get {es : List (AV × AV × Nat)} {ces : List MapEntry} (h : cvE E ι es = some ces) : ces.length = es.length ∧ ∀ (i : Nat) e, es[i]? = some e → ∃ k v, cv E ι e.1 = some k ∧ cv E ι e.2.1 = some v ∧ ces[i]? = some ⟨k, v, e.2.2⟩ := by
  induction es generalizing ces with
  | nil => simp only [cvE, Option.some.injEq] at h; subst h; exact ⟨rfl, by simp⟩
  | cons e r ih =>
    simp only [cvE, Option.bind_eq_some_iff, Option.map_eq_some_iff] at h
    obtain ⟨k, hk, v, hv, b, hb, rfl⟩ := h
    obtain ⟨h1, h2⟩ := ih hb
    refine ⟨by simp [h1], fun i e' he => ?_⟩
    cases i with
    | zero => simp at he; subst he; exact ⟨k, v, hk, hv, rfl⟩
    | succ i => simp at he; simpa using h2 i e' he
theorem cvE_of_get {es : List (AV × AV × Nat)} {ces : List MapEntry} (h1 : ces.length = es.length) (h2 : ∀ (i : Nat) e, es[i]? = some e → ∃ k v, cv E ι e.1 = some k ∧ cv E ι e.2.1 = some v ∧ ces[i]? = some ⟨k, v, e.2.2⟩) : cvE E ι es = some ces := by
  induction es generalizing ces with
  | nil => rw [List.length_eq_zero_iff.1 h1]; rfl
  | cons e r ih =>
    cases ces with
    | nil => simp at h1
    | cons c cs =>
      obtain ⟨k, v, hk, hv, hc⟩ := h2 0 e rfl
      simp at hc
      have := ih (ces := cs) (by simpa using h1) (fun i e' he => by simpa using h2 (i + 1) e' (by simpa using he))
      simp [cvE, hk, hv, this, hc]
theorem run_keyOk (em : Bool) (d : Nat) : ∀ (D : Nat) (t : TypeId) (x : AV) (a : Value), d ≤ D → cv E ι x = some a → keyOk P d t x = true → (Instr.checkKey em D t a).run P w = .ok () w := by
  induction d with
  | zero => intro _ _ _ _ _ _ h; simp [keyOk] at h
  | succ d ih =>
    intro D t x a hD hx h
    obtain ⟨D, rfl⟩ : ∃ q, D = q + 1 := ⟨D - 1, by omega⟩
    unfold keyOk at h
    unfold Instr.checkKey
    split at h
    · rename_i hu
      simp only [cv, Option.some.injEq] at hx; subst hx
      simp [run_undl hu]
    · rename_i hu
      simp only [cv, Option.some.injEq] at hx; subst hx
      simp [run_undl hu]
    · rename_i hu
      simp only [cv, Option.some.injEq] at hx; subst hx
      simp [run_undl hu]
    · rename_i fs cs hu
      simp only [cv, Option.map_eq_some_iff] at hx
      obtain ⟨l, hl, rfl⟩ := hx
      simp only [Sem.run_bind, run_undl hu, Result.andThen_ok]
      rw [← Array.forIn_toList]
      clear hu
      generalize fs.toList = L at h
      induction L with
      | nil => simp
      | cons f L ihL =>
        simp only [List.all_cons, Bool.and_eq_true, Bool.or_eq_true, beq_iff_eq] at h
        obtain ⟨h1, h2⟩ := h
        simp only [List.forIn_cons, Sem.run_bind]
        by_cases hn : f.name = "_"
        · simp only [hn, ne_eq, not_true_eq_false, if_false, Sem.run_pure, Result.andThen_ok]
          exact ihL h2
        · rcases h1 with h1 | h1
          · exact absurd h1 hn
          · split at h1
            · rename_i p hp
              obtain ⟨c, hc, hcv⟩ := run_aPart (P := P) (w := w) hl hp
              have := ih D f.type p c (by omega) hcv h1
              simp only [hn, ne_eq, not_false_eq_true, if_true, Sem.run_bind, hc, Result.andThen_ok, this, Sem.run_pure]
              exact ihL h2
            · cases h1
    · cases h
def FindR (E : Env) (ι : Val) (es : List (AV × AV × Nat)) (i : Nat) : Option (Nat × AV) → Option (Nat × Value) → Prop
  | none, none => True
  | some (j, v), some (j', v') => j = j' ∧ cv E ι v = some v' ∧ i ≤ j ∧ ∃ e, es[j - i]? = some e ∧ e.2.1 = v
  | _, _ => False
theorem run_findAsking {kt : TypeId} {k : AV} {kv : Value} (hk : cv E ι k = some kv) : ∀ (es : List (AV × AV × Nat)) (ces : List MapEntry) (i : Nat) (r : Option (Nat × AV)), cvE E ι es = some ces → aFind P kt k es i = some r →
    ∃ r', (Instr.findAsking kt kv ces i).run P w = .ok r' w ∧ FindR E ι es i r r'
  | [], ces, i, r, hE, h => by
    simp only [cvE, Option.some.injEq] at hE; subst hE
    simp only [aFind, Option.some.injEq] at h; subst h
    exact ⟨none, rfl, trivial⟩
  | e :: es, ces, i, r, hE, h => by
    simp only [cvE, Option.bind_eq_some_iff, Option.map_eq_some_iff] at hE
    obtain ⟨k', hk', v', hv', b, hb, rfl⟩ := hE
    unfold aFind at h
    unfold Instr.findAsking
    split at h
    · rename_i he
      simp only [Option.some.injEq] at h; subst h
      exact ⟨some (i, v'), by simp [run_aEqual hk hk' he], rfl, hv', Nat.le_refl _, e, by simp, rfl⟩
    · rename_i he
      obtain ⟨r', h1, h2⟩ := run_findAsking hk es b (i + 1) r hb h
      refine ⟨r', by simp [run_aEqual hk hk' he, h1], ?_⟩
      cases r with
      | none => cases r' with
        | none => trivial
        | some _ => exact h2
      | some x =>
        cases r' with
        | none => exact h2
        | some y =>
          obtain ⟨q1, q2, q3, e', q4, q5⟩ := h2
          refine ⟨q1, q2, by omega, e', ?_, q5⟩
          rw [show x.1 - i = (x.1 - (i + 1)) + 1 by omega]
          simpa using q4
    · cases h
theorem sameNow_run' {u : TypeDesc} {t : TypeId} (hu : P.underlying t = some u) {a b : Value} {s : Bool} (h : Instr.sameNow u a b = some s) (d : Nat) : (Op.equalIn (d + 1) t a b).run P w = .ok s w := by
  unfold Instr.sameNow at h
  split at h
  · split at h
    · rename_i hk
      simp only [Option.some.injEq] at h; subst h hk
      simp [Op.equalIn, run_undl hu]
    · cases h
  · simp only [Option.some.injEq] at h; subst h
    simp [Op.equalIn, run_undl hu]
  · simp only [Option.some.injEq] at h; subst h
    simp [Op.equalIn, run_undl hu]
  · cases h
theorem sameNow_run {u : TypeDesc} {t : TypeId} (hu : P.underlying t = some u) {a b : Value} {s : Bool} (h : Instr.sameNow u a b = some s) : (Op.equal t a b).run P w = .ok s w := sameNow_run' hu h 9999
theorem findNow_asking {u : TypeDesc} {kt : TypeId} (hu : P.underlying kt = some u) {kv : Value} : ∀ (ces : List MapEntry) (i : Nat) (r : Option (Nat × Value)), Instr.findNow u kv ces i = some r → (Instr.findAsking kt kv ces i).run P w = .ok r w
  | [], i, r, h => by simp only [Instr.findNow, Option.some.injEq] at h; subst h; rfl
  | e :: es, i, r, h => by
    unfold Instr.findNow at h
    unfold Instr.findAsking
    split at h
    · rename_i hs
      simp only [Option.some.injEq] at h; subst h
      simp [sameNow_run (w := w) hu hs]
    · rename_i hs
      simp [sameNow_run (w := w) hu hs, findNow_asking hu es (i + 1) r h]
    · cases h
theorem run_aFind {kt : TypeId} {u : TypeDesc} (hu : P.underlying kt = some u) {k : AV} {kv : Value} (hk : cv E ι k = some kv) {es : List (AV × AV × Nat)} {ces : List MapEntry} (hE : cvE E ι es = some ces) {r : Option (Nat × AV)} (h : aFind P kt k es 0 = some r) :
    ∃ r', (Instr.findKey kt kv ces).run P w = .ok r' w ∧ FindR E ι es 0 r r' := by
  obtain ⟨r', h1, h2⟩ := run_findAsking (P := P) (w := w) hk es ces 0 r hE h
  refine ⟨r', ?_, h2⟩
  unfold Instr.findKey
  simp only [Sem.run_bind, run_undl hu, Result.andThen_ok]
  cases hn : Instr.findNow u kv ces 0 with
  | none => exact h1
  | some q =>
    have := findNow_asking (w := w) hu ces 0 q hn
    rw [h1] at this
    injection this with this
    subst this
    rfl
theorem keyOk_undl {d : Nat} {t : TypeId} {v : AV} (h : keyOk P d t v = true) : ∃ u, P.underlying t = some u := by
  cases d with
  | zero => simp [keyOk] at h
  | succ d =>
    unfold keyOk at h
    split at h <;> first | exact ⟨_, by assumption⟩ | cases h
theorem mapK_eq {t kt et : TypeId} (h : mapK P t = some (kt, et)) : P.underlying t = some (.map kt et) := by
  unfold mapK at h
  split at h
  · rename_i hu; simp only [Option.some.injEq, Prod.mk.injEq] at h; obtain ⟨rfl, rfl⟩ := h; exact hu
  · cases h
theorem cv_okd {ok b : Bool} {v : AV} {c : Value} (h : cv E ι v = some c) : cv E ι (okd ok v b) = some (if ok then .tuple #[c, .bool b] else c) := by
  cases ok
  · exact h
  · simp [okd, cv, cvs, h]
theorem eLookup_ok (hh : HR B w0 E ι H w) (hρ : Opv E ι tm ρ) {t : TypeId} {x i : Operand} {ok : Bool} (ho : o.op = .lookup t x i ok) {r : AV × List Nat} (h : eLookup P H tm t x i ok = some r) : EOk P E ι w ρ o r := by
  unfold eLookup at h
  split at h
  · rename_i kt et k hm hx hi
    have hu := mapK_eq hm
    split at h
    · rename_i hk
      simp only [Option.map_eq_some_iff] at h
      obtain ⟨z, hz, rfl⟩ := h
      have h1 := hρ x _ hx
      simp only [cv, Option.some.injEq] at h1
      obtain ⟨c, _, hc⟩ := run_zeroT (P := P) (E := E) (ι := ι) (w := w) hz
      refine ⟨_, cv_okd hc, fun w' _ => ?_⟩
      obtain ⟨c', hr, hc'⟩ := run_zeroT (P := P) (E := E) (ι := ι) (w := w') hz
      rw [hc] at hc'; injection hc' with hc'; subst hc'
      have hck := run_keyOk (P := P) (w := w') true 9 10000 kt k _ (by decide) (hρ i k hi) hk
      obtain ⟨u, hku⟩ := keyOk_undl hk
      simp [execOp, ho, ← h1, Instr.lookup, run_undl hu, hck, Instr.findKey, run_undl hku, Instr.findNow, hr]
    · cases h
  · rename_i kt et n k hm hx hi
    have hu := mapK_eq hm
    split at h
    · rename_i hk
      split at h
      · rename_i es clock hg
        have h1 := hρ x _ hx
        simp only [cv, Option.map_eq_some_iff] at h1
        obtain ⟨e, he, h1⟩ := h1
        obtain ⟨u, hku⟩ := keyOk_undl hk
        obtain ⟨e', he', hr⟩ := hh.obj n _ hg
        rw [he] at he'; injection he' with he'; subst he'
        generalize hob : w.heap[e.1]? = ob at hr
        cases hr with
        | @map _ _ _ ces hE =>
          have key : ∀ r q, aFind P kt k es 0 = some q → (match q with | some (_, v) => r = (okd ok v true, [n]) | none => ∃ z, zeroT P et = some z ∧ r = (okd ok z false, [n])) → EOk P E ι w ρ o r := by
            intro r q hq hr
            have hgo : ∀ w', Agree E [n] w w' → (getObj e.1).run P w' = .ok (.map ces.toArray clock) w' := fun w' hw =>
              run_getObj (by rw [hw n (by simp) e he]; exact hob) (by simp)
            cases q with
            | some jv =>
              obtain ⟨j, v⟩ := jv
              simp only at hr
              subst hr
              obtain ⟨r', _, h3⟩ := run_aFind (P := P) (w := w) hku (hρ i k hi) hE hq
              cases r' with
              | none => exact h3.elim
              | some y =>
                obtain ⟨j', v'⟩ := y
                refine ⟨_, cv_okd h3.2.1, fun w' hw => ?_⟩
                obtain ⟨r'', h2, h4⟩ := run_aFind (P := P) (w := w') hku (hρ i k hi) hE hq
                cases r'' with
                | none => exact h4.elim
                | some y =>
                  obtain ⟨j'', v''⟩ := y
                  have : v'' = v' := by have a := h3.2.1; have b := h4.2.1; rw [a] at b; injection b with b; exact b.symm
                  subst this
                  have hck := run_keyOk (P := P) (w := w') ces.toArray.isEmpty 9 10000 kt k _ (by decide) (hρ i k hi) hk
                  simp only [execOp, ho, ← h1, Instr.lookup, Sem.run_bind, run_undl hu, Result.andThen_ok, hgo w' hw, hck, h2, Sem.run_pure]
            | none =>
              obtain ⟨z, hz, rfl⟩ := hr
              obtain ⟨c, _, hc⟩ := run_zeroT (P := P) (E := E) (ι := ι) (w := w) hz
              refine ⟨_, cv_okd hc, fun w' hw => ?_⟩
              obtain ⟨c', hr, hc'⟩ := run_zeroT (P := P) (E := E) (ι := ι) (w := w') hz
              rw [hc] at hc'; injection hc' with hc'; subst hc'
              obtain ⟨r'', h2, h4⟩ := run_aFind (P := P) (w := w') hku (hρ i k hi) hE hq
              cases r'' with
              | some _ => exact h4.elim
              | none =>
                have hck := run_keyOk (P := P) (w := w') ces.toArray.isEmpty 9 10000 kt k _ (by decide) (hρ i k hi) hk
                simp only [execOp, ho, ← h1, Instr.lookup, Sem.run_bind, run_undl hu, Result.andThen_ok, hgo w' hw, hck, h2, hr, Sem.run_pure]
          split at h
          · rename_i j v hq
            simp only [Option.some.injEq] at h
            exact key r _ hq h.symm
          · rename_i hq
            simp only [Option.map_eq_some_iff] at h
            obtain ⟨z, hz, h⟩ := h
            exact key r _ hq ⟨z, hz, h.symm⟩
          · cases h
      · cases h
    · cases h
  · cases h

/-! ### Builtins -/
theorem run_aLen (hh : HR B w0 E ι H w) {t : TypeId} {x : AV} {a : Value} (hx : cv E ι x = some a) {r : AV × List Nat} (h : aLen P H t x = some r) {ts : Array TypeId} {vs : Array Value} (ht : ts[0]? = some t) (hv : vs[0]? = some a) (ty : TypeId) :
    ∃ c, cv E ι r.1 = some c ∧ ∀ w', Agree E r.2 w w' → (Builtin.len_ ts ty vs).run P w' = .ok c w' := by
  unfold aLen at h
  have e0 : ∀ w', (Builtin.len_ ts ty vs).run P w' = (Builtin.len_ #[t] ty #[a]).run P w' := fun w' => by unfold Builtin.len_; rw [ht, hv]; rfl
  simp only [e0]
  split at h
  · rename_i s hu
    simp only [cv, Option.some.injEq] at hx h; subst hx h
    exact ⟨_, rfl, fun w' _ => by simp [Builtin.len_, run_undl hu, goInt]; rfl⟩
  · rename_i n e hu
    simp only [Option.some.injEq] at h; subst h
    exact ⟨_, rfl, fun w' _ => by simp [Builtin.len_, run_undl hu, goInt]⟩
  · rename_i e n c hu
    simp only [cv, Option.some.injEq] at hx h; subst hx h
    exact ⟨_, rfl, fun w' _ => by simp [Builtin.len_, run_undl hu, goInt]⟩
  · rename_i e m off n c hu
    simp only [cv, Option.some.injEq, Option.map_eq_some_iff] at hx h; subst h
    obtain ⟨d, _, rfl⟩ := hx
    exact ⟨_, rfl, fun w' _ => by simp [Builtin.len_, run_undl hu, goInt]⟩
  · rename_i e m off n c hu
    simp only [cv, Option.some.injEq, Option.map_eq_some_iff] at hx h; subst h
    obtain ⟨d, _, rfl⟩ := hx
    exact ⟨_, rfl, fun w' _ => by simp [Builtin.len_, run_undl hu, goInt]⟩
  · rename_i e m off n c hu
    simp only [cv, Option.some.injEq, Option.map_eq_some_iff] at hx h; subst h
    obtain ⟨d, _, rfl⟩ := hx
    exact ⟨_, rfl, fun w' _ => by simp [Builtin.len_, run_undl hu, goInt]⟩
  · rename_i e a0 hu
    simp only [cv, Option.some.injEq] at hx h; subst hx h
    exact ⟨_, rfl, fun w' _ => by simp [Builtin.len_, run_undl hu, goInt]⟩
  · rename_i k e hu
    simp only [cv, Option.some.injEq] at hx h; subst hx h
    exact ⟨_, rfl, fun w' _ => by simp [Builtin.len_, run_undl hu, goInt]⟩
  · rename_i k e n hu
    split at h
    · rename_i es clock hg
      simp only [Option.some.injEq] at h; subst h
      simp only [cv, Option.map_eq_some_iff] at hx
      obtain ⟨d, hd, rfl⟩ := hx
      refine ⟨_, rfl, fun w' hw => ?_⟩
      obtain ⟨d', hd', hr⟩ := hh.at' hg hw (by simp)
      rw [hd] at hd'; injection hd' with hd'; subst hd'
      generalize hob : w'.heap[d.1]? = ob at hr
      cases hr with
      | @map _ _ _ ces hE =>
        simp [Builtin.len_, run_undl hu, run_getObj hob, goInt, (cvE_get hE).1]
    · cases h
  · cases h
theorem run_aCap {t : TypeId} {x : AV} {a : Value} (hx : cv E ι x = some a) {v : AV} (h : aCap P t x = some v) {ts : Array TypeId} {vs : Array Value} (ht : ts[0]? = some t) (hv : vs[0]? = some a) (ty : TypeId) :
    ∃ c, cv E ι v = some c ∧ ∀ w', (Builtin.cap_ ts ty vs).run P w' = .ok c w' := by
  unfold aCap at h
  have e0 : ∀ w', (Builtin.cap_ ts ty vs).run P w' = (Builtin.cap_ #[t] ty #[a]).run P w' := fun w' => by unfold Builtin.cap_; rw [ht, hv]; rfl
  simp only [e0]
  split at h
  · rename_i n e hu
    simp only [Option.some.injEq] at h; subst h
    exact ⟨_, rfl, fun w' => by simp [Builtin.cap_, run_undl hu, goInt]⟩
  · rename_i e n c hu
    simp only [cv, Option.some.injEq] at hx h; subst hx h
    exact ⟨_, rfl, fun w' => by simp [Builtin.cap_, run_undl hu, goInt]⟩
  · rename_i e m off n c hu
    simp only [cv, Option.some.injEq, Option.map_eq_some_iff] at hx h; subst h
    obtain ⟨d, _, rfl⟩ := hx
    exact ⟨_, rfl, fun w' => by simp [Builtin.cap_, run_undl hu, goInt]⟩
  · cases h
theorem run_aMinMax (mx : Bool) : ∀ (r : List AV) (x v : AV) (a : Value) (l : List Value), cv E ι x = some a → cvs E ι r = some l → aMinMax mx x r = some v → ∃ c, cv E ι v = some c ∧ ∀ w, (l.foldlM (if mx then Builtin.max2 else Builtin.min2) a).run P w = .ok c w := by
  intro r
  induction r with
  | nil =>
    intro x v a l hx hl h
    simp only [aMinMax, Option.some.injEq] at h; subst h
    rw [cvs_nil] at hl; injection hl with hl; subst hl
    exact ⟨a, hx, fun w => rfl⟩
  | cons y r ih =>
    intro x v a l hx hl h
    obtain ⟨b, l', hb, hl', rfl⟩ := cvs_cons.1 hl
    cases x with
    | int k p =>
      cases y with
      | int k' q =>
        unfold aMinMax at h
        split at h
        · rename_i hk
          subst hk
          simp only [cv, Option.some.injEq] at hx hb; subst hx hb
          obtain ⟨c, hc, hr⟩ := ih _ v _ l' rfl hl' h
          refine ⟨c, hc, fun w => ?_⟩
          have := hr w
          cases mx
          · simpa [Builtin.min2] using this
          · simpa [Builtin.max2] using this
        · cases h
      | _ => simp [aMinMax] at h
    | _ => simp [aMinMax] at h
theorem eBuiltin_ok (hh : HR B w0 E ι H w) (hρ : Opv E ι tm ρ) {b : Builtin} {args : Array Operand} {ts : Array TypeId} (ho : o.op = .call ⟨.builtin b, args, ts⟩) {r : AV × List Nat} (h : eBuiltin P H tm b ts args = some r) : EOk P E ι w ρ o r := by
  have hres : ∀ w', (execOp ρ o).run P w' = (builtin b ts o.type (args.map fun | .const _ => true | _ => false) (args.map ρ)).run P w' := fun w' => by
    simp only [execOp, ho, resolve, Sem.run_bind, Sem.run_pure, Result.andThen_ok, invoke]
    rfl
  have hargs : ∀ (l : List AV), opvs tm args.toList = some l → cvs E ι l = some (args.map ρ).toList := fun l hl => by
    rw [Array.toList_map]; exact opvs_cvs hρ _ _ hl
  unfold eBuiltin at h
  split at h
  · split at h
    · rename_i t tr x xr ht hx
      have := hargs _ hx
      obtain ⟨a, l, ha, _, hl⟩ := cvs_cons.1 this
      obtain ⟨c, hc, hr⟩ := run_aLen hh ha h (ts := ts) (vs := args.map ρ) (by rw [← Array.getElem?_toList, ht]; rfl) (by rw [← Array.getElem?_toList, hl]; rfl) o.type
      exact ⟨c, hc, fun w' hw => by rw [hres]; simp [builtin, hr w' hw]⟩
    · cases h
  · split at h
    · rename_i t tr x xr ht hx
      simp only [Option.map_eq_some_iff] at h
      obtain ⟨v, h, rfl⟩ := h
      obtain ⟨a, l, ha, _, hl⟩ := cvs_cons.1 (hargs _ hx)
      obtain ⟨c, hc, hr⟩ := run_aCap (P := P) ha h (ts := ts) (vs := args.map ρ) (by rw [← Array.getElem?_toList, ht]; rfl) (by rw [← Array.getElem?_toList, hl]; rfl) o.type
      exact ⟨c, hc, fun w' _ => by rw [hres]; simp [builtin, hr w']⟩
    · cases h
  · split at h
    · rename_i x xr hx
      simp only [Option.map_eq_some_iff] at h
      obtain ⟨v, hv, rfl⟩ := h
      obtain ⟨a, l, ha, hl2, hl⟩ := cvs_cons.1 (hargs _ hx)
      obtain ⟨c, hc, hr⟩ := run_aMinMax (P := P) true xr x v a l ha hl2 hv
      refine ⟨c, hc, fun w' _ => ?_⟩
      have := hr w'
      simp only [if_true] at this
      rw [hres]
      simp only [builtin, Builtin.max_, hl, Sem.run_bind, this, Result.andThen_ok, Sem.run_pure]
    · cases h
  · split at h
    · rename_i x xr hx
      simp only [Option.map_eq_some_iff] at h
      obtain ⟨v, hv, rfl⟩ := h
      obtain ⟨a, l, ha, hl2, hl⟩ := cvs_cons.1 (hargs _ hx)
      obtain ⟨c, hc, hr⟩ := run_aMinMax (P := P) false xr x v a l ha hl2 hv
      refine ⟨c, hc, fun w' _ => ?_⟩
      have := hr w'
      simp only [Bool.false_eq_true, if_false] at this
      rw [hres]
      simp only [builtin, Builtin.min_, hl, Sem.run_bind, this, Result.andThen_ok, Sem.run_pure]
    · cases h
  · cases h
/-! ### Strings out of bytes -/
theorem bytesL_get : ∀ {cs : List AV} {l : List UInt8}, bytesL cs = some l → l.length = cs.length ∧ ∀ (j : Nat) (b : UInt8), l[j]? = some b → cs[j]? = some (.int .u8 (b.toNat : Int))
  | [], l, h => by simp only [bytesL, Option.some.injEq] at h; subst h; simp
  | x :: r, l, h => by
    cases x with
    | int k n =>
      cases k <;> simp only [bytesL] at h <;> try (cases h)
      split at h
      · rename_i hn
        obtain ⟨l', hl', rfl⟩ := Option.map_eq_some_iff.1 h
        obtain ⟨h1, h2⟩ := bytesL_get hl'
        refine ⟨by simp [h1], fun j b hj => ?_⟩
        cases j with
        | zero => simp only [List.getElem?_cons_zero, Option.some.injEq] at hj ⊢; subst hj; rw [hn]
        | succ j => simp only [List.getElem?_cons_succ] at hj ⊢; exact h2 j b hj
      · cases h
    | _ => simp [bytesL] at h
theorem run_textAt (hh : HR B w0 E ι H w) {n off len : Nat} {r : AV × List Nat} (h : textAt H n off len = some r) {e : Nat × Nat × Nat} (he : E[n]? = some e) {s d t : TypeId} (hs : P.underlying s = some (.slice t)) (ht : P.underlying t = some (.int .u8)) (hd : P.underlying d = some .string) :
    ∃ c, cv E ι r.1 = some c ∧ ∀ cap w', Agree E r.2 w w' → (convert s d (.slice (some ⟨e.1, e.2.1 + off, none⟩) len cap)).run P w' = .ok c w' := by
  unfold textAt at h
  split at h
  · rename_i cs t' ex st hg
    split at h
    · rename_i hlen
      obtain ⟨l, hl, rfl⟩ := Option.map_eq_some_iff.1 h
      obtain ⟨h1, h2⟩ := bytesL_get hl
      refine ⟨_, rfl, fun cap w' hw => ?_⟩
      obtain ⟨e', he', hr⟩ := hh.at' hg hw (by simp)
      rw [he] at he'; injection he' with he'; subst he'
      generalize hob : w'.heap[e.1]? = ob at hr
      cases hr with
      | @row _ _ _ _ _ ccs fz hr =>
        have hll : l.length = len := by rw [h1, List.length_take, List.length_drop]; omega
        subst hll
        refine run_convert_bytes_back w' s d t _ cap l hs ht hd fun j hj => ?_
        have := h2 j l[j] (List.getElem?_eq_getElem hj)
        rw [List.getElem?_take, if_pos hj, List.getElem?_drop] at this
        obtain ⟨c, hc, hx⟩ := hr.at_ _ _ this
        simp only [cv, Option.some.injEq] at hc
        subst hc
        have : (⟨e.1, e.2.1 + off, none⟩ : Addr).add j = ⟨e.1, e.2.1 + (off + j), none⟩ := by simp [Addr.add, Nat.add_assoc]
        rw [this, cell_of_heap hob]
        exact hx
    · cases h
  · cases h
theorem eText_ok (hh : HR B w0 E ι H w) (hρ : Opv E ι tm ρ) {s d : TypeId} {x : Operand} (ho : o.op = .convert s d x) {r : AV × List Nat} (h : eText P H tm s d x = some r) : EOk P E ι w ρ o r := by
  unfold eText at h
  split at h
  · rename_i e v hs hd hx
    have h1 := hρ x _ hx
    split at h
    · rename_i n c he
      simp only [Option.some.injEq] at h; subst h
      simp only [cv, Option.some.injEq] at h1
      refine ⟨_, rfl, fun w' _ => ?_⟩
      simp only [execOp, ho, ← h1, convert, Sem.run_bind, run_undl hs, run_undl hd, run_undl he, Result.andThen_ok]
      rfl
    · rename_i n off len c he
      simp only [cv, Option.map_eq_some_iff] at h1
      obtain ⟨q, hq, h1⟩ := h1
      obtain ⟨c, hc, hr⟩ := run_textAt (P := P) hh h hq hs he hd
      exact ⟨c, hc, fun w' hw => by simp only [execOp, ho, ← h1, Sem.run_bind, hr _ w' hw, Result.andThen_ok, Sem.run_pure]⟩
    · rename_i n off len z he
      simp only [cv, Option.map_eq_some_iff] at h1
      obtain ⟨q, hq, h1⟩ := h1
      obtain ⟨c, hc, hr⟩ := run_textAt (P := P) hh h hq hs he hd
      exact ⟨c, hc, fun w' hw => by simp only [execOp, ho, ← h1, Sem.run_bind, hr _ w' hw, Result.andThen_ok, Sem.run_pure]⟩
    · rename_i n off len z he
      simp only [Option.some.injEq] at h; subst h
      simp only [cv, Option.map_eq_some_iff] at h1
      obtain ⟨q, hq, h1⟩ := h1
      refine ⟨_, rfl, fun w' _ => ?_⟩
      have := run_convert_bytes_back (P := P) w' s d e ⟨q.1, if (q.2.2 - q.2.1 - off) / z = len then q.2.1 + off else q.2.1 + off + len * z, none⟩ ((q.2.2 - q.2.1 - off) / z - len) [] hs he hd (fun j hj => by simp at hj)
      simp only [List.length_nil] at this
      simp only [execOp, ho, ← h1, Sem.run_bind, this, Result.andThen_ok, Sem.run_pure]
    · cases h
  · cases h
theorem eConvert_ok (hh : HR B w0 E ι H w) (hρ : Opv E ι tm ρ) {s d : TypeId} {x : Operand} (ho : o.op = .convert s d x) {r : AV × List Nat} (h : eConvert P H tm s d x = some r) : EOk P E ι w ρ o r := by
  unfold eConvert at h
  split at h
  · rename_i r' hr
    simp only [Option.some.injEq] at h; subst h
    exact eConv_ok hρ ho hr
  · exact eText_ok hh hρ ho h
theorem cvE_find {s : Nat} {es : List (AV × AV × Nat)} {ces : List MapEntry} (h : cvE E ι es = some ces) {e : AV × AV × Nat} (he : es.find? (fun e => e.2.2 == s) = some e) : ∃ k v b, cv E ι e.1 = some k ∧ cv E ι e.2.1 = some v ∧ ces.find? (fun e => e.born == s) = some ⟨k, v, b⟩ := by
  induction es generalizing ces with
  | nil => simp at he
  | cons x r ih =>
    simp only [cvE, Option.bind_eq_some_iff, Option.map_eq_some_iff] at h
    obtain ⟨k, hk, v, hv, b, hb, rfl⟩ := h
    simp only [List.find?_cons] at he ⊢
    cases hx : (x.2.2 == s) with
    | true =>
      simp only [hx, Option.some.injEq] at he
      subst he
      exact ⟨k, v, x.2.2, hk, hv, by simp⟩
    | false =>
      simp only [hx] at he
      exact ih hb he
theorem eEntry_ok (hh : HR B w0 E ι H w) (hρ : Opv E ι tm ρ) {x : Operand} (ho : o.op = .entry x) {r : AV × List Nat} (h : (opv tm x).bind (aEntry H) = some r) : EOk P E ι w ρ o r := by
  obtain ⟨it, hit, h⟩ := Option.bind_eq_some_iff.1 h
  have h1 := hρ x _ hit
  unfold aEntry at h
  split at h
  · rename_i n
    split at h
    · rename_i m s0 seen last hg
      split at h
      · rename_i es clock s hgm hs
        split at h
        · rename_i hcl
          subst hcl
          simp only [Option.map_eq_some_iff] at h
          obtain ⟨e, he, rfl⟩ := h
          simp only [cv, Option.map_eq_some_iff] at h1
          obtain ⟨d, hd, h1⟩ := h1
          have rel : ∀ w', Agree E [n, m] w w' → ∃ em ces, d.2.1 = 0 ∧ E[m]? = some em ∧ w'.heap[d.1]? = some (.mapIter (some em.1) s0 seen.toArray clock) ∧ w'.heap[em.1]? = some (.map ces.toArray clock) ∧ cvE E ι es = some ces := fun w' hw => by
            obtain ⟨d', hd', hr⟩ := hh.at' hg hw (by simp)
            rw [hd] at hd'; injection hd' with hd'; subst hd'
            obtain ⟨em, hem, hr2⟩ := hh.at' hgm hw (by simp)
            generalize hob : w'.heap[d.1]? = ob at hr
            generalize hob2 : w'.heap[em.1]? = ob2 at hr2
            cases hr with
            | @iter _ _ _ _ _ em' hz hem' =>
              rw [hem] at hem'; injection hem' with hem'; subst hem'
              cases hr2 with
              | @map _ _ _ ces hE => exact ⟨em, ces, hz, hem, rfl, hob2, hE⟩
          obtain ⟨em, ces, hz, hem, hb1, hb2, hE⟩ := rel w (Agree.refl _ _ _)
          obtain ⟨k, v, b, hk, hv, hf⟩ := cvE_find hE he
          refine ⟨.tuple #[k, v], by simp [cv, cvs, hk, hv], fun w' hw => ?_⟩
          obtain ⟨em', ces', _, hem', hb1', hb2', hE'⟩ := rel w' hw
          rw [hem] at hem'; injection hem' with hem'; subst hem'
          rw [hE] at hE'; injection hE' with hE'; subst hE'
          have hsd : seen.toArray.back? = some s := by rw [List.getLast?_eq_getElem?] at hs; simpa [Array.back?] using hs
          simp [execOp, ho, ← h1, Instr.entry, hz, run_getObj hb1', run_getObj hb2', hsd, hf]
        · cases h
      · cases h
    · cases h
  · cases h
/-- WHAT WRITES NOTHING. -/
theorem aEarly_ok (hι : Scalars ι) (hh : HR B w0 E ι H w) (hρ : Opv E ι tm ρ) {r : AV × List Nat} (h : aEarly P H tm o.op = some r) : EOk P E ι w ρ o r := by
  unfold aEarly at h
  split at h
  · exact eMove_ok hρ (.inl (by assumption)) h
  · exact eMove_ok hρ (.inr (by assumption)) h
  · exact ePick_ok hh.pc hρ (by assumption) h
  · exact eNil_ok hρ (by assumption) h
  · exact eBin_ok hρ (by assumption) h
  · exact eUn_ok hρ (by assumption) h
  · exact eConvert_ok hh hρ (by assumption) h
  · exact eIface_ok hρ (by assumption) h
  · exact eFunc_ok hρ (by assumption) h
  · exact eExtract_ok hρ (by assumption) h
  · exact eField_ok hρ (by assumption) h
  · exact eFieldAddr_ok hρ (by assumption) h
  · exact eIndexAddr_ok hρ (by assumption) h
  · exact eIndex_ok hρ (by assumption) h
  · exact eLoad_ok hh hρ (by assumption) h
  · exact eSlice_ok hh hρ (by assumption) h
  · exact eBuild_ok hι hρ (by assumption) h
  · exact eLookup_ok hh hρ (by assumption) h
  · exact eBuiltin_ok hh hρ (by assumption) h
  · exact eEntry_ok hh hρ (by assumption) h
  · cases h
end
end Go.Sx
