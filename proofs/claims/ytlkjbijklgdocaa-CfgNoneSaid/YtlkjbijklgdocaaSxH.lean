/- Maps are asked; all operations that write nothing, in one theorem. -/
import Derived.Test.YtlkjbijklgdocaaSxG
namespace Go.Sx
open Go Go.RowKit
theorem run_getObj {P : Program} {w : World} {b : Nat} {ob : Obj} (h : w.heap[b]? = some ob) (hc : ∀ c t f, ob ≠ .cells c t f) : (getObj b).run P w = .ok ob w := by
  simp only [getObj, Sem.run, h]
section
variable {P : Program} {E : Env} {ι : Nat → Value} {tm : TM} {ρ : Operand → Value} {B : Nat} {w0 w : World} {H : AH} {o : Oper}
theorem cvE_get {es : List (AV × AV × Nat)} {ces : List MapEntry} (h : cvE E ι es = some ces) : ces.length = es.length ∧ ∀ (i : Nat) e, es[i]? = some e → ∃ k v, cv E ι e.1 = some k ∧ cv E ι e.2.1 = some v ∧ ces[i]? = some ⟨k, v, e.2.2⟩ := by
  induction es generalizing ces with
  | nil => simp only [cvE, Option.some.injEq] at h; subst h; exact ⟨rfl, by simp⟩
  | cons e r ih =>
    simp only [cvE, Option.bind_eq_some_iff, Option.map_eq_some_iff] at h
    obtain ⟨k, hk, v, hv, b, hb, rfl⟩ := h
    obtain ⟨h1, h2⟩ := ih hb
    refine ⟨by simp [h1], fun i e' he => ?_⟩
    cases i with
    | zero => simp at he; subst he; exact ⟨k, v, hk, hv, rfl⟩
    | succ i => simp at he; simpa using h2 i e' he
theorem cvE_of_get {es : List (AV × AV × Nat)} {ces : List MapEntry} (h1 : ces.length = es.length) (h2 : ∀ (i : Nat) e, es[i]? = some e → ∃ k v, cv E ι e.1 = some k ∧ cv E ι e.2.1 = some v ∧ ces[i]? = some ⟨k, v, e.2.2⟩) : cvE E ι es = some ces := by
  induction es generalizing ces with
  | nil => rw [List.length_eq_zero_iff.1 h1]; rfl
  | cons e r ih =>
    cases ces with
    | nil => simp at h1
    | cons c cs =>
      obtain ⟨k, v, hk, hv, hc⟩ := h2 0 e rfl
      simp at hc
      have := ih (ces := cs) (by simpa using h1) (fun i e' he => by simpa using h2 (i + 1) e' (by simpa using he))
      simp [cvE, hk, hv, this, hc]
theorem run_keyOk (em : Bool) (d : Nat) : ∀ (D : Nat) (t : TypeId) (x : AV) (a : Value), d ≤ D → cv E ι x = some a → keyOk P d t x = true → (Instr.checkKey em D t a).run P w = .ok () w := by
  induction d with
  | zero => intro _ _ _ _ _ _ h; simp [keyOk] at h
  | succ d ih =>
    intro D t x a hD hx h
    obtain ⟨D, rfl⟩ : ∃ q, D = q + 1 := ⟨D - 1, by omega⟩
    unfold keyOk at h
    unfold Instr.checkKey
    split at h
    · rename_i hu
      simp only [cv, Option.some.injEq] at hx; subst hx
      simp [run_undl hu]
    · rename_i hu
      simp only [cv, Option.some.injEq] at hx; subst hx
      simp [run_undl hu]
    · rename_i hu
      simp only [cv, Option.some.injEq] at hx; subst hx
      simp [run_undl hu]
    · rename_i fs cs hu
      simp only [cv, Option.map_eq_some_iff] at hx
      obtain ⟨l, hl, rfl⟩ := hx
      simp only [Sem.run_bind, run_undl hu, Result.andThen_ok]
      rw [← Array.forIn_toList]
      clear hu
      generalize fs.toList = L at h
      induction L with
      | nil => simp
      | cons f L ihL =>
        simp only [List.all_cons, Bool.and_eq_true, Bool.or_eq_true, beq_iff_eq] at h
        obtain ⟨h1, h2⟩ := h
        simp only [List.forIn_cons, Sem.run_bind]
        by_cases hn : f.name = "_"
        · simp only [hn, ne_eq, not_true_eq_false, if_false, Sem.run_pure, Result.andThen_ok]
          exact ihL h2
        · rcases h1 with h1 | h1
          · exact absurd h1 hn
          · split at h1
            · rename_i p hp
              obtain ⟨c, hc, hcv⟩ := run_aPart (P := P) (w := w) hl hp
              have := ih D f.type p c (by omega) hcv h1
              simp only [hn, ne_eq, not_false_eq_true, if_true, Sem.run_bind, hc, Result.andThen_ok, this, Sem.run_pure]
              exact ihL h2
            · cases h1
    · cases h
def FindR (E : Env) (ι : Nat → Value) (es : List (AV × AV × Nat)) (i : Nat) : Option (Nat × AV) → Option (Nat × Value) → Prop
  | none, none => True
  | some (j, v), some (j', v') => j = j' ∧ cv E ι v = some v' ∧ i ≤ j ∧ ∃ e, es[j - i]? = some e ∧ e.2.1 = v
  | _, _ => False
theorem run_findAsking {kt : TypeId} {k : AV} {kv : Value} (hk : cv E ι k = some kv) : ∀ (es : List (AV × AV × Nat)) (ces : List MapEntry) (i : Nat) (r : Option (Nat × AV)), cvE E ι es = some ces → aFind P kt k es i = some r →
    ∃ r', (Instr.findAsking kt kv ces i).run P w = .ok r' w ∧ FindR E ι es i r r'
  | [], ces, i, r, hE, h => by
    simp only [cvE, Option.some.injEq] at hE; subst hE
    simp only [aFind, Option.some.injEq] at h; subst h
    exact ⟨none, rfl, trivial⟩
  | e :: es, ces, i, r, hE, h => by
    simp only [cvE, Option.bind_eq_some_iff, Option.map_eq_some_iff] at hE
    obtain ⟨k', hk', v', hv', b, hb, rfl⟩ := hE
    unfold aFind at h
    unfold Instr.findAsking
    split at h
    · rename_i he
      simp only [Option.some.injEq] at h; subst h
      exact ⟨some (i, v'), by simp [run_aEqual hk hk' he], rfl, hv', Nat.le_refl _, e, by simp, rfl⟩
    · rename_i he
      obtain ⟨r', h1, h2⟩ := run_findAsking hk es b (i + 1) r hb h
      refine ⟨r', by simp [run_aEqual hk hk' he, h1], ?_⟩
      cases r with
      | none => cases r' with
        | none => trivial
        | some _ => exact h2
      | some x =>
        cases r' with
        | none => exact h2
        | some y =>
          obtain ⟨q1, q2, q3, e', q4, q5⟩ := h2
          refine ⟨q1, q2, by omega, e', ?_, q5⟩
          rw [show x.1 - i = (x.1 - (i + 1)) + 1 by omega]
          simpa using q4
    · cases h
theorem sameNow_run' {u : TypeDesc} {t : TypeId} (hu : P.underlying t = some u) {a b : Value} {s : Bool} (h : Instr.sameNow u a b = some s) (d : Nat) : (Op.equalIn (d + 1) t a b).run P w = .ok s w := by
  unfold Instr.sameNow at h
  split at h
  · split at h
    · rename_i hk
      simp only [Option.some.injEq] at h; subst h hk
      simp [Op.equalIn, run_undl hu]
    · cases h
  · simp only [Option.some.injEq] at h; subst h
    simp [Op.equalIn, run_undl hu]
  · simp only [Option.some.injEq] at h; subst h
    simp [Op.equalIn, run_undl hu]
  · cases h
theorem sameNow_run {u : TypeDesc} {t : TypeId} (hu : P.underlying t = some u) {a b : Value} {s : Bool} (h : Instr.sameNow u a b = some s) : (Op.equal t a b).run P w = .ok s w := sameNow_run' hu h 9999
theorem findNow_asking {u : TypeDesc} {kt : TypeId} (hu : P.underlying kt = some u) {kv : Value} : ∀ (ces : List MapEntry) (i : Nat) (r : Option (Nat × Value)), Instr.findNow u kv ces i = some r → (Instr.findAsking kt kv ces i).run P w = .ok r w
  | [], i, r, h => by simp only [Instr.findNow, Option.some.injEq] at h; subst h; rfl
  | e :: es, i, r, h => by
    unfold Instr.findNow at h
    unfold Instr.findAsking
    split at h
    · rename_i hs
      simp only [Option.some.injEq] at h; subst h
      simp [sameNow_run (w := w) hu hs]
    · rename_i hs
      simp [sameNow_run (w := w) hu hs, findNow_asking hu es (i + 1) r h]
    · cases h
theorem run_aFind {kt : TypeId} {u : TypeDesc} (hu : P.underlying kt = some u) {k : AV} {kv : Value} (hk : cv E ι k = some kv) {es : List (AV × AV × Nat)} {ces : List MapEntry} (hE : cvE E ι es = some ces) {r : Option (Nat × AV)} (h : aFind P kt k es 0 = some r) :
    ∃ r', (Instr.findKey kt kv ces).run P w = .ok r' w ∧ FindR E ι es 0 r r' := by
  obtain ⟨r', h1, h2⟩ := run_findAsking (P := P) (w := w) hk es ces 0 r hE h
  refine ⟨r', ?_, h2⟩
  unfold Instr.findKey
  simp only [Sem.run_bind, run_undl hu, Result.andThen_ok]
  cases hn : Instr.findNow u kv ces 0 with
  | none => exact h1
  | some q =>
    have := findNow_asking (w := w) hu ces 0 q hn
    rw [h1] at this
    injection this with this
    subst this
    rfl
theorem keyOk_undl {d : Nat} {t : TypeId} {v : AV} (h : keyOk P d t v = true) : ∃ u, P.underlying t = some u := by
  cases d with
  | zero => simp [keyOk] at h
  | succ d =>
    unfold keyOk at h
    split at h <;> first | exact ⟨_, by assumption⟩ | cases h
theorem mapK_eq {t kt et : TypeId} (h : mapK P t = some (kt, et)) : P.underlying t = some (.map kt et) := by
  unfold mapK at h
  split at h
  · rename_i hu; simp only [Option.some.injEq, Prod.mk.injEq] at h; obtain ⟨rfl, rfl⟩ := h; exact hu
  · cases h
theorem cv_okd {ok b : Bool} {v : AV} {c : Value} (h : cv E ι v = some c) : cv E ι (okd ok v b) = some (if ok then .tuple #[c, .bool b] else c) := by
  cases ok
  · exact h
  · simp [okd, cv, cvs, h]
theorem eLookup_ok (hh : HR B w0 E ι H w) (hρ : Opv E ι tm ρ) {t : TypeId} {x i : Operand} {ok : Bool} (ho : o.op = .lookup t x i ok) {r : AV × List Nat} (h : eLookup P H tm t x i ok = some r) : EOk P E ι w ρ o r := by
  unfold eLookup at h
  split at h
  · rename_i kt et k hm hx hi
    have hu := mapK_eq hm
    split at h
    · rename_i hk
      simp only [Option.map_eq_some_iff] at h
      obtain ⟨z, hz, rfl⟩ := h
      have h1 := hρ x _ hx
      simp only [cv, Option.some.injEq] at h1
      obtain ⟨c, _, hc⟩ := run_zeroT (P := P) (E := E) (ι := ι) (w := w) hz
      refine ⟨_, cv_okd hc, fun w' _ => ?_⟩
      obtain ⟨c', hr, hc'⟩ := run_zeroT (P := P) (E := E) (ι := ι) (w := w') hz
      rw [hc] at hc'; injection hc' with hc'; subst hc'
      have hck := run_keyOk (P := P) (w := w') true 9 10000 kt k _ (by decide) (hρ i k hi) hk
      obtain ⟨u, hku⟩ := keyOk_undl hk
      simp [execOp, ho, ← h1, Instr.lookup, run_undl hu, hck, Instr.findKey, run_undl hku, Instr.findNow, hr]
    · cases h
  · rename_i kt et n k hm hx hi
    have hu := mapK_eq hm
    split at h
    · rename_i hk
      split at h
      · rename_i es clock hg
        have h1 := hρ x _ hx
        simp only [cv, Option.map_eq_some_iff] at h1
        obtain ⟨e, he, h1⟩ := h1
        obtain ⟨u, hku⟩ := keyOk_undl hk
        obtain ⟨e', he', hr⟩ := hh.obj n _ hg
        rw [he] at he'; injection he' with he'; subst he'
        generalize hob : w.heap[e.1]? = ob at hr
        cases hr with
        | @map _ _ _ ces hE =>
          have key : ∀ r q, aFind P kt k es 0 = some q → (match q with | some (_, v) => r = (okd ok v true, [n]) | none => ∃ z, zeroT P et = some z ∧ r = (okd ok z false, [n])) → EOk P E ι w ρ o r := by
            intro r q hq hr
            have hgo : ∀ w', Agree E [n] w w' → (getObj e.1).run P w' = .ok (.map ces.toArray clock) w' := fun w' hw =>
              run_getObj (by rw [hw n (by simp) e he]; exact hob) (by simp)
            cases q with
            | some jv =>
              obtain ⟨j, v⟩ := jv
              simp only at hr
              subst hr
              obtain ⟨r', _, h3⟩ := run_aFind (P := P) (w := w) hku (hρ i k hi) hE hq
              cases r' with
              | none => exact h3.elim
              | some y =>
                obtain ⟨j', v'⟩ := y
                refine ⟨_, cv_okd h3.2.1, fun w' hw => ?_⟩
                obtain ⟨r'', h2, h4⟩ := run_aFind (P := P) (w := w') hku (hρ i k hi) hE hq
                cases r'' with
                | none => exact h4.elim
                | some y =>
                  obtain ⟨j'', v''⟩ := y
                  have : v'' = v' := by have a := h3.2.1; have b := h4.2.1; rw [a] at b; injection b with b; exact b.symm
                  subst this
                  have hck := run_keyOk (P := P) (w := w') ces.toArray.isEmpty 9 10000 kt k _ (by decide) (hρ i k hi) hk
                  simp only [execOp, ho, ← h1, Instr.lookup, Sem.run_bind, run_undl hu, Result.andThen_ok, hgo w' hw, hck, h2, Sem.run_pure]
            | none =>
              obtain ⟨z, hz, rfl⟩ := hr
              obtain ⟨c, _, hc⟩ := run_zeroT (P := P) (E := E) (ι := ι) (w := w) hz
              refine ⟨_, cv_okd hc, fun w' hw => ?_⟩
              obtain ⟨c', hr, hc'⟩ := run_zeroT (P := P) (E := E) (ι := ι) (w := w') hz
              rw [hc] at hc'; injection hc' with hc'; subst hc'
              obtain ⟨r'', h2, h4⟩ := run_aFind (P := P) (w := w') hku (hρ i k hi) hE hq
              cases r'' with
              | some _ => exact h4.elim
              | none =>
                have hck := run_keyOk (P := P) (w := w') ces.toArray.isEmpty 9 10000 kt k _ (by decide) (hρ i k hi) hk
                simp only [execOp, ho, ← h1, Instr.lookup, Sem.run_bind, run_undl hu, Result.andThen_ok, hgo w' hw, hck, h2, hr, Sem.run_pure]
          split at h
          · rename_i j v hq
            simp only [Option.some.injEq] at h
            exact key r _ hq h.symm
          · rename_i hq
            simp only [Option.map_eq_some_iff] at h
            obtain ⟨z, hz, h⟩ := h
            exact key r _ hq ⟨z, hz, h.symm⟩
          · cases h
      · cases h
    · cases h
  · cases h

/-! ### Builtins -/
theorem run_aLen (hh : HR B w0 E ι H w) {t : TypeId} {x : AV} {a : Value} (hx : cv E ι x = some a) {r : AV × List Nat} (h : aLen P H t x = some r) {ts : Array TypeId} {vs : Array Value} (ht : ts[0]? = some t) (hv : vs[0]? = some a) (ty : TypeId) :
    ∃ c, cv E ι r.1 = some c ∧ ∀ w', Agree E r.2 w w' → (Builtin.len_ ts ty vs).run P w' = .ok c w' := by
  unfold aLen at h
  have e0 : ∀ w', (Builtin.len_ ts ty vs).run P w' = (Builtin.len_ #[t] ty #[a]).run P w' := fun w' => by unfold Builtin.len_; rw [ht, hv]; rfl
  simp only [e0]
  split at h
  · rename_i s hu
    simp only [cv, Option.some.injEq] at hx h; subst hx h
    exact ⟨_, rfl, fun w' _ => by simp [Builtin.len_, run_undl hu, goInt]; rfl⟩
  · rename_i n e hu
    simp only [Option.some.injEq] at h; subst h
    exact ⟨_, rfl, fun w' _ => by simp [Builtin.len_, run_undl hu, goInt]⟩
  · rename_i e n c hu
    simp only [cv, Option.some.injEq] at hx h; subst hx h
    exact ⟨_, rfl, fun w' _ => by simp [Builtin.len_, run_undl hu, goInt]⟩
  · rename_i e m off n c hu
    simp only [cv, Option.some.injEq, Option.map_eq_some_iff] at hx h; subst h
    obtain ⟨d, _, rfl⟩ := hx
    exact ⟨_, rfl, fun w' _ => by simp [Builtin.len_, run_undl hu, goInt]⟩
  · rename_i e m off n c hu
    simp only [cv, Option.some.injEq, Option.map_eq_some_iff] at hx h; subst h
    obtain ⟨d, _, rfl⟩ := hx
    exact ⟨_, rfl, fun w' _ => by simp [Builtin.len_, run_undl hu, goInt]⟩
  · rename_i k e hu
    simp only [cv, Option.some.injEq] at hx h; subst hx h
    exact ⟨_, rfl, fun w' _ => by simp [Builtin.len_, run_undl hu, goInt]⟩
  · rename_i k e n hu
    split at h
    · rename_i es clock hg
      simp only [Option.some.injEq] at h; subst h
      simp only [cv, Option.map_eq_some_iff] at hx
      obtain ⟨d, hd, rfl⟩ := hx
      refine ⟨_, rfl, fun w' hw => ?_⟩
      obtain ⟨d', hd', hr⟩ := hh.at' hg hw (by simp)
      rw [hd] at hd'; injection hd' with hd'; subst hd'
      generalize hob : w'.heap[d.1]? = ob at hr
      cases hr with
      | @map _ _ _ ces hE =>
        simp [Builtin.len_, run_undl hu, run_getObj hob, goInt, (cvE_get hE).1]
    · cases h
  · cases h
theorem run_aCap {t : TypeId} {x : AV} {a : Value} (hx : cv E ι x = some a) {v : AV} (h : aCap P t x = some v) {ts : Array TypeId} {vs : Array Value} (ht : ts[0]? = some t) (hv : vs[0]? = some a) (ty : TypeId) :
    ∃ c, cv E ι v = some c ∧ ∀ w', (Builtin.cap_ ts ty vs).run P w' = .ok c w' := by
  unfold aCap at h
  have e0 : ∀ w', (Builtin.cap_ ts ty vs).run P w' = (Builtin.cap_ #[t] ty #[a]).run P w' := fun w' => by unfold Builtin.cap_; rw [ht, hv]; rfl
  simp only [e0]
  split at h
  · rename_i n e hu
    simp only [Option.some.injEq] at h; subst h
    exact ⟨_, rfl, fun w' => by simp [Builtin.cap_, run_undl hu, goInt]⟩
  · rename_i e n c hu
    simp only [cv, Option.some.injEq] at hx h; subst hx h
    exact ⟨_, rfl, fun w' => by simp [Builtin.cap_, run_undl hu, goInt]⟩
  · rename_i e m off n c hu
    simp only [cv, Option.some.injEq, Option.map_eq_some_iff] at hx h; subst h
    obtain ⟨d, _, rfl⟩ := hx
    exact ⟨_, rfl, fun w' => by simp [Builtin.cap_, run_undl hu, goInt]⟩
  · cases h
theorem run_aMinMax (mx : Bool) : ∀ (r : List AV) (x v : AV) (a : Value) (l : List Value), cv E ι x = some a → cvs E ι r = some l → aMinMax mx x r = some v → ∃ c, cv E ι v = some c ∧ ∀ w, (l.foldlM (if mx then Builtin.max2 else Builtin.min2) a).run P w = .ok c w := by
  intro r
  induction r with
  | nil =>
    intro x v a l hx hl h
    simp only [aMinMax, Option.some.injEq] at h; subst h
    rw [cvs_nil] at hl; injection hl with hl; subst hl
    exact ⟨a, hx, fun w => rfl⟩
  | cons y r ih =>
    intro x v a l hx hl h
    obtain ⟨b, l', hb, hl', rfl⟩ := cvs_cons.1 hl
    cases x with
    | int k p =>
      cases y with
      | int k' q =>
        unfold aMinMax at h
        split at h
        · rename_i hk
          subst hk
          simp only [cv, Option.some.injEq] at hx hb; subst hx hb
          obtain ⟨c, hc, hr⟩ := ih _ v _ l' rfl hl' h
          refine ⟨c, hc, fun w => ?_⟩
          have := hr w
          cases mx
          · simpa [Builtin.min2] using this
          · simpa [Builtin.max2] using this
        · cases h
      | _ => simp [aMinMax] at h
    | _ => simp [aMinMax] at h
theorem eBuiltin_ok (hh : HR B w0 E ι H w) (hρ : Opv E ι tm ρ) {b : Builtin} {args : Array Operand} {ts : Array TypeId} (ho : o.op = .call ⟨.builtin b, args, ts⟩) {r : AV × List Nat} (h : eBuiltin P H tm b ts args = some r) : EOk P E ι w ρ o r := by
  have hres : ∀ w', (execOp ρ o).run P w' = (builtin b ts o.type (args.map fun | .const _ => true | _ => false) (args.map ρ)).run P w' := fun w' => by
    simp only [execOp, ho, resolve, Sem.run_bind, Sem.run_pure, Result.andThen_ok, invoke]
    rfl
  have hargs : ∀ (l : List AV), opvs tm args.toList = some l → cvs E ι l = some (args.map ρ).toList := fun l hl => by
    rw [Array.toList_map]; exact opvs_cvs hρ _ _ hl
  unfold eBuiltin at h
  split at h
  · split at h
    · rename_i t tr x xr ht hx
      have := hargs _ hx
      obtain ⟨a, l, ha, _, hl⟩ := cvs_cons.1 this
      obtain ⟨c, hc, hr⟩ := run_aLen hh ha h (ts := ts) (vs := args.map ρ) (by rw [← Array.getElem?_toList, ht]; rfl) (by rw [← Array.getElem?_toList, hl]; rfl) o.type
      exact ⟨c, hc, fun w' hw => by rw [hres]; simp [builtin, hr w' hw]⟩
    · cases h
  · split at h
    · rename_i t tr x xr ht hx
      simp only [Option.map_eq_some_iff] at h
      obtain ⟨v, h, rfl⟩ := h
      obtain ⟨a, l, ha, _, hl⟩ := cvs_cons.1 (hargs _ hx)
      obtain ⟨c, hc, hr⟩ := run_aCap (P := P) ha h (ts := ts) (vs := args.map ρ) (by rw [← Array.getElem?_toList, ht]; rfl) (by rw [← Array.getElem?_toList, hl]; rfl) o.type
      exact ⟨c, hc, fun w' _ => by rw [hres]; simp [builtin, hr w']⟩
    · cases h
  · split at h
    · rename_i x xr hx
      simp only [Option.map_eq_some_iff] at h
      obtain ⟨v, hv, rfl⟩ := h
      obtain ⟨a, l, ha, hl2, hl⟩ := cvs_cons.1 (hargs _ hx)
      obtain ⟨c, hc, hr⟩ := run_aMinMax (P := P) true xr x v a l ha hl2 hv
      refine ⟨c, hc, fun w' _ => ?_⟩
      have := hr w'
      simp only [if_true] at this
      rw [hres]
      simp only [builtin, Builtin.max_, hl, Sem.run_bind, this, Result.andThen_ok, Sem.run_pure]
    · cases h
  · split at h
    · rename_i x xr hx
      simp only [Option.map_eq_some_iff] at h
      obtain ⟨v, hv, rfl⟩ := h
      obtain ⟨a, l, ha, hl2, hl⟩ := cvs_cons.1 (hargs _ hx)
      obtain ⟨c, hc, hr⟩ := run_aMinMax (P := P) false xr x v a l ha hl2 hv
      refine ⟨c, hc, fun w' _ => ?_⟩
      have := hr w'
      simp only [Bool.false_eq_true, if_false] at this
      rw [hres]
      simp only [builtin, Builtin.min_, hl, Sem.run_bind, this, Result.andThen_ok, Sem.run_pure]
    · cases h
  · cases h
theorem cvE_find {s : Nat} {es : List (AV × AV × Nat)} {ces : List MapEntry} (h : cvE E ι es = some ces) {e : AV × AV × Nat} (he : es.find? (fun e => e.2.2 == s) = some e) : ∃ k v b, cv E ι e.1 = some k ∧ cv E ι e.2.1 = some v ∧ ces.find? (fun e => e.born == s) = some ⟨k, v, b⟩ := by
  induction es generalizing ces with
  | nil => simp at he
  | cons x r ih =>
    simp only [cvE, Option.bind_eq_some_iff, Option.map_eq_some_iff] at h
    obtain ⟨k, hk, v, hv, b, hb, rfl⟩ := h
    simp only [List.find?_cons] at he ⊢
    cases hx : (x.2.2 == s) with
    | true =>
      simp only [hx, Option.some.injEq] at he
      subst he
      exact ⟨k, v, x.2.2, hk, hv, by simp⟩
    | false =>
      simp only [hx] at he
      exact ih hb he
theorem eEntry_ok (hh : HR B w0 E ι H w) (hρ : Opv E ι tm ρ) {x : Operand} (ho : o.op = .entry x) {r : AV × List Nat} (h : (opv tm x).bind (aEntry H) = some r) : EOk P E ι w ρ o r := by
  obtain ⟨it, hit, h⟩ := Option.bind_eq_some_iff.1 h
  have h1 := hρ x _ hit
  unfold aEntry at h
  split at h
  · rename_i n
    split at h
    · rename_i m s0 seen last hg
      split at h
      · rename_i es clock s hgm hs
        split at h
        · rename_i hcl
          subst hcl
          simp only [Option.map_eq_some_iff] at h
          obtain ⟨e, he, rfl⟩ := h
          simp only [cv, Option.map_eq_some_iff] at h1
          obtain ⟨d, hd, h1⟩ := h1
          have rel : ∀ w', Agree E [n, m] w w' → ∃ em ces, d.2.1 = 0 ∧ E[m]? = some em ∧ w'.heap[d.1]? = some (.mapIter (some em.1) s0 seen.toArray clock) ∧ w'.heap[em.1]? = some (.map ces.toArray clock) ∧ cvE E ι es = some ces := fun w' hw => by
            obtain ⟨d', hd', hr⟩ := hh.at' hg hw (by simp)
            rw [hd] at hd'; injection hd' with hd'; subst hd'
            obtain ⟨em, hem, hr2⟩ := hh.at' hgm hw (by simp)
            generalize hob : w'.heap[d.1]? = ob at hr
            generalize hob2 : w'.heap[em.1]? = ob2 at hr2
            cases hr with
            | @iter _ _ _ _ _ em' hz hem' =>
              rw [hem] at hem'; injection hem' with hem'; subst hem'
              cases hr2 with
              | @map _ _ _ ces hE => exact ⟨em, ces, hz, hem, rfl, hob2, hE⟩
          obtain ⟨em, ces, hz, hem, hb1, hb2, hE⟩ := rel w (Agree.refl _ _ _)
          obtain ⟨k, v, b, hk, hv, hf⟩ := cvE_find hE he
          refine ⟨.tuple #[k, v], by simp [cv, cvs, hk, hv], fun w' hw => ?_⟩
          obtain ⟨em', ces', _, hem', hb1', hb2', hE'⟩ := rel w' hw
          rw [hem] at hem'; injection hem' with hem'; subst hem'
          rw [hE] at hE'; injection hE' with hE'; subst hE'
          have hsd : seen.toArray.back? = some s := by rw [List.getLast?_eq_getElem?] at hs; simpa [Array.back?] using hs
          simp [execOp, ho, ← h1, Instr.entry, hz, run_getObj hb1', run_getObj hb2', hsd, hf]
        · cases h
      · cases h
    · cases h
  · cases h
/-- WHAT WRITES NOTHING. -/
theorem aEarly_ok (hι : Scalars ι) (hh : HR B w0 E ι H w) (hρ : Opv E ι tm ρ) {r : AV × List Nat} (h : aEarly P H tm o.op = some r) : EOk P E ι w ρ o r := by
  unfold aEarly at h
  split at h
  · exact eMove_ok hρ (.inl (by assumption)) h
  · exact eMove_ok hρ (.inr (by assumption)) h
  · exact ePick_ok hρ (by assumption) h
  · exact eNil_ok hρ (by assumption) h
  · exact eBin_ok hρ (by assumption) h
  · exact eUn_ok hρ (by assumption) h
  · exact eConv_ok hρ (by assumption) h
  · exact eIface_ok hρ (by assumption) h
  · exact eFunc_ok hρ (by assumption) h
  · exact eExtract_ok hρ (by assumption) h
  · exact eField_ok hρ (by assumption) h
  · exact eFieldAddr_ok hρ (by assumption) h
  · exact eIndexAddr_ok hρ (by assumption) h
  · exact eIndex_ok hρ (by assumption) h
  · exact eLoad_ok hh hρ (by assumption) h
  · exact eSlice_ok hh hρ (by assumption) h
  · exact eBuild_ok hι hρ (by assumption) h
  · exact eLookup_ok hh hρ (by assumption) h
  · exact eBuiltin_ok hh hρ (by assumption) h
  · exact eEntry_ok hh hρ (by assumption) h
  · cases h
end
end Go.Sx
