/- An operation of a region, whichever comes up. -/
import Derived.Test.YtlkjbijklgdocaaSxR
set_option linter.unusedSimpArgs false
set_option linter.unusedVariables false
namespace Go.Sx
open Go Go.RowKit
section
variable {P : Program} {E E' : Env} {ι : Nat → Value} {w w2 : World} {B : Nat} {w0 : World} {H : AH}
theorem eval_tmps (a : Act) : a.eval = (⟨a.tmps, []⟩ : Act).eval := by funext x; cases x <;> rfl
/-- What the symbolic step names, and where the machine has come. -/
def Goes (P : Program) (B : Nat) (w0 : World) (ι : Nat → Value) (base : List Frame) (As : List AM) (M : Machine) : Prop := ∃ A' ∈ As, ∃ M', Steps P M M' ∧ MR P B w0 ι base A' M'
theorem Goes.one {base : List Frame} {A' : AM} {M M' : Machine} (h : step P M = .next M') (g : MR P B w0 ι base A' M') : Goes P B w0 ι base [A'] M := ⟨A', by simp, M', Steps.one h, g⟩
theorem Goes.steps {base : List Frame} {As : List AM} {M M' : Machine} (h : Steps P M M') (g : Goes P B w0 ι base As M') : Goes P B w0 ι base As M := by
  obtain ⟨A', h1, M2, h2, h3⟩ := g
  exact ⟨A', h1, M2, h.trans h2, h3⟩
theorem applyAll_mem {wait : AFr} {below : List AFr} {pend : List Nat} : ∀ (rs : List AR) (As : List AM), applyAll P wait below pend H rs = some As → ∀ r ∈ rs, ∃ A' ∈ As, apply P wait below pend H r = some A'
  | [], As, h, r, hr => by cases hr
  | x :: xs, As, h, r, hr => by
    unfold applyAll at h
    simp only [Option.bind_eq_some_iff, Option.map_eq_some_iff] at h
    obtain ⟨m, hm, ms, hms, rfl⟩ := h
    rcases List.mem_cons.1 hr with rfl | hr
    · exact ⟨m, by simp, hm⟩
    · obtain ⟨A', h1, h2⟩ := applyAll_mem xs ms hms r hr
      exact ⟨A', by simp [h1], h2⟩
theorem aOper_ok (hP : Fine P) (hι : Scalars ι) {base : List Frame} {wait : AFr} {below : List AFr} {cs : List Frame} {b : Frame} {a : Act} {ops : Array Oper} {i : Nat} {rest : List Nat} {k' : List Item} {V : Array Value} {o : Oper} {As : List AM}
    (hh : HR B w0 E ι H w) (g : FR P E ι w wait (b.atR a (.inRegion ops (i :: rest) :: k')) b a (.inRegion ops (i :: rest) :: k') V) (hret : wait.ret = false) (hfs : FRs P E ι w below cs) (ho : ops[i]? = some o)
    (hev : execOp a.eval o = execOp (⟨V, []⟩ : Act).eval o) (hwt : Region.wanted o (yielded ops a.tmps) = Region.wanted o (yielded ops V)) (hs : aOper P wait below H ops o = some As) :
    Goes P B w0 ι base As (lone (b.atR a (.inRegion ops (i :: rest) :: k')) (cs ++ base) w) := by
  have hrel : FRel P E ι w wait (b.atR a (.inRegion ops (i :: rest) :: k')) := ⟨b, a, _, V, g⟩
  have hρ : Opv E ι wait.tm (⟨V, []⟩ : Act).eval := fun x v hx => opv_eval (a := ⟨V, []⟩) g.tm hx
  unfold aOper at hs
  cases hw : aWanted ops wait.tm o with
  | none => rw [hw] at hs; cases hs
  | some wt =>
    rw [hw] at hs
    have hwv := aWanted_ok g.tm hw
    cases wt with
    | false =>
      simp only [Option.map_eq_some_iff] at hs
      obtain ⟨f, hf, rfl⟩ := hs
      have hu : cv E ι (.tuple []) = some undef := by simp [cv, cvs, undef]
      obtain ⟨h1, h2⟩ := finish_ok hrel hret hu hf
      exact Goes.one (op_unwanted ho (hwt.trans hwv)) (MR.mk hh h1 hfs)
    | true =>
      have hwa := hwt.trans hwv
      simp only at hs
      cases he : aEarly P H wait.tm o.op with
      | some r =>
        rw [he] at hs
        simp only [Option.map_eq_some_iff] at hs
        obtain ⟨f, hf, rfl⟩ := hs
        obtain ⟨c, hc, hr⟩ := aEarly_ok hι hh hρ (o := o) he
        obtain ⟨h1, h2⟩ := finish_ok hrel hret hc hf
        exact Goes.one (op_value ho hwa (aEarly_nodefer he) (by rw [hev]; exact hr w (Agree.refl _ _ _))) (MR.mk hh h1 hfs)
      | none =>
        rw [he] at hs
        simp only [Option.bind_eq_some_iff] at hs
        obtain ⟨rs, hrs, hs⟩ := hs
        obtain ⟨n, w', hrun, r, hr, E', hE, hh', hn, ht, hsz⟩ := aW_ok hP hι hh hρ hrs
        rw [← hev] at hrun
        obtain ⟨A', hA, hap⟩ := applyAll_mem rs As hs r hr
        have hnd := aW_nodefer hrs
        unfold apply at hap
        split at hap
        · rename_i hok
          have hsh := sheltered_of hh hok ht
          have hfs' : FRs P E' ι w' below cs := hfs.later hE fun p hp => hsh p (List.mem_append_right _ hp)
          have hrel' : FRel P E' ι w' wait (b.atR a (.inRegion ops (i :: rest) :: k')) := hrel.later hE fun p hp => hsh p (List.mem_append_left _ hp)
          obtain ⟨an, H', tc⟩ := r
          simp only at hap hn hh'
          cases an with
          | val v =>
            simp only [Option.map_eq_some_iff] at hap
            obtain ⟨f, hf, rfl⟩ := hap
            cases n <;> simp only [NR] at hn
            obtain ⟨h1, h2⟩ := finish_ok hrel' hret hn hf
            exact ⟨_, hA, _, Steps.one (op_value ho hwa hnd hrun), MR.mk hh' h1 hfs'⟩
          | skip =>
            simp only [Option.map_eq_some_iff] at hap
            obtain ⟨f, hf, rfl⟩ := hap
            cases n <;> simp only [NR] at hn
            have hu : cv E' ι (.tuple []) = some undef := by simp [cv, cvs, undef]
            obtain ⟨h1, h2⟩ := finish_ok hrel' hret hu hf
            exact ⟨_, hA, _, Steps.one (op_skip ho hwa hnd hrun), MR.mk hh' h1 hfs'⟩
          | enter f args =>
            simp only [Option.map_eq_some_iff] at hap
            obtain ⟨fr, hfr, rfl⟩ := hap
            cases n <;> simp only [NR] at hn
            obtain ⟨rfl, l, hl, rfl⟩ := hn
            have h1 := enterFr_ok (w := w') hl hfr
            exact ⟨_, hA, _, Steps.one (op_enter ho hwa hnd hrun), MR.mk (cs := _ :: cs) hh' h1 (.cons hrel' hret hfs')⟩
          | round l fn tm as bd =>
            simp only [Option.some.injEq] at hap
            subst hap
            cases n <;> simp only [NR] at hn
            rename_i lc fn' C as' bd'
            obtain ⟨⟨e, he', rfl⟩, rfl, hC, rfl, rfl⟩ := hn
            let b2 : Frame := { (default : Frame) with fn := fn, kind := .normal, roundOf := some e.1 }
            have h1 : FRel P E' ι w' { fn := fn, tm := tm, todo := [.code as, .beginRound, .code bd], defers := [], ret := false, rnd := some l } (Frame.round e.1 fn C as bd .normal) := by
              refine ⟨b2, ⟨C, []⟩, [.code as, .beginRound, .code bd], C, ?_⟩
              refine ⟨?_, rfl, rfl, ⟨e, he', rfl⟩, trivial, hC, ⟨rfl, .cons .code (.cons .beginRound (.cons .code .nil))⟩, fun hx => by cases hx⟩
              simp [Frame.round, Frame.atR, b2]
            exact ⟨_, hA, _, Steps.one (op_round ho hwa hnd hrun), MR.mk (cs := _ :: cs) hh' h1 (.cons hrel' hret hfs')⟩
        · cases hap

/-! ### A region in any order -/
theorem catAll_mem : ∀ (xs : List (Option (List AM))) (As : List AM), catAll xs = some As → ∀ x ∈ xs, ∃ l, x = some l ∧ ∀ A ∈ l, A ∈ As
  | [], As, h, x, hx => by cases hx
  | y :: ys, As, h, x, hx => by
    unfold catAll at h
    simp only [Option.bind_eq_some_iff, Option.map_eq_some_iff] at h
    obtain ⟨p, rfl, q, hq, rfl⟩ := h
    rcases List.mem_cons.1 hx with rfl | hx
    · exact ⟨p, rfl, fun A hA => by simp [hA]⟩
    · obtain ⟨l, h1, h2⟩ := catAll_mem ys q hq x hx
      exact ⟨l, h1, fun A hA => by simp [h2 A hA]⟩
theorem yon_step {b : Frame} {a : Act} {k : List Item} {cs : List Frame} {ops : Array Oper} {i : Nat} {rest : List Nat} {o : Oper} {v : Value} {bs : Nat → Prop} (h : YOn P ops w o v ⟨a.tmps, []⟩ bs) (ho : ops[i]? = some o) :
    step P (lone (b.atR a (.inRegion ops (i :: rest) :: k)) cs w) = .next (lone ((b.atR a (.inRegion ops (i :: rest) :: k)).finish v) cs w) := by
  rcases h with ⟨h1, h2⟩ | ⟨h1, rfl⟩
  · have hr : (execOp a.eval o).run P w = .ok (.value v) w := by rw [eval_tmps]; exact h2 w fun _ _ => rfl
    have hnd : ∀ c, o.op ≠ .defer c := fun c hc => by
      simp only [execOp, hc, Sem.run_bind] at hr
      cases hq : (resolve a.eval c o.type).run P w with
      | ok d w3 => rw [hq] at hr; simp at hr
      | halt d w3 => rw [hq] at hr; simp at hr
    exact op_value (a := a) (v := v) ho h1 hnd hr
  · exact op_unwanted ho h1
/-- Those that were carried out ahead come up, till one comes up that was not, or none is left. -/
theorem catchUp {b : Frame} {ops : Array Oper} {ok : Bool} {done : Nat} {pend : List (Nat × List Nat)} {V : Array Value} {k' : List Item} {cs : List Frame} : ∀ (l : List Nat) (a : Act) (L : Set'),
    AnyR P E w ops ok done pend l a.tmps V L → ∃ l2 a2 L2, Steps P (lone (b.atR a (.inRegion ops l :: k')) cs w) (lone (b.atR a2 (.inRegion ops l2 :: k')) cs w) ∧ a2.defers = a.defers ∧ AnyR P E w ops ok done pend l2 a2.tmps V L2 ∧
      ((l2 = [] ∧ a2.tmps = V) ∨ ∃ i l', l2 = i :: l' ∧ mk done i = false)
  | [], a, L, h => by
    obtain ⟨h1, h2⟩ := h.ah.done h.lin
    exact ⟨[], a, L, Steps.refl _ _, rfl, h, .inl ⟨rfl, by injection h2 with h2; exact h2.symm⟩⟩
  | i :: l, a, L, h => by
    cases hd : mk done i with
    | false => exact ⟨i :: l, a, L, Steps.refl _ _, rfl, h, .inr ⟨i, l, rfl, hd⟩⟩
    | true =>
      have hr := h.lin.1
      obtain ⟨_, o, ho, _⟩ := id hr
      obtain ⟨v, hy, hA⟩ := (h.ah.step h.sel ho hr).2 hd
      have hstep := yon_step (b := b) (a := a) (k := k') (cs := cs) (rest := l) hy ho
      rw [Frame.finish_atR, ho] at hstep
      have h' : AnyR P E w ops ok done pend l (a.put o.dst v).tmps V (upd L i) := ⟨h.sel, h.ok_, h.closed.upd hr, h.lin.2, by rw [put_tmps, ← act_put]; exact hA⟩
      obtain ⟨l2, a2, L2, q1, q2, q3, q4⟩ := catchUp l (a.put o.dst v) (upd L i) h'
      exact ⟨l2, a2, L2, (Steps.one hstep).trans q1, q2.trans (put_defers _ _ _), q3, q4⟩
end
end Go.Sx
