/- The engine and the contracts, part 4. No condition beyond the hypotheses of each theorem. -/
import Derived.Test.YtkcdnpbcbmcgkaaG03
import Derived.WideShapes
import Derived.Carry
/- An operation of a region, whichever comes up. -/
set_option linter.unusedSimpArgs false
set_option linter.unusedVariables false
namespace Go.Sx
open Go Go.RowKit
section
variable {P : Program} {E E' : Env} {ι : Val} {w w2 : World} {B : Base} {w0 : World} {H : AH}
theorem eval_tmps (a : Act) : a.eval = (⟨a.tmps, []⟩ : Act).eval := by funext x; cases x <;> rfl
/-- What the symbolic step names, and where the machine has come. -/
def Goes (P : Program) (B : Base) (w0 : World) (ι : Val) (base : List Frame) (As : List AM) (M : Machine) : Prop := ∃ A' ∈ As, ∃ M', Steps P M M' ∧ MR P B w0 ι base A' M'
theorem Goes.one {base : List Frame} {A' : AM} {M M' : Machine} (h : step P M = .next M') (g : MR P B w0 ι base A' M') : Goes P B w0 ι base [A'] M := ⟨A', by simp, M', Steps.one h, g⟩
theorem Goes.steps {base : List Frame} {As : List AM} {M M' : Machine} (h : Steps P M M') (g : Goes P B w0 ι base As M') : Goes P B w0 ι base As M := by
  obtain ⟨A', h1, M2, h2, h3⟩ := g
  exact ⟨A', h1, M2, h.trans h2, h3⟩
theorem applyAll_mem {wait : AFr} {below : List AFr} {pend : List Nat} : ∀ (rs : List AR) (As : List AM), applyAll P wait below pend H rs = some As → ∀ r ∈ rs, ∃ A' ∈ As, apply P wait below pend H r = some A'
  | [], As, h, r, hr => by cases hr
  | x :: xs, As, h, r, hr => by
    unfold applyAll at h
    simp only [Option.bind_eq_some_iff, Option.map_eq_some_iff] at h
    obtain ⟨m, hm, ms, hms, rfl⟩ := h
    rcases List.mem_cons.1 hr with rfl | hr
    · exact ⟨m, by simp, hm⟩
    · obtain ⟨A', h1, h2⟩ := applyAll_mem xs ms hms r hr
      exact ⟨A', by simp [h1], h2⟩
/-- What is true may be taken to be so. -/
theorem HR.assume (h : HR B w0 E ι H w) (s : SB) : HR B w0 E ι (H.assume s (s.den ι)) w :=
  ⟨h.below, h.base, h.nx, h.inb, h.obj, h.sep, fun x hx => by
    rcases List.mem_cons.1 hx with rfl | hx
    · rfl
    · exact h.pc x hx, h.own, h.ext⟩
theorem fork_ok {base : List Frame} {A : AM} {As : List AM} {s : SB} {fr : Frame} {cs : List Frame} (hh : HR B w0 E ι A.H w) (h1 : FRel P E ι w A.top fr) (h2 : FRs P E ι w A.below cs) (hs : fork A s = some As) : Goes P B w0 ι base As (lone fr (cs ++ base) w) := by
  unfold fork at hs
  simp only [Option.some.injEq] at hs; subst hs
  have hq := hh.assume s
  cases hd : s.den ι with
  | true => rw [hd] at hq; exact ⟨_, by simp, _, Steps.refl _ _, MR.mk (A := { A with H := A.H.assume s true }) hq h1 h2⟩
  | false => rw [hd] at hq; exact ⟨{ A with H := A.H.assume s false }, by simp, _, Steps.refl _ _, MR.mk (A := { A with H := A.H.assume s false }) hq h1 h2⟩
section
variable {base : List Frame} {wait : AFr} {below : List AFr} {cs : List Frame} {b : Frame} {a : Act} {ops : Array Oper} {i : Nat} {rest : List Nat} {k' : List Item} {V : Array Value} {o : Oper} {As : List AM}
theorem rnd_none {x : AFr} {fr b : Frame} {a : Act} {ct : List Item} {V : Array Value} (g : FR P E ι w x fr b a ct V) (h : x.rnd = none) : b.roundOf = none := by
  have := g.rnd
  rw [h] at this
  cases hx : b.roundOf with
  | none => rfl
  | some _ => rw [hx] at this; exact this.elim
theorem aDefer_ok (hh : HR B w0 E ι H w) (g : FR P E ι w wait (b.atR a (.inRegion ops (i :: rest) :: k')) b a (.inRegion ops (i :: rest) :: k') V) (hret : wait.ret = false) (hfs : FRs P E ι w below cs) (ho : ops[i]? = some o)
    (hev : execOp a.eval o = execOp (⟨V, []⟩ : Act).eval o) (hwa : Region.wanted o (yielded ops a.tmps) = true) {f : Operand} {args : Array Operand} {ts : Array TypeId} (hop : o.op = .defer ⟨.value f, args, ts⟩) (hs : aDefer P wait below H f args = some As) :
    Goes P B w0 ι base As (lone (b.atR a (.inRegion ops (i :: rest) :: k')) (cs ++ base) w) := by
  have hρ : Opv E ι wait.tm (⟨V, []⟩ : Act).eval := fun x v hx => opv_eval (a := ⟨V, []⟩) g.tm hx
  unfold aDefer at hs
  split at hs
  · rename_i gf first captured as hrn hf ha
    split at hs
    · obtain ⟨f', hf', rfl⟩ := Option.map_eq_some_iff.1 hs
      have h1 := hρ f _ hf
      have h2 := opvs_cvs hρ _ _ ha
      simp only [cv, Option.bind_eq_some_iff, Option.map_eq_some_iff] at h1
      obtain ⟨x, hx, y, hy, h1⟩ := h1
      have hrun : (execOp a.eval o).run P w = .ok (.defer { target := .fn (.func gf) y.toArray, args := x.toArray ++ args.map (⟨V, []⟩ : Act).eval }) w := by
        rw [hev]
        simp only [execOp, hop, resolve, ← h1, Deferred.ofValue, Sem.run_bind, Sem.run_pure, Result.andThen_ok]
      have hrel : FRel P E ι w { wait with defers := .fn gf (first ++ as ++ captured) :: wait.defers } (b.atR ⟨a.tmps, { target := .fn (.func gf) y.toArray, args := x.toArray ++ args.map (⟨V, []⟩ : Act).eval } :: a.defers⟩ (.inRegion ops (i :: rest) :: k')) := by
        refine ⟨b, _, _, V, ⟨fun _ => rfl, fun hx => ?_⟩, g.fn, g.kind, g.rnd, ⟨⟨_, _, ?_, rfl⟩, g.defs⟩, g.tm, g.todo, fun hx => ?_⟩
        · rw [show wait.ret = false from hret] at hx; cases hx
        · have := cvs_append (cvs_append hx h2) hy
          rw [this]
          simp
        · rw [show wait.ret = false from hret] at hx; cases hx
      have hu : cv E ι (.tuple []) = some undef := by simp [cv, cvs, undef]
      obtain ⟨h3, h4⟩ := finish_ok hrel hret hu hf'
      exact Goes.one (op_defer (rnd_none g hrn) ho hwa hrun) (MR.mk hh h3 hfs)
    · cases hs
  · cases hs
theorem aPanic_ok (hh : HR B w0 E ι H w) (g : FR P E ι w wait (b.atR a (.inRegion ops (i :: rest) :: k')) b a (.inRegion ops (i :: rest) :: k') V) (hret : wait.ret = false) (hfs : FRs P E ι w below cs) (ho : ops[i]? = some o)
    (hev : execOp a.eval o = execOp (⟨V, []⟩ : Act).eval o) (hwa : Region.wanted o (yielded ops a.tmps) = true) {x : Operand} (hop : o.op = .panic x) (hs : aPanic wait below H x = some As) :
    Goes P B w0 ι base As (lone (b.atR a (.inRegion ops (i :: rest) :: k')) (cs ++ base) w) := by
  have hρ : Opv E ι wait.tm (⟨V, []⟩ : Act).eval := fun x v hx => opv_eval (a := ⟨V, []⟩) g.tm hx
  unfold aPanic at hs
  split at hs
  · rename_i ops' i' r' k t v htd hx
    simp only [Option.some.injEq] at hs; subst hs
    have h1 := hρ x _ hx
    obtain ⟨c, hc, h2⟩ : ∃ c, cv E ι v = some c ∧ .iface t c = (⟨V, []⟩ : Act).eval x := by
      simpa only [cv, Option.map_eq_some_iff] using h1
    have hrun : (execOp a.eval o).run P w = .halt (.panic (.iface t c)) w := by
      rw [hev]
      simp only [execOp, hop, ← h2, Instr.panic, Sem.run_bind]
      rfl
    have gt := g.todo
    rw [htd] at gt
    obtain ⟨hV, hits⟩ := gt
    have hrel : FRel P E ι w { wait with ret := true, pan := some (.iface t v, false) } { b.atR a (.inRegion ops (i :: rest) :: k') with mode := .panicking [{ v := .iface t c, recovered := false }] } := by
      refine ⟨b, a, _, V, ⟨fun hx => (by cases hx), fun _ => ⟨_, ⟨_, ?_, rfl⟩, rfl⟩⟩, g.fn, g.kind, g.rnd, g.defs, g.tm, ?_, fun _ => ⟨hV, by show ItsR E wait.todo _; rw [htd]; exact hits⟩⟩
      · rw [h1, h2]
      · show TodoR P E w wait.todo _ _ _
        rw [htd]; exact ⟨hV, hits⟩
    exact Goes.one (op_panic ho hwa (by rw [hop]; simp) hrun) (MR.mk (A := ⟨_, _, _⟩) hh hrel hfs)
  · cases hs
theorem aRecover_ok (hh : HR B w0 E ι H w) (g : FR P E ι w wait (b.atR a (.inRegion ops (i :: rest) :: k')) b a (.inRegion ops (i :: rest) :: k') V) (hret : wait.ret = false) (hfs : FRs P E ι w below cs) (ho : ops[i]? = some o)
    (hwa : Region.wanted o (yielded ops a.tmps) = true) {args : Array Operand} {ts : Array TypeId} (hop : o.op = .call ⟨.builtin .recover, args, ts⟩) (hs : aRecover wait below H = some As) :
    Goes P B w0 ι base As (lone (b.atR a (.inRegion ops (i :: rest) :: k')) (cs ++ base) w) := by
  have hrel : FRel P E ι w wait (b.atR a (.inRegion ops (i :: rest) :: k')) := ⟨b, a, _, V, g⟩
  have hrun : (execOp a.eval o).run P w = .ok .recover w := by
    simp only [execOp, hop, resolve, Sem.run_bind, Sem.run_pure, Result.andThen_ok, invoke, builtin]
  have hnil : cv E ι .niface = some .nilIface := rfl
  unfold aRecover at hs
  split at hs
  · cases hs
  · rename_i hrn
    have hb := rnd_none g hrn
    split at hs
    · rename_i hdfr
      have hk : b.kind = .deferred := by rw [g.kind, hdfr]; rfl
      split at hs
      · rename_i c cs0
        split at hs
        · rename_i hcr
          cases hfs with
          | @cons _ cf _ cfs hcf hcfs =>
            obtain ⟨b2, a2, ct2, V2, g2⟩ := hcf
            obtain ⟨m, hm, hfr⟩ := g2.frame.2 hcr
            split at hs
            · rename_i v hpan
              obtain ⟨f', hf', rfl⟩ := Option.map_eq_some_iff.1 hs
              rw [hpan] at hm
              obtain ⟨cval, hcval, rfl⟩ := hm
              obtain ⟨h3, h4⟩ := finish_ok hrel hret hcval hf'
              have ht : tryRecover (b.atR a (.inRegion ops (i :: rest) :: k')) (cf :: cfs ++ base) = some (cval, { b2.atR a2 ct2 with mode := .panicking [{ v := cval, recovered := true }] } :: cfs ++ base) := by
                simp [tryRecover, Frame.atR, hk, hfr]
              refine Goes.one (op_recovered hb ho hwa hrun ht) (MR.mk (A := ⟨_, _, _⟩) (cs := _ :: cfs) hh h3 (.cons ?_ hcfs))
              exact ⟨b2, a2, ct2, V2, ⟨fun hx => (by rw [show c.ret = true from hcr] at hx; cases hx), fun _ => ⟨_, ⟨_, hcval, rfl⟩, rfl⟩⟩, g2.fn, g2.kind, g2.rnd, g2.defs, g2.tm, g2.todo, g2.ret⟩
            · rename_i hpan
              obtain ⟨f', hf', rfl⟩ := Option.map_eq_some_iff.1 hs
              obtain ⟨h3, h4⟩ := finish_ok hrel hret hnil hf'
              have ht : tryRecover (b.atR a (.inRegion ops (i :: rest) :: k')) (cf :: cfs ++ base) = none := by
                rw [hfr]
                cases hp : c.pan with
                | none =>
                  rw [hp] at hm
                  subst hm
                  simp [tryRecover, Frame.atR, hk]
                | some pr =>
                  obtain ⟨v, r⟩ := pr
                  rw [hp] at hm
                  obtain ⟨cval, _, rfl⟩ := hm
                  cases r with
                  | false => exact absurd hp (hpan v)
                  | true => simp [tryRecover, Frame.atR, hk]
              exact Goes.one (op_recover hb ho hwa hrun ht) (MR.mk (A := ⟨_, _, _⟩) (cs := cf :: cfs) hh h3 (.cons ⟨b2, a2, ct2, V2, g2⟩ hcfs))
        · cases hs
      · cases hs
    · rename_i hdfr
      have hk : b.kind = .normal := by
        rw [g.kind]
        cases hx : wait.dfr with
        | true => exact absurd hx hdfr
        | false => rfl
      obtain ⟨f', hf', rfl⟩ := Option.map_eq_some_iff.1 hs
      obtain ⟨h3, h4⟩ := finish_ok hrel hret hnil hf'
      have ht : tryRecover (b.atR a (.inRegion ops (i :: rest) :: k')) (cs ++ base) = none := by
        simp [tryRecover, Frame.atR, hk]
      exact Goes.one (op_recover hb ho hwa hrun ht) (MR.mk (A := ⟨_, _, _⟩) hh h3 hfs)
end
theorem aOper_ok (hP : Fine P) (hι : Scalars ι) {base : List Frame} {wait : AFr} {below : List AFr} {cs : List Frame} {b : Frame} {a : Act} {ops : Array Oper} {i : Nat} {rest : List Nat} {k' : List Item} {V : Array Value} {o : Oper} {As : List AM}
    (hh : HR B w0 E ι H w) (g : FR P E ι w wait (b.atR a (.inRegion ops (i :: rest) :: k')) b a (.inRegion ops (i :: rest) :: k') V) (hret : wait.ret = false) (hfs : FRs P E ι w below cs) (ho : ops[i]? = some o)
    (hev : execOp a.eval o = execOp (⟨V, []⟩ : Act).eval o) (hwt : Region.wanted o (yielded ops a.tmps) = Region.wanted o (yielded ops V)) (hs : aOper P wait below H ops o = some As) :
    Goes P B w0 ι base As (lone (b.atR a (.inRegion ops (i :: rest) :: k')) (cs ++ base) w) := by
  have hrel : FRel P E ι w wait (b.atR a (.inRegion ops (i :: rest) :: k')) := ⟨b, a, _, V, g⟩
  have hρ : Opv E ι wait.tm (⟨V, []⟩ : Act).eval := fun x v hx => opv_eval (a := ⟨V, []⟩) g.tm hx
  unfold aOper at hs
  cases hw : aWanted H.pc ops wait.tm o with
  | none => rw [hw] at hs; cases hs
  | some wt =>
    rw [hw] at hs
    have hwv := aWanted_ok hh.pc g.tm hw
    cases wt with
    | false =>
      simp only [Option.map_eq_some_iff] at hs
      obtain ⟨f, hf, rfl⟩ := hs
      have hu : cv E ι (.tuple []) = some undef := by simp [cv, cvs, undef]
      obtain ⟨h1, h2⟩ := finish_ok hrel hret hu hf
      exact Goes.one (op_unwanted ho (hwt.trans hwv)) (MR.mk hh h1 hfs)
    | true =>
      have hwa := hwt.trans hwv
      simp only at hs
      cases he : aEarly P H wait.tm o.op with
      | some r =>
        rw [he] at hs
        simp only [Option.map_eq_some_iff] at hs
        obtain ⟨f, hf, rfl⟩ := hs
        obtain ⟨c, hc, hr⟩ := aEarly_ok hι hh hρ (o := o) he
        obtain ⟨h1, h2⟩ := finish_ok hrel hret hc hf
        exact Goes.one (op_value ho hwa (aEarly_nodefer he) (by rw [hev]; exact hr w (Agree.refl _ _ _))) (MR.mk hh h1 hfs)
      | none =>
        rw [he] at hs
        simp only at hs
        split at hs
        · exact aDefer_ok hh g hret hfs ho hev hwa (by assumption) hs
        · exact aPanic_ok hh g hret hfs ho hev hwa (by assumption) hs
        · exact aRecover_ok hh g hret hfs ho hwa (by assumption) hs
        simp only [Option.bind_eq_some_iff] at hs
        obtain ⟨rs, hrs, hs⟩ := hs
        obtain ⟨n, w', hrun, r, hr, E', hE, hh', hn, ht, hsz⟩ := aW_ok hP hι hh hρ hrs
        rw [← hev] at hrun
        obtain ⟨A', hA, hap⟩ := applyAll_mem rs As hs r hr
        have hnd := aW_nodefer hrs
        unfold apply at hap
        split at hap
        · rename_i hok
          have hsh := sheltered_of hh hok ht
          have hfs' : FRs P E' ι w' below cs := hfs.later hE fun p hp => hsh p (List.mem_append_right _ hp)
          have hrel' : FRel P E' ι w' wait (b.atR a (.inRegion ops (i :: rest) :: k')) := hrel.later hE fun p hp => hsh p (List.mem_append_left _ hp)
          obtain ⟨an, H', tc⟩ := r
          simp only at hap hn hh'
          cases an with
          | val v =>
            simp only [Option.map_eq_some_iff] at hap
            obtain ⟨f, hf, rfl⟩ := hap
            cases n <;> simp only [NR] at hn
            obtain ⟨h1, h2⟩ := finish_ok hrel' hret hn hf
            exact ⟨_, hA, _, Steps.one (op_value ho hwa hnd hrun), MR.mk hh' h1 hfs'⟩
          | skip =>
            simp only [Option.map_eq_some_iff] at hap
            obtain ⟨f, hf, rfl⟩ := hap
            cases n <;> simp only [NR] at hn
            have hu : cv E' ι (.tuple []) = some undef := by simp [cv, cvs, undef]
            obtain ⟨h1, h2⟩ := finish_ok hrel' hret hu hf
            exact ⟨_, hA, _, Steps.one (op_skip ho hwa hnd hrun), MR.mk hh' h1 hfs'⟩
          | enter f args =>
            simp only [Option.map_eq_some_iff] at hap
            obtain ⟨fr, hfr, rfl⟩ := hap
            cases n <;> simp only [NR] at hn
            obtain ⟨rfl, l, hl, rfl⟩ := hn
            have h1 := enterFr_ok (w := w') hl hfr
            exact ⟨_, hA, _, Steps.one (op_enter ho hwa hnd hrun), MR.mk (cs := _ :: cs) hh' h1 (.cons hrel' hfs')⟩
          | round l fn tm as bd =>
            simp only [Option.some.injEq] at hap
            subst hap
            cases n <;> simp only [NR] at hn
            rename_i lc fn' C as' bd'
            obtain ⟨⟨e, he', rfl⟩, rfl, hC, rfl, rfl⟩ := hn
            let b2 : Frame := { (default : Frame) with fn := fn, kind := .normal, roundOf := some e.1 }
            have h1 : FRel P E' ι w' { fn := fn, tm := tm, todo := [.code as, .beginRound, .code bd], defers := [], ret := false, rnd := some l } (Frame.round e.1 fn C as bd .normal) := by
              refine ⟨b2, ⟨C, []⟩, [.code as, .beginRound, .code bd], C, ?_⟩
              refine ⟨?_, rfl, rfl, ⟨e, he', rfl⟩, trivial, hC, ⟨rfl, .cons .code (.cons .beginRound (.cons .code .nil))⟩, fun hx => by cases hx⟩
              simp [Frame.round, Frame.atR, b2]
            exact ⟨_, hA, _, Steps.one (op_round ho hwa hnd hrun), MR.mk (cs := _ :: cs) hh' h1 (.cons hrel' hfs')⟩
        · cases hap

/-! ### A region in any order -/
theorem catAll_mem : ∀ (xs : List (Option (List AM))) (As : List AM), catAll xs = some As → ∀ x ∈ xs, ∃ l, x = some l ∧ ∀ A ∈ l, A ∈ As
  | [], As, h, x, hx => by cases hx
  | y :: ys, As, h, x, hx => by
    unfold catAll at h
    simp only [Option.bind_eq_some_iff, Option.map_eq_some_iff] at h
    obtain ⟨p, rfl, q, hq, rfl⟩ := h
    rcases List.mem_cons.1 hx with rfl | hx
    · exact ⟨p, rfl, fun A hA => by simp [hA]⟩
    · obtain ⟨l, h1, h2⟩ := catAll_mem ys q hq x hx
      exact ⟨l, h1, fun A hA => by simp [h2 A hA]⟩
theorem yon_step {b : Frame} {a : Act} {k : List Item} {cs : List Frame} {ops : Array Oper} {i : Nat} {rest : List Nat} {o : Oper} {v : Value} {bs : Nat → Prop} (h : YOn P ops w o v ⟨a.tmps, []⟩ bs) (ho : ops[i]? = some o) :
    step P (lone (b.atR a (.inRegion ops (i :: rest) :: k)) cs w) = .next (lone ((b.atR a (.inRegion ops (i :: rest) :: k)).finish v) cs w) := by
  rcases h with ⟨h1, h2⟩ | ⟨h1, rfl⟩
  · have hr : (execOp a.eval o).run P w = .ok (.value v) w := by rw [eval_tmps]; exact h2 w fun _ _ => rfl
    have hnd : ∀ c, o.op ≠ .defer c := fun c hc => by
      simp only [execOp, hc, Sem.run_bind] at hr
      cases hq : (resolve a.eval c o.type).run P w with
      | ok d w3 => rw [hq] at hr; simp at hr
      | halt d w3 => rw [hq] at hr; simp at hr
    exact op_value (a := a) (v := v) ho h1 hnd hr
  · exact op_unwanted ho h1
/-- Those that were carried out ahead come up, till one comes up that was not, or none is left. -/
theorem catchUp {b : Frame} {ops : Array Oper} {ok : Bool} {done : Nat} {pend : List (Nat × List Nat)} {V : Array Value} {k' : List Item} {cs : List Frame} : ∀ (l : List Nat) (a : Act) (L : Set'),
    AnyR P E w ops ok done pend l a.tmps V L → ∃ l2 a2 L2, Steps P (lone (b.atR a (.inRegion ops l :: k')) cs w) (lone (b.atR a2 (.inRegion ops l2 :: k')) cs w) ∧ a2.defers = a.defers ∧ AnyR P E w ops ok done pend l2 a2.tmps V L2 ∧
      ((l2 = [] ∧ a2.tmps = V) ∨ ∃ i l', l2 = i :: l' ∧ mk done i = false)
  | [], a, L, h => by
    obtain ⟨h1, h2⟩ := h.ah.done h.lin
    exact ⟨[], a, L, Steps.refl _ _, rfl, h, .inl ⟨rfl, by injection h2 with h2; exact h2.symm⟩⟩
  | i :: l, a, L, h => by
    cases hd : mk done i with
    | false => exact ⟨i :: l, a, L, Steps.refl _ _, rfl, h, .inr ⟨i, l, rfl, hd⟩⟩
    | true =>
      have hr := h.lin.1
      obtain ⟨_, o, ho, _⟩ := id hr
      obtain ⟨v, hy, hA⟩ := (h.ah.step h.sel ho hr).2 hd
      have hstep := yon_step (b := b) (a := a) (k := k') (cs := cs) (rest := l) hy ho
      rw [Frame.finish_atR, ho] at hstep
      have h' : AnyR P E w ops ok done pend l (a.put o.dst v).tmps V (upd L i) := ⟨h.sel, h.ok_, h.closed.upd hr, h.lin.2, by rw [put_tmps, ← act_put]; exact hA⟩
      obtain ⟨l2, a2, L2, q1, q2, q3, q4⟩ := catchUp l (a.put o.dst v) (upd L i) h'
      exact ⟨l2, a2, L2, (Steps.one hstep).trans q1, q2.trans (put_defers _ _ _), q3, q4⟩
end
end Go.Sx
/- One step of the symbolic machine: all of it. -/
set_option linter.unusedSimpArgs false
set_option linter.unusedVariables false
namespace Go.Sx
open Go Go.RowKit
section
variable {P : Program} {E E' : Env} {ι : Val} {w w2 : World} {B : Base} {w0 : World} {H : AH}

/-! ### Records of loops -/
theorem HR.loop' (hh : HR B w0 E ι H w) {l : Nat} {st : LoopState} {jump : Option Code} {fn : FuncId} {tm : TM} {ps : Array Tmp} {as bd : Code} {d : Nat} (hg : H.get l = some (.loop st jump fn tm ps as bd d)) {e : Nat × Nat × Nat} (he : E[l]? = some e) :
    ∃ ed C, TMR E ι tm C ∧ E[d]? = some ed ∧ w.heap[e.1]? = some (.loop { state := st, pending := jump, fn := fn, tmps := C, params := ps, assign := as, body := bd, defers := ed.1 }) := by
  obtain ⟨e', he', hr⟩ := hh.obj l _ hg
  rw [he] at he'; injection he' with he'; subst he'
  generalize hob : w.heap[e.1]? = ob at hr
  cases hr with
  | loop h1 h2 => exact ⟨_, _, h1, h2, rfl⟩
/-- A record of a loop is laid anew: what is sheltered stays. -/
theorem loopPut (hh : HR B w0 E ι H w) {l : Nat} {o : AObj} (hg : H.get l = some o) (hv : o.isView = false) (hold : o.old = none) {e : Nat × Nat × Nat} (he : E[l]? = some e) (o' : AObj) (ob : Obj) (hr : OR E ι o' e (some ob)) {ns : List Nat} (hok : apartOk H ns [l] = true) :
    HR B w0 E ι (H.put l o') { w with heap := w.heap.setIfInBounds e.1 ob } ∧ Sheltered E ns w { w with heap := w.heap.setIfInBounds e.1 ob } := by
  have h1 := hh.put hg hv he o' ob hr
  rw [hold] at h1
  exact ⟨h1, sheltered_of hh hok (Touch.set (by simp) he ob)⟩
theorem getLoop_run {b : Nat} {r : Loop} (h : w.heap[b]? = some (.loop r)) : (Instr.getLoop b).run P w = .ok r w := by
  simp [Instr.getLoop, run_getObj h]
theorem endRound_ok (hh : HR B w0 E ι H w) {l : Nat} {jump : Option Code} {H' : AH} (h : endRoundA H l jump = some H') {b : Nat} (hb : ∃ e, E[l]? = some e ∧ e.1 = b) {ns : List Nat} (hok : apartOk H ns [l] = true) :
    ∃ w', (Instr.endRound b jump).run P w = .ok (.bool jump.isNone) w' ∧ HR B w0 E ι H' w' ∧ Sheltered E ns w w' := by
  obtain ⟨e, he, rfl⟩ := hb
  unfold endRoundA at h
  split at h
  · rename_i st j0 fn tm ps as bd d hg
    simp only [Option.some.injEq] at h
    subst h
    obtain ⟨ed, C, hC, hed, hb⟩ := hh.loop' hg he
    have hrun : (Instr.endRound e.1 jump).run P w = .ok (.bool jump.isNone) { w with heap := w.heap.setIfInBounds e.1 (.loop { state := if jump.isNone then .ready else .done, pending := jump, fn := fn, tmps := C, params := ps, assign := as, body := bd, defers := ed.1 }) } := by
      simp only [Instr.endRound, Sem.run_bind, getLoop_run hb, Result.andThen_ok, run_setObj hb (by simp), Sem.run_pure]
    obtain ⟨h1, h2⟩ := loopPut hh hg rfl rfl he (.loop (if jump.isNone then .ready else .done) jump fn tm ps as bd d) _ (.loop hC hed) hok
    exact ⟨_, hrun, h1, h2⟩
  · cases h
theorem exit_ok {id : Nat} : ∀ {k : List AIt} {ck : List Item}, ItsR E k ck → (∀ k2, exitA id k = some k2 → ∃ ck2, exitTo id ck = some ck2 ∧ ItsR E k2 ck2) ∧ (exitA id k = none → exitTo id ck = none) := by
  intro k ck h
  induction h with
  | nil => exact ⟨fun k2 h => by simp [exitA] at h, fun _ => rfl⟩
  | @cons a c k k' ha hk ih =>
    cases ha with
    | @inBlock id' =>
      simp only [exitA, exitTo]
      by_cases hid : id' = id
      · subst hid
        have : Nat.beq id' id' = true := Nat.beq_refl id'
        simp only [this, cond_true, beq_self_eq_true, if_true]
        exact ⟨fun k2 h => by simp only [Option.some.injEq] at h; subst h; exact ⟨_, rfl, hk⟩, fun h => by cases h⟩
      · have h1 : Nat.beq id' id = false := by
          cases hb : Nat.beq id' id with
          | false => rfl
          | true => exact absurd (Nat.eq_of_beq_eq_true hb) hid
        have h2 : (id' == id) = false := by simpa using hid
        simp only [h1, cond_false, h2, Bool.false_eq_true, if_false]
        exact ih
    | _ => simp only [exitA, exitTo]; exact ih

/-! ### The parts of a step -/
theorem running {f : AFr} {fr : Frame} {b : Frame} {a : Act} {ct : List Item} {V : Array Value} (g : FR P E ι w f fr b a ct V) (h : f.ret = false) : fr = b.atR a ct := by
  have := g.frame; rw [h] at this; simpa using this
theorem plain_todo {todo : List AIt} {ct : List Item} {C V : Array Value} (h : TodoR P E w todo ct C V) (hn : ∀ ops ok done pos pend cur k, todo ≠ .any ops ok done pos pend cur :: k) : C = V ∧ ItsR E todo ct := by
  unfold TodoR at h
  split at h
  · exact absurd rfl (hn _ _ _ _ _ _ _)
  · exact h
theorem todo_plain {todo : List AIt} {ct : List Item} {V : Array Value} (h : ItsR E todo ct) : TodoR P E w todo ct V V := by
  unfold TodoR
  split
  · cases h with
    | cons a _ => cases a
  · exact ⟨rfl, h⟩
/-- Only what is to be done next has turned. -/
theorem FRel.todo {f : AFr} {b : Frame} {a : Act} {V : Array Value} (hret : f.ret = false) (hfn : b.fn = f.fn) (hk : b.kind = kindOf f.dfr) (hr : RndR E f.rnd b.roundOf) (hd : DefR E ι f.defers a.defers) (ht : TMR E ι f.tm V) (ha : a.tmps = V) {k : List AIt} {ck : List Item} (hi : ItsR E k ck) :
    FRel P E ι w { f with todo := k } (b.atR a ck) :=
  ⟨b, a, ck, V, ⟨fun _ => rfl, fun hx => (by rw [show f.ret = false from hret] at hx; cases hx)⟩, hfn, hk, hr, hd, ht, by rw [ha]; exact todo_plain hi, fun hx => by rw [show f.ret = false from hret] at hx; cases hx⟩
theorem leave_ok (hι : Scalars ι) {base : List Frame} {A : AM} {jump : Option Code} {As : List AM} {cs : List Frame} {b : Frame} {a : Act} {ct : List Item} {V : Array Value} {fr : Frame} (hh : HR B w0 E ι A.H w) (g : FR P E ι w A.top fr b a ct V) (hret : A.top.ret = false) (hV : a.tmps = V) (hits : ItsR E A.top.todo ct) (hfs : FRs P E ι w A.below cs)
    (hct : (jump = none ∧ ct = []) ∨ (jump = some .ret ∧ ∃ k, ct = .code .ret :: k) ∨ ∃ id k, jump = some (.exit id) ∧ ct = .code (.exit id) :: k ∧ exitTo id k = none) (hs : leave A jump = some As) : Goes P B w0 ι base As (lone fr (cs ++ base) w) := by
  have hfr := running g hret
  subst hfr
  unfold leave at hs
  cases hrnd : A.top.rnd with
  | none =>
    rw [hrnd] at hs
    have hb : b.roundOf = none := by
      have := g.rnd
      rw [hrnd] at this
      cases hx : b.roundOf with
      | none => rfl
      | some _ => rw [hx] at this; exact this.elim
    have hrel : FRel P E ι w { A.top with ret := true, pan := none } { b.atR a ct with mode := .returning } :=
      ⟨b, a, ct, V, ⟨fun hx => (by cases hx), fun _ => ⟨_, rfl, rfl⟩⟩, g.fn, g.kind, g.rnd, g.defs, g.tm, by rw [hV]; exact todo_plain hits, fun _ => ⟨hV, hits⟩⟩
    rcases hct with ⟨rfl, rfl⟩ | ⟨rfl, k, rfl⟩ | ⟨id, k, rfl, rfl, _⟩
    · simp only [Option.some.injEq] at hs; subst hs
      exact Goes.one (stepR_end hb) (MR.mk (A := ⟨_, _, _⟩) hh hrel hfs)
    · simp only [Option.some.injEq] at hs; subst hs
      exact Goes.one (stepR_ret hb) (MR.mk (A := ⟨_, _, _⟩) hh hrel hfs)
    · cases hs
  | some l =>
    rw [hrnd] at hs
    have hb : ∃ bl, b.roundOf = some bl ∧ ∃ e, E[l]? = some e ∧ e.1 = bl := by
      have := g.rnd
      rw [hrnd] at this
      cases hx : b.roundOf with
      | none => rw [hx] at this; exact this.elim
      | some bl => rw [hx] at this; exact ⟨bl, rfl, this⟩
    obtain ⟨bl, hb, he⟩ := hb
    cases hbel : A.below with
    | nil => rw [hbel] at hs; cases hs
    | cons c cs' =>
      rw [hbel] at hs hfs
      simp only at hs
      split at hs
      · cases hs
      rename_i hdc
      simp only [Bool.or_eq_true, not_or, Bool.not_eq_true] at hdc
      have hk : b.kind = .normal := by rw [g.kind, hdc.1]; rfl
      have hcr := hdc.2
      split at hs
      · cases hs
      · rename_i hok
        have hok : apartOk A.H (stackPend (c :: cs')) [l] = true := by simpa using hok
        simp only [Option.bind_eq_some_iff, Option.map_eq_some_iff] at hs
        obtain ⟨H', hH', c', hc', rfl⟩ := hs
        obtain ⟨w', hrun, hh', hsh⟩ := endRound_ok (P := P) hh hH' he hok
        cases hfs with
        | @cons _ cf _ cfs hcf hcfs =>
          have hcf' := hcf.later (Ext.refl E) (w2 := w') fun p hp => hsh p (by unfold stackPend; exact List.mem_append_left _ hp)
          have hcfs' := hcfs.later (Ext.refl E) (w2 := w') fun p hp => hsh p (by unfold stackPend; exact List.mem_append_right _ hp)
          obtain ⟨h1, h2⟩ := finish_ok hcf' hcr (v := .bool jump.isNone) rfl hc'
          refine Goes.one (M' := lone (cf.finish (.bool jump.isNone)) (cfs ++ base) w') ?_ (MR.mk hh' h1 hcfs')
          rcases hct with ⟨rfl, rfl⟩ | ⟨rfl, k, rfl⟩ | ⟨id, k, rfl, rfl, hx⟩
          · exact stepR_round_end hb hk hrun
          · exact stepR_round_ret hb hk hrun
          · exact stepR_round_exit hb hk hx hrun
/-! #### Returns -/
def rvSem (C : Array Value) : ResultVar → Sem Value
  | .tmp t => pure (C.getD t undef)
  | .cell a t => do loadVar t (← asAddr (C.getD a undef))
theorem results_eq (fn : Func) (C : Array Value) : results fn C = (do
    let vs ← fn.results.mapM (rvSem C)
    pure (if h : vs.size = 1 then vs[0] else .tuple vs)) := by
  unfold results
  congr 1
theorem results_ok (hh : HR B w0 E ι H w) {tm : TM} {C : Array Value} (ht : TMR E ι tm C) : ∀ (rs : List ResultVar) (vs : List AV), aResults P H tm rs = some vs → ∃ cs, cvs E ι vs = some cs ∧ (rs.mapM (rvSem C)).run P w = .ok cs w
  | [], vs, h => by
    simp only [aResults, Option.some.injEq] at h; subst h
    exact ⟨[], cvs_nil, rfl⟩
  | r :: rs, vs, h => by
    simp only [aResults, Option.bind_eq_some_iff, Option.map_eq_some_iff] at h
    obtain ⟨v, hv, l, hl, rfl⟩ := h
    obtain ⟨cs, h1, h2⟩ := results_ok hh ht rs l hl
    have hone : ∃ c, cv E ι v = some c ∧ (rvSem C r).run P w = .ok c w := by
      cases r with
      | tmp t =>
        simp only [aResult, Option.some.injEq] at hv; subst hv
        exact ⟨_, ht.2 t, rfl⟩
      | cell a t =>
        simp only [aResult] at hv
        split at hv
        · rename_i n off hg
          have := ht.2 a
          rw [hg] at this
          simp only [cv, Option.map_eq_some_iff] at this
          obtain ⟨e, he, hx⟩ := this
          obtain ⟨c, hc, hr⟩ := run_aLoad (P := P) hh hv he
          refine ⟨c, hc, ?_⟩
          simp only [rvSem, ← hx, asAddr, Sem.run_bind, Sem.run_pure, Result.andThen_ok]
          exact hr w (Agree.refl _ _ _)
        · cases hv
    obtain ⟨c, hc, hr⟩ := hone
    refine ⟨c :: cs, cvs_cons.2 ⟨c, cs, hc, h1, rfl⟩, ?_⟩
    simp only [List.mapM_cons, Sem.run_bind, hr, Result.andThen_ok, h2, Sem.run_pure]
theorem resultOf_ok (hh : HR B w0 E ι H w) {f : AFr} {C : Array Value} (ht : TMR E ι f.tm C) {v : AV} (h : resultOf P H f = some v) : ∃ fn c, P.funcs[f.fn]? = some fn ∧ cv E ι v = some c ∧ (results fn C).run P w = .ok c w := by
  unfold resultOf at h
  split at h
  · rename_i fn hfn
    obtain ⟨vs, hvs, rfl⟩ := Option.map_eq_some_iff.1 h
    obtain ⟨cs, h1, h2⟩ := results_ok hh ht fn.results.toList vs hvs
    have hrun : (results fn C).run P w = .ok (if h : cs.toArray.size = 1 then cs.toArray[0] else .tuple cs.toArray) w := by
      rw [results_eq, Array.mapM_eq_mapM_toList]
      simp only [Sem.run_bind, Sem.run_map, h2, Result.andThen_ok, Sem.run_pure]
    have hlen := (cvs_get h1).1
    refine ⟨fn, _, hfn, ?_, hrun⟩
    cases vs with
    | nil =>
      rw [cvs_nil] at h1; injection h1 with h1; subst h1
      simp [cv, cvs]
    | cons x r =>
      cases r with
      | nil =>
        obtain ⟨a, b, q1, q2, rfl⟩ := cvs_cons.1 h1
        rw [cvs_nil] at q2; injection q2 with q2; subst q2
        simpa using q1
      | cons y r =>
        have : ¬ cs.toArray.size = 1 := by simp at hlen ⊢; omega
        rw [dif_neg this]
        simp [cv, h1]
  · cases h
theorem todo_ret {todo : List AIt} {ct : List Item} {C C' V : Array Value} (h : TodoR P E w todo ct C V) (e : C' = C) : TodoR P E w todo ct C' V := by rw [e]; exact h
theorem step_taken {b : Frame} {a : Act} {ct : List Item} {cs : List Frame} {bl : Nat} {ds : List Deferred} {m : FrameMode} (hm : ∀ (_ : m = .run), False) (ha : a.defers = { target := .collected bl, args := #[] } :: ds) {w' : World} (hr : (Instr.takeDeferred bl).run P w = .ok [] w') :
    step P (lone { b.atR a ct with mode := m } cs w) = .next (lone { b.atR ⟨a.tmps, ds⟩ ct with mode := m } cs w') :=
  step_lone_go (by cases m <;> first | exact absurd rfl (fun h => hm h) | simp [stepG, unwind, Frame.atR, ha, hr])
theorem step_deferred {b : Frame} {a : Act} {ct : List Item} {cs : List Frame} {f : FuncId} {x cap : Array Value} {ds : List Deferred} {m : FrameMode} (hm : ∀ (_ : m = .run), False) (ha : a.defers = { target := .fn (.func f) cap, args := x } :: ds)
    (hr : (invoke (.fn (.func f) cap) x).run P w = .ok (.enter f (x ++ cap)) w) :
    step P (lone { b.atR a ct with mode := m } cs w) = .next (lone (Frame.enter P f (x ++ cap) .deferred) ({ b.atR ⟨a.tmps, ds⟩ ct with mode := m } :: cs) w) :=
  step_lone_go (by cases m <;> first | exact absurd rfl (fun h => hm h) | simp [stepG, unwind, callDeferred, Frame.atR, ha, hr])
theorem ModeR.notrun {p : Option (AV × Bool)} {m : FrameMode} (h : ModeR E ι p m) : m = .run → False := by
  intro e
  subst e
  cases p with
  | none => cases h
  | some x => obtain ⟨c, _, h⟩ := h; cases h
/-- A deferred call returns. -/
theorem step_back {fr c : Frame} {cs : List Frame} {v : Value} {fn : Func} (hm : fr.mode = .returning) (hd : fr.defers = []) (hk : fr.kind = .deferred) (hf : P.funcs[fr.fn]? = some fn) (hr : (results fn fr.tmps).run P w = .ok v w)
    (hc : c.mode = .returning ∨ ∃ x, c.mode = .panicking [{ v := x, recovered := false }]) : step P (lone fr (c :: cs) w) = .next (lone c cs w) :=
  step_lone_go (by rcases hc with hc | ⟨x, hc⟩ <;> simp [stepG, unwind, doReturn, hm, hd, hk, hf, hr, hc])
theorem step_back_recovered {fr c : Frame} {cs : List Frame} {v : Value} {fn : Func} (hm : fr.mode = .returning) (hd : fr.defers = []) (hk : fr.kind = .deferred) (hf : P.funcs[fr.fn]? = some fn) (hr : (results fn fr.tmps).run P w = .ok v w)
    {x : Value} (hc : c.mode = .panicking [{ v := x, recovered := true }]) : step P (lone fr (c :: cs) w) = .next (lone { c with mode := .returning } cs w) :=
  step_lone_go (by simp [stepG, unwind, doReturn, hm, hd, hk, hf, hr, hc])
theorem step_up {fr c : Frame} {cs : List Frame} {chain : List PanicEntry} {fn : Func} (hm : fr.mode = .panicking chain) (hd : fr.defers = []) (hf : P.funcs[fr.fn]? = some fn) : step P (lone fr (c :: cs) w) = .next (lone (c.raise chain) cs w) :=
  step_leave_panicked ⟨hm, hd, fn, hf⟩
theorem stepRet_ok (hP : Fine P) (hι : Scalars ι) {base : List Frame} {A : AM} {As : List AM} {cs : List Frame} {fr : Frame} (hh : HR B w0 E ι A.H w) (hf : FRel P E ι w A.top fr) (hret : A.top.ret = true) (hfs : FRs P E ι w A.below cs) (hs : stepRet P A = some As) : Goes P B w0 ι base As (lone fr (cs ++ base) w) := by
  obtain ⟨b, a, ct, V, g⟩ := hf
  obtain ⟨m, hm, hfr⟩ := g.frame.2 hret
  subst hfr
  obtain ⟨hV, hits⟩ := g.ret hret
  have hdef := g.defs
  unfold stepRet at hs
  split at hs
  · rename_i d ds hd
    rw [hd] at hdef
    split at hs
    · cases hs
    · rename_i hok
      have hok : apartOk A.H (stackPend A.below) [d] = true := by simpa using hok
      split at hs
      · rename_i hg
        simp only [Option.some.injEq] at hs; subst hs
        cases hda : a.defers with
        | nil => rw [hda] at hdef; exact hdef.elim
        | cons c cs' =>
          rw [hda] at hdef
          obtain ⟨⟨e, he, rfl⟩, hrest⟩ := hdef
          obtain ⟨e', he', hr⟩ := hh.obj d _ hg
          rw [he] at he'; injection he' with he'; subst he'
          generalize hob : w.heap[e.1]? = ob at hr
          cases hr with
          | there =>
            obtain ⟨h1, h2⟩ := loopPut hh hg rfl rfl he (.deferred false) (.deferred none) .gone hok
            have hrun : (Instr.takeDeferred e.1).run P w = .ok [] { w with heap := w.heap.setIfInBounds e.1 (.deferred none) } := by
              simp [Instr.takeDeferred, run_getObj hob, run_setObj hob]
            refine Goes.one (step_taken hm.notrun hda hrun) (MR.mk (A := ⟨_, _, _⟩) h1 ?_ (hfs.later (Ext.refl E) h2))
            exact ⟨b, ⟨a.tmps, cs'⟩, ct, V, ⟨fun hx => (by rw [show A.top.ret = true from hret] at hx; cases hx), fun _ => ⟨m, hm, rfl⟩⟩, g.fn, g.kind, g.rnd, hrest, g.tm, by rw [hV]; exact todo_plain hits, fun _ => ⟨hV, hits⟩⟩
      · cases hs
  · rename_i f args ds hd
    rw [hd] at hdef
    split at hs
    · rename_i hb
      obtain ⟨fr', hfr', rfl⟩ := Option.map_eq_some_iff.1 hs
      cases hda : a.defers with
      | nil => rw [hda] at hdef; exact hdef.elim
      | cons c cs' =>
        rw [hda] at hdef
        obtain ⟨⟨x, cap, hx, rfl⟩, hrest⟩ := hdef
        unfold hasBody at hb
        split at hb
        · rename_i fn hfn
          have hname := hP.names f fn hfn
          have hbody : fn.body.isNone = false := by cases hq : fn.body <;> simp_all
          have hinv : (invoke (.fn (.func f) cap) x).run P w = .ok (.enter f (x ++ cap)) w := by
            simp only [invoke, callFunc, Sem.run_bind, run_program, Result.andThen_ok, hfn, hname, Bool.false_eq_true, if_false, hbody, Sem.run_pure]
          have harr : (x.toList ++ cap.toList).toArray = x ++ cap := by simp
          have hnew := enterFrD_ok (P := P) (w := w) hx hfr'
          rw [harr] at hnew
          refine Goes.one (step_deferred hm.notrun hda hinv) (MR.mk (A := ⟨_, _, _⟩) (cs := _ :: cs) hh hnew (.cons ?_ hfs))
          exact ⟨b, ⟨a.tmps, cs'⟩, ct, V, ⟨fun hx => (by rw [show A.top.ret = true from hret] at hx; cases hx), fun _ => ⟨m, hm, rfl⟩⟩, g.fn, g.kind, g.rnd, hrest, g.tm, todo_ret g.todo rfl, fun _ => ⟨hV, hits⟩⟩
        · cases hb
    · cases hs
  · rename_i hd
    rw [hd] at hdef
    have hda : a.defers = [] := by
      cases hda : a.defers with
      | nil => rfl
      | cons _ _ => rw [hda] at hdef; exact hdef.elim
    split at hs
    · cases hs
    · rename_i c cs' hbel
      rw [hbel] at hfs
      cases hfs with
      | @cons _ cf _ cfs hcf hcfs =>
        split at hs
        · rename_i hpan
          rw [hpan] at hm
          have hm : m = .returning := hm
          subst hm
          simp only [Option.bind_eq_some_iff] at hs
          obtain ⟨v, hv, hs⟩ := hs
          obtain ⟨fn, val, hfn, hcv, hrun⟩ := resultOf_ok hh (C := V) g.tm hv
          have hfn' : P.funcs[b.fn]? = some fn := by rw [g.fn]; exact hfn
          have hrun' : (results fn a.tmps).run P w = .ok val w := by rw [hV]; exact hrun
          split at hs
          · rename_i hdfr
            have hk : b.kind = .deferred := by rw [g.kind, hdfr]; rfl
            split at hs
            · rename_i hcr
              simp only [Option.some.injEq] at hs; subst hs
              obtain ⟨b2, a2, ct2, V2, g2⟩ := hcf
              obtain ⟨m2, hm2, hfr2⟩ := g2.frame.2 hcr
              cases hp : c.pan with
              | none =>
                rw [hp] at hm2
                have hm2 : m2 = .returning := hm2
                exact Goes.one (step_back rfl hda hk hfn' hrun' (.inl (by rw [hfr2]; exact hm2))) (MR.mk (A := ⟨_, _, _⟩) hh ⟨b2, a2, ct2, V2, g2⟩ hcfs)
              | some pr =>
                obtain ⟨x, r⟩ := pr
                have hm3 := hm2
                rw [hp] at hm3
                obtain ⟨cval, hcval, rfl⟩ := hm3
                cases r with
                | false => exact Goes.one (step_back rfl hda hk hfn' hrun' (.inr ⟨_, by rw [hfr2]⟩)) (MR.mk (A := ⟨_, _, _⟩) hh ⟨b2, a2, ct2, V2, g2⟩ hcfs)
                | true =>
                  refine Goes.one (step_back_recovered rfl hda hk hfn' hrun' (x := cval) (by rw [hfr2])) (MR.mk (A := ⟨_, _, _⟩) hh ?_ hcfs)
                  exact ⟨b2, a2, ct2, V2, ⟨fun hx => (by rw [show c.ret = true from hcr] at hx; cases hx), fun _ => ⟨_, rfl, by rw [hfr2]⟩⟩, g2.fn, g2.kind, g2.rnd, g2.defs, g2.tm, g2.todo, g2.ret⟩
            · cases hs
          · rename_i hdfr
            have hk : b.kind = .normal := by
              rw [g.kind]
              cases hx : A.top.dfr with
              | true => exact absurd hx hdfr
              | false => rfl
            split at hs
            · cases hs
            · rename_i hcr
              have hcr : c.ret = false := by simpa using hcr
              obtain ⟨c', hc', rfl⟩ := Option.map_eq_some_iff.1 hs
              obtain ⟨h1, h2⟩ := finish_ok hcf hcr hcv hc'
              exact Goes.one (M' := lone (cf.finish val) (cfs ++ base) w) (step_leave_returned ⟨rfl, hda, hk, fn, hfn', hrun'⟩) (MR.mk hh h1 hcfs)
        · rename_i v r hpan
          rw [hpan] at hm
          obtain ⟨cval, hcval, rfl⟩ := hm
          split at hs
          · cases hs
          · rename_i hdc
            simp only [Bool.or_eq_true, not_or, Bool.not_eq_true] at hdc
            split at hs
            · rename_i fn ops' i' r' k htop hctd
              simp only [Option.some.injEq] at hs; subst hs
              obtain ⟨b2, a2, ct2, V2, g2⟩ := hcf
              have hcf2 := g2.frame.1 hdc.2
              have gt := g2.todo
              rw [hctd] at gt
              obtain ⟨hV2, hits2⟩ := gt
              refine Goes.one (step_up (fn := fn) rfl hda (by show P.funcs[b.fn]? = _; rw [g.fn]; exact htop)) (MR.mk (A := ⟨_, _, _⟩) (fr := cf.raise [{ v := cval, recovered := r }]) hh ?_ hcfs)
              refine ⟨b2, a2, ct2, V2, ⟨fun hx => (by cases hx), fun _ => ⟨_, ⟨_, hcval, rfl⟩, ?_⟩⟩, g2.fn, g2.kind, g2.rnd, g2.defs, g2.tm, g2.todo, fun _ => ⟨hV2, by show ItsR E c.todo _; rw [hctd]; exact hits2⟩⟩
              rw [hcf2]
              simp [Frame.raise, Frame.atR]
            · cases hs
end
end Go.Sx
/- One step of the symbolic machine: code, regions, loops over functions. -/
set_option linter.unusedSimpArgs false
set_option linter.unusedVariables false
namespace Go.Sx
open Go Go.RowKit
section
variable {P : Program} {E E' : Env} {ι : Val} {w w2 : World} {B : Base} {w0 : World} {H : AH}
/-- A step that turns only what is to be done next. -/
theorem todo_step {base : List Frame} {A : AM} {cs : List Frame} {b : Frame} {a : Act} {ct ck : List Item} {V : Array Value} {k : List AIt} (hh : HR B w0 E ι A.H w) (g : FR P E ι w A.top (b.atR a ct) b a ct V) (hret : A.top.ret = false) (hV : a.tmps = V) (hfs : FRs P E ι w A.below cs)
    (hk : ItsR E k ck) (hs : step P (lone (b.atR a ct) (cs ++ base) w) = .next (lone (b.atR a ck) (cs ++ base) w)) : Goes P B w0 ι base [setTodo A k] (lone (b.atR a ct) (cs ++ base) w) :=
  Goes.one hs (MR.mk (A := setTodo A k) hh (FRel.todo hret g.fn g.kind g.rnd g.defs g.tm hV hk) hfs)
theorem enterA_ok (hh : HR B w0 E ι H w) {A : AM} (hAH : A.H = H) {V : Array Value} (ht : TMR E ι A.top.tm V) {fn : FuncId} (hfn : A.top.fn = fn) {ro : Option Nat} (hr : RndR E A.top.rnd ro) {defs : List Deferred} (hd : DefR E ι A.top.defers defs) {ps : Array Tmp} {as bd : Code} {l : Nat} {H' : AH} {dfs : List ADef} (h : enterA A ps as bd = some (l, H', dfs)) :
    ∃ lc mark w', (Instr.enterLoop fn V ps as bd ro).run P w = .ok (lc, mark) w' ∧ ∃ E', Ext E E' ∧ HR B w0 E' ι H' w' ∧ (∃ e, E'[l]? = some e ∧ e.1 = lc) ∧ DefR E' ι dfs (mark ++ defs) ∧ ∀ ns, Sheltered E ns w w' := by
  subst hAH
  unfold enterA at h
  cases hrn : A.top.rnd with
  | some l0 =>
    rw [hrn] at h hr
    simp only at h
    split at h
    · rename_i st j0 fn0 tm0 ps0 as0 bd0 d hg
      simp only [Option.some.injEq, Prod.mk.injEq] at h
      obtain ⟨rfl, rfl, rfl⟩ := h
      cases ro with
      | none => exact hr.elim
      | some b0 =>
        obtain ⟨e0, he0, rfl⟩ := hr
        obtain ⟨ed, C0, hC0, hed, hb⟩ := hh.loop' hg he0
        have hor : OR (E ++ [(w.heap.size, 0, 0)]) ι (.loop .ready none A.top.fn A.top.tm ps as bd d) (w.heap.size, 0, 0) (some (.loop { state := .ready, pending := none, fn := A.top.fn, tmps := V, params := ps, assign := as, body := bd, defers := ed.1 })) :=
          .loop (TMR_ext (Ext.app _ _) ht) (Ext.app _ _ _ _ hed)
        refine ⟨w.heap.size, [], _, ?_, _, Ext.app _ _, hh.new _ _ 0 hor, ⟨_, by rw [hh.nx]; exact get_app_self _, rfl⟩, hd.ext (Ext.app _ _), fun ns p _ e he => ?_⟩
        · simp only [Instr.enterLoop, Sem.run_bind, getLoop_run hb, Result.andThen_ok, Sem.run_pure, run_newObj, hfn]
        · show (w.heap.push _)[e.1]? = _
          rw [Array.getElem?_push, if_neg (by have := hh.inb p e he; omega)]
    · cases h
  | none =>
    rw [hrn] at h hr
    simp only [Option.some.injEq, Prod.mk.injEq] at h
    obtain ⟨rfl, rfl, rfl⟩ := h
    cases ro with
    | some _ => exact hr.elim
    | none =>
      have h1 := hh.new (.deferred (some [])) (.deferred true) 0 .there
      generalize hE1 : E ++ [(w.heap.size, 0, 0)] = E1 at h1
      generalize hw1 : ({ w with heap := w.heap.push (.deferred (some [])) } : World) = w1 at h1
      have hx1 : Ext E E1 := by rw [← hE1]; exact Ext.app _ _
      have hd1 : E1[A.H.nx]? = some (w.heap.size, 0, 0) := by rw [← hE1, hh.nx]; exact get_app_self _
      have hor : OR (E1 ++ [(w1.heap.size, 0, 0)]) ι (.loop .ready none A.top.fn A.top.tm ps as bd A.H.nx) (w1.heap.size, 0, 0) (some (.loop { state := .ready, pending := none, fn := A.top.fn, tmps := V, params := ps, assign := as, body := bd, defers := w.heap.size })) :=
        .loop (ed := (w.heap.size, 0, 0)) (TMR_ext (hx1.trans (Ext.app _ _)) ht) (Ext.app _ _ _ _ hd1)
      have h2 := h1.new _ _ 0 hor
      refine ⟨w1.heap.size, [{ target := .collected w.heap.size, args := #[] }], _, ?_, _, hx1.trans (Ext.app _ _), h2, ⟨(w1.heap.size, 0, 0), ?_, rfl⟩, ⟨⟨_, Ext.app _ _ _ _ hd1, rfl⟩, hd.ext (hx1.trans (Ext.app _ _))⟩, fun ns p _ e he => ?_⟩
      · rw [← hw1]
        simp only [Instr.enterLoop, Sem.run_bind, Sem.run_pure, Result.andThen_ok, run_newObj, hfn]
      · have : A.H.nx + 1 = E1.length := by rw [← h1.nx]; rfl
        rw [this]; exact get_app_self _
      · show (w1.heap.push _)[e.1]? = _
        have hin := hh.inb p e he
        rw [Array.getElem?_push, if_neg (by rw [← hw1]; simp; omega), ← hw1]
        show (w.heap.push _)[e.1]? = _
        rw [Array.getElem?_push, if_neg (by omega)]
theorem stepRange_ok (hP : Fine P) {base : List Frame} {A : AM} {As : List AM} {cs : List Frame} {b : Frame} {a : Act} {k : List AIt} {ck : List Item} {V : Array Value} {g0 : Operand} {ps : Array Tmp} {as bd : Code} (hh : HR B w0 E ι A.H w) (g : FR P E ι w A.top (b.atR a (.code (.rangeFunc g0 ps as bd) :: ck)) b a (.code (.rangeFunc g0 ps as bd) :: ck) V) (hret : A.top.ret = false) (hV : a.tmps = V) (hfs : FRs P E ι w A.below cs)
    (hk : ItsR E k ck) (hnp : framePend A.top = []) (hs : stepRange P A k g0 ps as bd = some As) : Goes P B w0 ι base As (lone (b.atR a (.code (.rangeFunc g0 ps as bd) :: ck)) (cs ++ base) w) := by
  unfold stepRange at hs
  split at hs
  · rename_i l H' dfs h first captured he hg
    split at hs
    · rename_i hb
      simp only [Option.map_eq_some_iff] at hs
      obtain ⟨fr, hfr, rfl⟩ := hs
      obtain ⟨lc, mark, w', hrun, E', hE, hh', hl, hdf, hsh⟩ := enterA_ok (P := P) hh rfl g.tm g.fn.symm g.rnd g.defs he
      have hev := opv_eval (E := E) (ι := ι) (a := ⟨V, []⟩) g.tm hg
      simp only [cv, Option.bind_eq_some_iff, Option.map_eq_some_iff] at hev
      obtain ⟨x, hx, y, hy, hev⟩ := hev
      obtain ⟨e, hel, rfl⟩ := hl
      have hargs : cvs E' ι (first ++ [.yld l] ++ captured) = some (x ++ [.func (.yield e.1) #[] #[]] ++ y) :=
        cvs_append (cvs_append (cvs_ext hE _ _ hx) (cvs_cons.2 ⟨_, [], by simp [cv, hel], cvs_nil, rfl⟩)) (cvs_ext hE _ _ hy)
      have hentr := enterFr_ok (w := w') hargs hfr
      unfold hasBody at hb
      split at hb
      · rename_i fn hfn
        have hname := hP.names h fn hfn
        have hbody : fn.body.isNone = false := by cases hq : fn.body <;> simp_all
        have hval : a.eval g0 = .func (.func h) x.toArray y.toArray := by rw [eval_tmps, hV]; exact hev.symm
        have hres : (resolve a.eval (rangeCall g0 e.1) 0).run P w' = .ok { target := .fn (.func h) y.toArray, args := x.toArray ++ #[.func (.yield e.1) #[] #[]] } w' := by
          simp only [resolve, rangeCall, hval, Deferred.ofValue]
          simp [Act.eval]
        have hinv : (invoke (.fn (.func h) y.toArray) (x.toArray ++ #[Value.func (.yield e.1) #[] #[]])).run P w' = .ok (.enter h (x ++ [Value.func (.yield e.1) #[] #[]] ++ y).toArray) w' := by
          simp only [invoke, callFunc, Sem.run_bind, run_program, Result.andThen_ok, hfn, hname, Bool.false_eq_true, if_false, hbody, Sem.run_pure]
          simp
        have hst := stepR_rangeFunc (P := P) (b := b) (a := a) (k := ck) (cs := cs ++ base) (w := w) (g := g0) (ps := ps) (assign := as) (body := bd) (by rw [hV]; exact hrun) hres hinv
        have hwait : FRel P E' ι w' { A.top with todo := .inRange l :: k, defers := dfs } (b.atR { a with defers := mark ++ a.defers } (.inRangeFunc e.1 :: ck)) :=
          ⟨b, { a with defers := mark ++ a.defers }, .inRangeFunc e.1 :: ck, V, by simp [hret], g.fn, g.kind, g.rnd.ext hE, hdf, TMR_ext hE g.tm, by rw [show (Act.mk a.tmps (mark ++ a.defers)).tmps = V from hV]; exact todo_plain (.cons (.inRange hel) (hk.ext hE)), fun hx => by rw [show A.top.ret = false from hret] at hx; cases hx⟩
        exact Goes.one hst (MR.mk (A := ⟨_, _, _⟩) (cs := _ :: cs) hh' hentr (.cons hwait (hfs.later hE (hsh _))))
      · cases hb
    · cases hs
  · cases hs
theorem stepCode_ok (hP : Fine P) (hι : Scalars ι) {base : List Frame} {A : AM} {As : List AM} {cs : List Frame} {b : Frame} {a : Act} {c : Code} {k : List AIt} {ck : List Item} {V : Array Value} (hh : HR B w0 E ι A.H w) (g : FR P E ι w A.top (b.atR a (.code c :: ck)) b a (.code c :: ck) V) (hret : A.top.ret = false) (hV : a.tmps = V) (hfs : FRs P E ι w A.below cs)
    (htodo : A.top.todo = .code c :: k) (hk : ItsR E k ck) (hs : stepCode P A k c = some As) : Goes P B w0 ι base As (lone (b.atR a (.code c :: ck)) (cs ++ base) w) := by
  have hits : ItsR E A.top.todo (.code c :: ck) := by rw [htodo]; exact .cons .code hk
  unfold stepCode at hs
  split at hs
  · exact leave_ok hι hh g hret hV hits hfs (.inr (.inl ⟨rfl, ck, rfl⟩)) hs
  · simp only [Option.some.injEq] at hs; subst hs; exact todo_step hh g hret hV hfs hk stepR_skip
  · simp only [Option.some.injEq] at hs; subst hs; exact todo_step hh g hret hV hfs hk stepR_label
  · simp only [Option.some.injEq] at hs; subst hs; exact todo_step hh g hret hV hfs (.cons .code (.cons .code hk)) stepR_seq
  · rename_i c0 x y
    split at hs
    · rename_i t ht
      simp only [Option.some.injEq] at hs; subst hs
      have hev := opv_eval (E := E) (ι := ι) (a := ⟨V, []⟩) g.tm ht
      simp only [cv, Option.some.injEq] at hev
      have hval : a.eval c0 = .bool t := by rw [eval_tmps, hV]; exact hev.symm
      exact todo_step hh g hret hV hfs (.cons .code hk) (stepR_cond hval)
    · rename_i s pos ht
      have hev := opv_eval (E := E) (ι := ι) (a := ⟨V, []⟩) g.tm ht
      simp only [cv, Option.some.injEq] at hev
      split at hs
      · rename_i v hv
        simp only [Option.some.injEq] at hs; subst hs
        have hval : a.eval c0 = .bool (v == pos) := by rw [eval_tmps, hV, ← hev, pcFind_ok hh.pc hv]
        exact todo_step hh g hret hV hfs (.cons .code hk) (stepR_cond hval)
      · exact fork_ok hh ⟨b, a, _, V, g⟩ hfs hs
    · cases hs
  · simp only [Option.some.injEq] at hs; subst hs; exact todo_step hh g hret hV hfs (.cons .code (.cons .inBlock hk)) stepR_block
  · simp only [Option.some.injEq] at hs; subst hs; exact todo_step hh g hret hV hfs (.cons .code (.cons .inLoop hk)) stepR_loop
  · rename_i id
    split at hs
    · rename_i k2 hx
      simp only [Option.some.injEq] at hs; subst hs
      obtain ⟨ck2, h1, h2⟩ := (exit_ok (id := id) hk).1 k2 hx
      exact todo_step hh g hret hV hfs h2 (stepR_exit h1)
    · rename_i hx
      exact leave_ok hι hh g hret hV hits hfs (.inr (.inr ⟨id, ck, rfl, rfl, (exit_ok (id := id) hk).2 hx⟩)) hs
  · rename_i id ops draw
    split at hs
    · rename_i hd
      subst hd
      split at hs
      · rename_i hsel
        simp only [Option.some.injEq] at hs; subst hs
        have hsel' : ∀ (j : Nat) (o : Oper) cs b, ops[j]? = some o → o.op ≠ .select cs b := fun j o cs b ho heq => by
          unfold selOk at hsel
          rw [List.all_eq_true] at hsel
          have := hsel o (by simpa using Array.mem_of_getElem? ho)
          simp [heq] at this
        refine Goes.one stepR_region_draw (MR.mk (A := setTodo A _) (hh.drew _) ?_ (hfs.later (Ext.refl E) (fun _ _ _ _ => rfl)))
        refine ⟨b, a, .inRegion ops (Region.schedule (P.follows .mixedOrders) ops (w.tape w.drawn (.order b.fn id))) :: ck, V, by simp [setTodo, hret], g.fn, g.kind, g.rnd, g.defs, g.tm, ?_, fun hx => by have hx' : A.top.ret = true := hx; rw [hret] at hx'; cases hx'⟩
        refine ⟨_, ck, fun _ => false, rfl, hk, ⟨hsel', fun h => h, fun i hi => (by cases hi), by rw [hP.mixed]; exact lin_schedule _, ?_⟩, trivial⟩
        rw [hV, mk_zero]
        exact .nil
      · cases hs
    · rename_i hd
      have hd : draw = false := by simpa using hd
      subst hd
      simp only [Option.some.injEq] at hs; subst hs
      refine todo_step hh g hret hV hfs (.cons ?_ hk) stepR_region
      have := ItR.reg (E := E) (ops := ops) (i := 0) (Nat.zero_le _)
      simpa [List.range_eq_range'] using this
  · refine stepRange_ok hP hh g hret hV hfs hk ?_ hs
    unfold framePend; rw [htodo]
  · cases hs
/-! ### A region in any order -/
theorem full_mask {n i : Nat} (h : i < n) : mk (2 ^ n - 1) i = true := by
  simp [mk, Nat.testBit_two_pow_sub_one, h]
theorem readyAll_sound {ops : Array Oper} {d : Nat} : ∀ (l : List Nat) (p i : Nat), (∀ j m, l[j]? = some m → ∃ o, ops[p + j]? = some o ∧ depMask o = m) → i ∈ readyAll d l p → Rdy ops (mk d) i
  | [], _, _, _, h => by simp [readyAll] at h
  | m :: r, p, i, hl, h => by
    unfold readyAll at h
    obtain ⟨o, ho, rfl⟩ := hl 0 m rfl
    have hrest : ∀ j m, r[j]? = some m → ∃ o, ops[p + 1 + j]? = some o ∧ depMask o = m := fun j m hj => by
      obtain ⟨o', h1, h2⟩ := hl (j + 1) m (by simpa using hj)
      exact ⟨o', by rw [← h1]; congr 1; omega, h2⟩
    cases hc : (!d.testBit p && Nat.beq (Nat.land (depMask o) d) (depMask o)) with
    | true =>
      rw [hc] at h
      simp only [cond_true] at h
      rcases List.mem_cons.1 h with rfl | h
      · exact (rdy_mask (by simpa using ho)).2 hc
      · exact readyAll_sound r (p + 1) i hrest h
    | false =>
      rw [hc] at h
      exact readyAll_sound r (p + 1) i hrest h
theorem anyFrame {A : AM} {b : Frame} {a2 : Act} {V : Array Value} {ops : Array Oper} {ok : Bool} {done pos : Nat} {pend : List (Nat × List Nat)} {k : List AIt} {ck : List Item} {l2 : List Nat} {L2 : Set'} (hret : A.top.ret = false) (hfn : b.fn = A.top.fn) (hk : b.kind = kindOf A.top.dfr) (hr : RndR E A.top.rnd b.roundOf) (hd : DefR E ι A.top.defers a2.defers) (ht : TMR E ι A.top.tm V)
    (hi : ItsR E k ck) (h : AnyR P E w ops ok done pend l2 a2.tmps V L2) : FRel P E ι w { A.top with todo := .any ops ok done pos pend none :: k } (b.atR a2 (.inRegion ops l2 :: ck)) :=
  ⟨b, a2, _, V, by simp [hret], hfn, hk, hr, hd, ht, ⟨l2, ck, L2, rfl, hi, h, trivial⟩, fun hx => by rw [show A.top.ret = false from hret] at hx; cases hx⟩
theorem anyEnd {base : List Frame} {A : AM} {cs : List Frame} {b : Frame} {a : Act} {V : Array Value} {ops : Array Oper} {ok : Bool} {done : Nat} {pend : List (Nat × List Nat)} {k : List AIt} {ck : List Item} {l : List Nat} {L : Set'} (hh : HR B w0 E ι A.H w) (hret : A.top.ret = false) (hfn : b.fn = A.top.fn) (hkd : b.kind = kindOf A.top.dfr) (hr : RndR E A.top.rnd b.roundOf) (hd : DefR E ι A.top.defers a.defers) (ht : TMR E ι A.top.tm V) (hfs : FRs P E ι w A.below cs)
    (hk : ItsR E k ck) (h : AnyR P E w ops ok done pend l a.tmps V L) (hdone : done = 2 ^ ops.size - 1) : Goes P B w0 ι base [setTodo A k] (lone (b.atR a (.inRegion ops l :: ck)) (cs ++ base) w) := by
  obtain ⟨l2, a2, L2, hst, hdf, h2, hor⟩ := catchUp (b := b) (k' := ck) (cs := cs ++ base) l a L h
  refine Goes.steps hst ?_
  rcases hor with ⟨rfl, hV⟩ | ⟨i, l', rfl, hi⟩
  · exact Goes.one stepR_region_end (MR.mk (A := setTodo A k) hh (FRel.todo hret hfn hkd hr (by rw [hdf]; exact hd) ht hV hk) hfs)
  · obtain ⟨_, o, ho, _⟩ := h2.lin.1
    rw [hdone, full_mask (Array.getElem?_eq_some_iff.1 ho).1] at hi
    cases hi
theorem anyNext_ok (hP : Fine P) (hι : Scalars ι) {base : List Frame} {A : AM} {As : List AM} {cs : List Frame} {b : Frame} {a : Act} {V : Array Value} {ops : Array Oper} {ok : Bool} {done pos : Nat} {pend : List (Nat × List Nat)} {k : List AIt} {ck : List Item} {l : List Nat} {L : Set'} (hh : HR B w0 E ι A.H w) (hret : A.top.ret = false) (hfn : b.fn = A.top.fn) (hkd : b.kind = kindOf A.top.dfr) (hr : RndR E A.top.rnd b.roundOf) (hd : DefR E ι A.top.defers a.defers) (ht : TMR E ι A.top.tm V) (hfs : FRs P E ι w A.below cs)
    (hrel : FRel P E ι w A.top (b.atR a (.inRegion ops l :: ck))) (hk : ItsR E k ck) (h : AnyR P E w ops ok done pend l a.tmps V L) (hs : anyNext P A k ops ok done pos pend = some As) : Goes P B w0 ι base As (lone (b.atR a (.inRegion ops l :: ck)) (cs ++ base) w) := by
  unfold anyNext at hs
  split at hs
  · cases hb : Nat.beq done (2 ^ ops.size - 1) with
    | false => rw [hb] at hs; cases hs
    | true =>
      rw [hb] at hs
      simp only [cond_true, Option.some.injEq] at hs; subst hs
      exact anyEnd hh hret hfn hkd hr hd ht hfs hk h (Nat.eq_of_beq_eq_true hb)
  · rename_i hne
    split at hs
    · exact fork_ok hh hrel hfs hs
    generalize hcand : readyAll done (depMasks ops) 0 = cand at hs hne
    obtain ⟨l2, a2, L2, hst, hdf, h2, hor⟩ := catchUp (b := b) (k' := ck) (cs := cs ++ base) l a L h
    refine Goes.steps hst ?_
    have spec : ∀ j m, (depMasks ops)[j]? = some m → ∃ o, ops[0 + j]? = some o ∧ depMask o = m := fun j m hj => by
      rw [masks_get] at hj
      obtain ⟨o, h1, h2⟩ := Option.map_eq_some_iff.1 hj
      exact ⟨o, by rw [Nat.zero_add]; exact h1, h2⟩
    rcases hor with ⟨rfl, hV⟩ | ⟨i, l', rfl, hi⟩
    · -- nothing is left: so nothing may come up
      exfalso
      cases cand with
      | nil => exact hne rfl
      | cons x xs =>
        have hx := readyAll_sound (d := done) (depMasks ops) 0 x spec (by rw [hcand]; simp)
        obtain ⟨hD, _⟩ := h2.ah.done h2.lin
        rw [hD] at hx
        exact h2.lin x hx
    · have hrd := h2.lin.1
      obtain ⟨hLi, o, ho, he⟩ := id hrd
      have hilt := (Array.getElem?_eq_some_iff.1 ho).1
      have hrD : Rdy ops (mk done) i := ⟨hi, o, ho, fun e hm hb => h2.ah.sub (he e hm hb)⟩
      have hmem : i ∈ cand := by
        rw [← hcand]
        exact readyAll_ok (depMasks ops) 0 i spec hrD (Nat.zero_le _) (by simp [depMasks]; exact hilt)
      obtain ⟨li, hli, hsub⟩ := catAll_mem _ As hs _ (List.mem_map.2 ⟨i, hmem, rfl⟩)
      rw [opAt_eq, ho] at hli
      simp only [Option.bind_some] at hli
      -- the frame that waits at operation i
      have hpend : AnyR P E w ops ok done (pend.filter fun p => !(ancOf ops i).testBit p.1) (i :: l') a2.tmps V L2 :=
        ⟨h2.sel, h2.ok_, h2.closed, h2.lin, h2.ah.weaken fun j bb hLj ⟨ns, hm, n, hn, e, he', hb⟩ => ⟨ns, List.mem_filter.2 ⟨hm, by
          have : (ancOf ops i).testBit j = false := by
            cases hx : (ancOf ops i).testBit j with
            | false => rfl
            | true => rw [ancOf_ok h2.closed hrd hx] at hLj; cases hLj
          simp [this]⟩, n, hn, e, he', hb⟩⟩
      have hev := (hpend.ah.step hpend.sel ho hrd).1 hi
      have g : FR P E ι w { A.top with todo := .any ops ok done pos (pend.filter fun p => !(ancOf ops i).testBit p.1) (some i) :: k } (b.atR a2 (.inRegion ops (i :: l') :: ck)) b a2 (.inRegion ops (i :: l') :: ck) V :=
        ⟨by simp [hret], hfn, hkd, hr, by rw [hdf]; exact hd, ht, ⟨i :: l', ck, L2, rfl, hk, hpend, ⟨l', rfl⟩, hi⟩, fun hx => by rw [show A.top.ret = false from hret] at hx; cases hx⟩
      obtain ⟨A', hA', M', hM⟩ := aOper_ok hP hι (base := base) hh g hret hfs ho (by rw [eval_tmps]; exact hev.1.1.symm) hev.1.2.symm hli
      exact ⟨A', hsub A' hA', M', hM⟩
theorem addPend_ok {i : Nat} {ns : List Nat} {pend : List (Nat × List Nat)} : ∀ n ∈ ns, ∃ ms, (i, ms) ∈ addPend i ns pend ∧ n ∈ ms := fun n hn => by
  cases ns with
  | nil => cases hn
  | cons a r => exact ⟨a :: r, by simp [addPend], hn⟩
theorem addPend_sub {i : Nat} {ns : List Nat} {pend : List (Nat × List Nat)} {x : Nat × List Nat} (h : x ∈ pend) : x ∈ addPend i ns pend := by
  cases ns with
  | nil => exact h
  | cons a r => simp [addPend, h]
theorem ahead_ok (hι : Scalars ι) {base : List Frame} {A : AM} {As : List AM} {cs : List Frame} {b : Frame} {a : Act} {V : Array Value} {ops : Array Oper} {done : Nat} {pend : List (Nat × List Nat)} {k : List AIt} {ck : List Item} {l : List Nat} {L : Set'} {i : Nat} (hh : HR B w0 E ι A.H w) (hret : A.top.ret = false) (hfn : b.fn = A.top.fn) (hkd : b.kind = kindOf A.top.dfr) (hr : RndR E A.top.rnd b.roundOf) (hd : DefR E ι A.top.defers a.defers) (ht : TMR E ι A.top.tm V) (hfs : FRs P E ι w A.below cs)
    (hk : ItsR E k ck) (h : AnyR P E w ops true done pend l a.tmps V L) (hi : Rdy ops (mk done) i) (hs : ahead P A k ops done pend i = some As) : Goes P B w0 ι base As (lone (b.atR a (.inRegion ops l :: ck)) (cs ++ base) w) := by
  unfold ahead at hs
  simp only [Option.bind_eq_some_iff] at hs
  obtain ⟨o, ho, hs⟩ := hs
  rw [opAt_eq] at ho
  have hfree := regOk_free (h.ok_ rfl) hi
  have hnotF : ∀ (x : Bool), (A.top.ret = true) → x = true := fun x hx => by rw [hret] at hx; cases hx
  split at hs
  · rename_i hw
    simp only [Option.some.injEq] at hs; subst hs
    have hwv := aWanted_ok hh.pc ht hw
    have hu : cv E ι (.tuple []) = some undef := by simp [cv, cvs, undef]
    have hrel : FRel P E ι w { A.top with tm := aPut A.top.tm o.dst (.tuple []), todo := .any ops true (done ||| 2 ^ i) (i + 1) pend none :: k } (b.atR a (.inRegion ops l :: ck)) := by
      refine ⟨b, a, .inRegion ops l :: ck, ((⟨V, []⟩ : Act).put o.dst undef).tmps, by simp [hret], hfn, hkd, hr, hd, aPut_ok (a := ⟨V, []⟩) ht hu _, ?_, fun hx => by rw [show A.top.ret = false from hret] at hx; cases hx⟩
      refine ⟨l, ck, L, rfl, hk, ⟨h.sel, h.ok_, h.closed, h.lin, ?_⟩, trivial⟩
      rw [mk_or, ← act_put]
      exact .take h.ah hi hfree ho (.inr ⟨hwv, rfl⟩)
    exact ⟨_, List.mem_singleton.2 rfl, _, Steps.refl _ _, MR.mk (A := ⟨_, _, _⟩) hh hrel hfs⟩
  · rename_i hw
    split at hs
    · rename_i v ns hE
      simp only [Option.some.injEq] at hs; subst hs
      have hwv := aWanted_ok hh.pc ht hw
      have hρ : Opv E ι A.top.tm (⟨V, []⟩ : Act).eval := fun x v hx => opv_eval (a := ⟨V, []⟩) ht hx
      obtain ⟨c, hc, hrun⟩ := aEarly_ok hι hh hρ (o := o) hE
      have hrel : FRel P E ι w { A.top with tm := aPut A.top.tm o.dst v, todo := .any ops true (done ||| 2 ^ i) (i + 1) (addPend i ns pend) none :: k } (b.atR a (.inRegion ops l :: ck)) := by
        refine ⟨b, a, .inRegion ops l :: ck, ((⟨V, []⟩ : Act).put o.dst c).tmps, by simp [hret], hfn, hkd, hr, hd, aPut_ok (a := ⟨V, []⟩) ht hc _, ?_, fun hx => by rw [show A.top.ret = false from hret] at hx; cases hx⟩
        refine ⟨l, ck, L, rfl, hk, ⟨h.sel, h.ok_, h.closed, h.lin, ?_⟩, trivial⟩
        rw [mk_or, ← act_put]
        refine .take (h.ah.more fun j bb ⟨ms, hm, n, hn, e, he', hb⟩ => ⟨ms, addPend_sub hm, n, hn, e, he', hb⟩) hi hfree ho (.inl ⟨hwv, fun w' hw' => hrun w' fun n hn e he => ?_⟩)
        obtain ⟨ms, hm, hnm⟩ := addPend_ok (i := i) (pend := pend) n hn
        exact hw' e.1 ⟨ms, hm, n, hnm, e, he, rfl⟩
      exact ⟨_, List.mem_singleton.2 rfl, _, Steps.refl _ _, MR.mk (A := ⟨_, _, _⟩) hh hrel hfs⟩
    · simp only [Option.some.injEq] at hs; subst hs
      exact ⟨_, List.mem_singleton.2 rfl, _, Steps.refl _ _, MR.mk (A := setTodo A _) hh (anyFrame hret hfn hkd hr hd ht hk h) hfs⟩
  · cases hs
theorem stepAny_ok (hP : Fine P) (hι : Scalars ι) {base : List Frame} {A : AM} {As : List AM} {cs : List Frame} {b : Frame} {a : Act} {V : Array Value} {ops : Array Oper} {ok : Bool} {done pos : Nat} {pend : List (Nat × List Nat)} {k : List AIt} {ck : List Item} {l : List Nat} {L : Set'} (hh : HR B w0 E ι A.H w) (hret : A.top.ret = false) (hfn : b.fn = A.top.fn) (hkd : b.kind = kindOf A.top.dfr) (hr : RndR E A.top.rnd b.roundOf) (hd : DefR E ι A.top.defers a.defers) (ht : TMR E ι A.top.tm V) (hfs : FRs P E ι w A.below cs)
    (hrel : FRel P E ι w A.top (b.atR a (.inRegion ops l :: ck))) (hk : ItsR E k ck) (h : AnyR P E w ops ok done pend l a.tmps V L) (hs : stepAny P A k ops ok done pos pend = some As) : Goes P B w0 ι base As (lone (b.atR a (.inRegion ops l :: ck)) (cs ++ base) w) := by
  unfold stepAny at hs
  cases hb : Nat.beq done (2 ^ ops.size - 1) with
  | true =>
    rw [hb] at hs
    simp only [cond_true, Option.some.injEq] at hs; subst hs
    exact anyEnd hh hret hfn hkd hr hd ht hfs hk h (Nat.eq_of_beq_eq_true hb)
  | false =>
    rw [hb] at hs
    simp only [cond_false] at hs
    cases ok with
    | false => exact anyNext_ok hP hι hh hret hfn hkd hr hd ht hfs hrel hk h hs
    | true =>
      simp only [cond_true] at hs
      split at hs
      · rename_i i hi
        split at hs
        · exact fork_ok hh hrel hfs hs
        exact ahead_ok hι hh hret hfn hkd hr hd ht hfs hk h (readyFrom_ok _ pos i (masks_spec ops pos) hi) hs
      · exact anyNext_ok hP hι hh hret hfn hkd hr hd ht hfs hrel hk h hs
end
end Go.Sx
/- THE SYMBOLIC RUN IS A RUN: what it returns on every way the program returns, in every world. -/
set_option linter.unusedSimpArgs false
set_option linter.unusedVariables false
namespace Go.Sx
open Go Go.RowKit
section
variable {P : Program} {E E' : Env} {ι : Val} {w w2 : World} {B : Base} {w0 : World} {H : AH}
theorem stepEnd_ok {base : List Frame} {A : AM} {As : List AM} {cs : List Frame} {b : Frame} {a : Act} {k : List AIt} {ck : List Item} {V : Array Value} {l : Nat} {e : Nat × Nat × Nat} (hh : HR B w0 E ι A.H w) (g : FR P E ι w A.top (b.atR a (.endRangeFunc e.1 :: ck)) b a (.endRangeFunc e.1 :: ck) V) (hret : A.top.ret = false) (hV : a.tmps = V) (hfs : FRs P E ι w A.below cs)
    (he : E[l]? = some e) (hk : ItsR E k ck) (hs : stepEnd A k l = some As) : Goes P B w0 ι base As (lone (b.atR a (.endRangeFunc e.1 :: ck)) (cs ++ base) w) := by
  unfold stepEnd at hs
  split at hs
  · cases hs
  · rename_i hok
    have hok : apartOk A.H (stackPend A.below) [l] = true := by simpa using hok
    split at hs
    · rename_i st jump fn tm ps as bd d hg
      have key : st ≠ .busy ∧ As = [⟨{ A.top with todo := jumpTodo jump k }, A.below, A.H.put l (.loop .exhausted jump fn tm ps as bd d)⟩] := by
        cases st with
        | busy => cases hs
        | ready => exact ⟨by simp, (Option.some.inj hs).symm⟩
        | done => exact ⟨by simp, (Option.some.inj hs).symm⟩
        | exhausted => exact ⟨by simp, (Option.some.inj hs).symm⟩
      obtain ⟨hst, rfl⟩ := key
      obtain ⟨ed, C, hC, hed, hb⟩ := hh.loop' hg he
      obtain ⟨h1, h2⟩ := loopPut hh hg rfl rfl he (.loop .exhausted jump fn tm ps as bd d) _ (.loop hC hed) hok
      have hrun : (Instr.endLoop e.1).run P w = .ok jump { w with heap := w.heap.setIfInBounds e.1 (.loop { state := .exhausted, pending := jump, fn := fn, tmps := C, params := ps, assign := as, body := bd, defers := ed.1 }) } := by
        have hbusy : (st == LoopState.busy) = false := by cases st <;> first | rfl | exact absurd rfl hst
        simp only [Instr.endLoop, Sem.run_bind, getLoop_run hb, Result.andThen_ok, hbusy, Bool.false_eq_true, if_false, Sem.run_pure, run_setObj hb (by simp)]
      refine Goes.one (stepR_endRangeFunc hrun) (MR.mk (A := ⟨_, _, _⟩) h1 ?_ (hfs.later (Ext.refl E) h2))
      refine FRel.todo hret g.fn g.kind g.rnd g.defs g.tm hV ?_
      cases jump with
      | none => exact hk
      | some c => exact .cons .code hk
    · cases hs
theorem stepBegin_ok {base : List Frame} {A : AM} {As : List AM} {cs : List Frame} {b : Frame} {a : Act} {k : List AIt} {ck : List Item} {V : Array Value} (hh : HR B w0 E ι A.H w) (g : FR P E ι w A.top (b.atR a (.beginRound :: ck)) b a (.beginRound :: ck) V) (hret : A.top.ret = false) (hV : a.tmps = V) (hfs : FRs P E ι w A.below cs)
    (hk : ItsR E k ck) (hs : stepBegin A k = some As) : Goes P B w0 ι base As (lone (b.atR a (.beginRound :: ck)) (cs ++ base) w) := by
  unfold stepBegin at hs
  cases hrnd : A.top.rnd with
  | none => rw [hrnd] at hs; cases hs
  | some l =>
    rw [hrnd] at hs
    have hb : ∃ bl, b.roundOf = some bl ∧ ∃ e, E[l]? = some e ∧ e.1 = bl := by
      have := g.rnd
      rw [hrnd] at this
      cases hx : b.roundOf with
      | none => rw [hx] at this; exact this.elim
      | some bl => rw [hx] at this; exact ⟨bl, rfl, this⟩
    obtain ⟨bl, hb, e, he, rfl⟩ := hb
    simp only at hs
    split at hs
    · cases hs
    · rename_i hok
      have hok : apartOk A.H (stackPend A.below) [l] = true := by simpa using hok
      split at hs
      · rename_i jump fn tm ps as bd d hg
        simp only [Option.some.injEq] at hs; subst hs
        obtain ⟨ed, C, hC, hed, hbl⟩ := hh.loop' hg he
        obtain ⟨h1, h2⟩ := loopPut hh hg rfl rfl he (.loop .busy jump fn tm ps as bd d) _ (.loop hC hed) hok
        have hrun : (Instr.beginRound e.1).run P w = .ok () { w with heap := w.heap.setIfInBounds e.1 (.loop { state := .busy, pending := jump, fn := fn, tmps := C, params := ps, assign := as, body := bd, defers := ed.1 }) } := by
          simp only [Instr.beginRound, Sem.run_bind, getLoop_run hbl, Result.andThen_ok, run_setObj hbl (by simp), Sem.run_pure]
        exact Goes.one (stepR_beginRound hb hrun) (MR.mk (A := ⟨_, _, _⟩) h1 (FRel.todo hret g.fn g.kind g.rnd g.defs g.tm hV hk) (hfs.later (Ext.refl E) h2))
      · cases hs
/-- ONE STEP. -/
theorem astep_ok (hP : Fine P) (hι : Scalars ι) {base : List Frame} {A : AM} {As : List AM} {M : Machine} (h : MR P B w0 ι base A M) (hs : astep P A = some As) : Goes P B w0 ι base As M := by
  obtain ⟨E, w, fr, cs, rfl, hh, hf, hfs⟩ := h
  unfold astep at hs
  cases hret : A.top.ret with
  | true =>
    rw [hret] at hs
    exact stepRet_ok hP hι hh hf hret hfs hs
  | false =>
    rw [hret] at hs
    simp only [cond_false] at hs
    obtain ⟨b, a, ct, V, g⟩ := hf
    have hfr := running g hret
    subst hfr
    have gt := g.todo
    split at hs
    · rename_i htd
      rw [htd] at gt
      obtain ⟨hV, hits⟩ := plain_todo gt (by simp)
      cases hits
      exact leave_ok hι hh g hret hV (by rw [htd]; exact .nil) hfs (.inl ⟨rfl, rfl⟩) hs
    · rename_i c k htd
      rw [htd] at gt
      obtain ⟨hV, hits⟩ := plain_todo gt (by simp)
      cases hits with
      | cons hi hk =>
        cases hi
        exact stepCode_ok hP hι hh g hret hV hfs htd hk hs
    · rename_i id k htd
      rw [htd] at gt
      obtain ⟨hV, hits⟩ := plain_todo gt (by simp)
      cases hits with
      | cons hi hk =>
        cases hi
        simp only [Option.some.injEq] at hs; subst hs
        exact todo_step hh g hret hV hfs hk stepR_inBlock
    · rename_i c k htd
      rw [htd] at gt
      obtain ⟨hV, hits⟩ := plain_todo gt (by simp)
      cases hits with
      | cons hi hk =>
        cases hi
        simp only [Option.some.injEq] at hs; subst hs
        exact todo_step hh g hret hV hfs (.cons .code (.cons .inLoop hk)) stepR_inLoop
    · rename_i ops i k htd
      rw [htd] at gt
      obtain ⟨hV, hits⟩ := plain_todo gt (by simp)
      cases hits with
      | cons hi hk =>
        generalize hre : ([] : List Oper) = rr at hi
        cases hi with
        | reg hle =>
          have hsz : ops.size - i = 0 := by
            have := congrArg List.length hre
            simp at this
            omega
          simp only [Option.some.injEq] at hs; subst hs
          refine todo_step hh g hret hV hfs hk ?_
          rw [hsz]
          exact stepR_region_end
    · rename_i ops i o r k htd
      rw [htd] at gt
      obtain ⟨hV, hits⟩ := plain_todo gt (by simp)
      cases hits with
      | @cons _ _ _ kk hi hk =>
        generalize hre : (o :: r) = rr at hi
        cases hi with
        | reg hle =>
          have hlt : i < ops.size := by
            rcases Nat.lt_or_ge i ops.size with h | h
            · exact h
            · rw [List.drop_eq_nil_of_le (by simpa using h)] at hre; cases hre
          have hdrop : ops.toList.drop i = ops.toList[i]'(by simpa using hlt) :: ops.toList.drop (i + 1) := List.drop_eq_getElem_cons (by simpa using hlt)
          rw [hdrop] at hre
          injection hre with ho hr
          have hoi : ops[i]? = some o := by rw [Array.getElem?_eq_getElem hlt, ho]; simp
          have hrange : List.range' i (ops.size - i) = i :: List.range' (i + 1) (ops.size - (i + 1)) := by
            rw [show ops.size - i = (ops.size - (i + 1)) + 1 by omega, List.range'_succ]
          split at hs
          · exact fork_ok hh ⟨b, a, _, V, g⟩ hfs hs
          rw [hrange] at g ⊢
          exact aOper_ok hP hι hh g hret hfs hoi (by rw [eval_tmps, hV]) (by rw [hV]) hs
    · rename_i ops ok done pos pend k htd
      rw [htd] at gt
      obtain ⟨l, k', L, rfl, hk, ha, _⟩ := gt
      exact stepAny_ok hP hι hh hret g.fn g.kind g.rnd g.defs g.tm hfs ⟨b, a, _, V, g⟩ hk ha hs
    · cases hs
    · cases hs
    · rename_i l k htd
      rw [htd] at gt
      obtain ⟨hV, hits⟩ := plain_todo gt (by simp)
      cases hits with
      | cons hi hk =>
        cases hi with
        | endRange he => exact stepEnd_ok hh g hret hV hfs he hk hs
    · rename_i k htd
      rw [htd] at gt
      obtain ⟨hV, hits⟩ := plain_todo gt (by simp)
      cases hits with
      | cons hi hk =>
        cases hi
        exact stepBegin_ok hh g hret hV hfs hk hs
/-- A RUN. -/
theorem arun_ok (hP : Fine P) (hι : Scalars ι) {base : List Frame} {test : AM → Bool} : ∀ (fuel : Nat) (work : List AM), arun P fuel work test = true → ∀ A ∈ work, ∀ M, MR P B w0 ι base A M → ∃ A' M', Steps P M M' ∧ MR P B w0 ι base A' M' ∧ final A' = true ∧ test A' = true
  | _, [], _, A, hA, _, _ => by cases hA
  | 0, _ :: _, h, _, _, _, _ => by simp [arun] at h
  | f + 1, X :: r, h, A, hA, M, hM => by
    unfold arun at h
    cases hf : final X with
    | true =>
      rw [hf] at h
      simp only [cond_true, Bool.and_eq_true] at h
      rcases List.mem_cons.1 hA with rfl | hA
      · exact ⟨A, M, Steps.refl _ _, hM, hf, h.1⟩
      · exact arun_ok hP hι f r h.2 A hA M hM
    | false =>
      rw [hf] at h
      simp only [cond_false] at h
      cases hs : astep P X with
      | none => rw [hs] at h; cases h
      | some l =>
        rw [hs] at h
        simp only at h
        rcases List.mem_cons.1 hA with rfl | hA
        · obtain ⟨A', hA', M', h1, h2⟩ := astep_ok hP hι hM hs
          obtain ⟨A2, M2, q1, q2⟩ := arun_ok hP hι f (l ++ r) h A' (List.mem_append_left _ hA') M' h2
          exact ⟨A2, M2, h1.trans q1, q2⟩
        · exact arun_ok hP hι f (l ++ r) h A (List.mem_append_right _ hA) M hM
/-- Nothing that was there is written. -/
def noBase : Base := ⟨fun _ => False, []⟩
/-- THE FUNCTION RETURNS TRUE, IN EVERY WORLD; nothing that was there turns. -/
theorem calls_true (hP : Fine P) {ι : Val} (hι : Scalars ι) {fuel : Nat} {f : FuncId} {args : List AV} {cargs : List Value} (hc : cvs [] ι args = some cargs) (h : runs P fuel f args = true) (w : World) :
    Calls P f cargs.toArray w fun e w' => e = .returned (.bool true) ∧ Below w.heap.size w w' := by
  intro cs
  unfold runs at h
  rw [Bool.and_eq_true, Option.isSome_iff_exists] at h
  obtain ⟨⟨fr, hfr⟩, h⟩ := h
  unfold start at h
  rw [hfr] at h
  have h0 : HR noBase w [] ι ⟨.leaf, 0, []⟩ w := ⟨Stay.refl _ _, Nat.le_refl _, rfl, fun n e he => by simp at he, fun n o ho => by simp [AH.get, Tr.get_leaf] at ho, fun n m o p e d ho => (by simp [AH.get, Tr.get_leaf] at ho), by simp, fun n o e ho => (by simp [AH.get, Tr.get_leaf] at ho), fun _ _ h => h⟩
  have hM : MR P noBase w ι cs ⟨fr, [], ⟨.leaf, 0, []⟩⟩ (lone (Frame.enter P f cargs.toArray .normal) ([] ++ cs) w) := MR.mk (A := ⟨_, _, _⟩) (cs := []) h0 (enterFr_ok hc hfr) .nil
  obtain ⟨A', M', hst, hMR, hfin, htest⟩ := arun_ok hP hι fuel _ h _ (by simp) _ hM
  obtain ⟨E, w', fr', cs', rfl, hh, hf, hfs⟩ := hMR
  unfold final at hfin
  simp only [Bool.and_eq_true, List.isEmpty_iff] at hfin
  obtain ⟨⟨⟨⟨hret, hdef⟩, hbel⟩, hdfr⟩, hpan⟩ := hfin
  have hdfr : A'.top.dfr = false := by simpa using hdfr
  have hpan : A'.top.pan = none := by simpa using hpan
  rw [hbel] at hfs
  cases hfs
  unfold isTrue at htest
  rw [Bool.and_eq_true] at htest
  obtain ⟨hfn, hres⟩ := htest
  have hfn := Nat.eq_of_beq_eq_true hfn
  obtain ⟨b, a, ct, V, g⟩ := hf
  obtain ⟨m, hm, hfr'⟩ := g.frame.2 hret
  rw [hpan] at hm
  have hm : m = .returning := hm
  subst hm
  have hk : b.kind = .normal := by rw [g.kind, hdfr]; rfl
  obtain ⟨hV, _⟩ := g.ret hret
  have hda : a.defers = [] := by
    have := g.defs
    rw [hdef] at this
    cases hx : a.defers with
    | nil => rfl
    | cons _ _ => rw [hx] at this; exact this.elim
  cases hro : resultOf P A'.H A'.top with
  | none => rw [hro] at hres; cases hres
  | some v =>
    rw [hro] at hres
    have hv : v = .bool true := by
      split at hres
      · rename_i heq; injection heq
      · cases hres
    subst hv
    obtain ⟨fn, val, hfnn, hcv, hrun⟩ := resultOf_ok hh (C := V) g.tm hro
    simp only [cv, Option.some.injEq] at hcv
    subst hcv
    refine ⟨.returned (.bool true), w', fr', ⟨rfl, hh.below.os, hh.below.tape, hh.below.output, hh.below.size, fun k hk => hh.below.block k hk (fun h => h)⟩, hst, ?_, ?_⟩
    · rw [hfr']
      show b.fn = f
      rw [g.fn, hfn]
    · rw [hfr']
      refine ⟨rfl, hda, hk, fn, ?_, ?_⟩
      · show P.funcs[b.fn]? = _
        rw [g.fn]; exact hfnn
      · show (results fn a.tmps).run P w' = _
        rw [hV]; exact hrun
/-- Nothing unknown comes in. -/
def noArgs : Val := { v := fun _ => .bool false }
theorem noArgs_ok : Scalars noArgs := fun _ => rfl
/-- A closed function. -/
theorem closed_true (hP : Fine P) {fuel : Nat} {f : FuncId} (h : runs P fuel f [] = true) (w : World) : Calls P f #[] w fun e w' => e = .returned (.bool true) ∧ Below w.heap.size w w' :=
  calls_true hP noArgs_ok (args := []) (cargs := []) cvs_nil h w
end
end Go.Sx
/- The arguments of a call as unknown scalars: what the rows of the closed laws ask. -/
namespace Go.Sx
open Go Go.WideShapes Go.RowKit
section
variable {P : Program} {w : World} {r : Reach} {base : Nat}
theorem okWide_one {t : TypeId} {v : Value} (h : Cell.okWide P w r base t v) : v.oneCell' = true := by
  cases v with
  | agg cs => simp only [Cell.okWide, Cell.ok] at h; split at h <;> simp_all
  | tuple cs => simp only [Cell.okWide, Cell.ok] at h; split at h <;> simp_all
  | _ => rfl
theorem rowWide_one {t : TypeId} {cs : Array Value} (h : Row.okWide P w r base t cs) : ∀ v ∈ cs.toList, v.oneCell' = true := by
  obtain ⟨ts, _, _, h⟩ := h
  intro v hv
  obtain ⟨i, hi, e⟩ := List.mem_iff_getElem.1 hv
  obtain ⟨u, _, hu⟩ := h i v (by rw [Array.getElem?_eq_some_iff]; exact ⟨by simpa using hi, by simpa using e⟩)
  exact okWide_one hu
/-- An argument of a type, its cells numbered from n on. -/
def absArg (P : Program) (n : Nat) (t : TypeId) : AV × Nat :=
  match P.underlying t with
  | some (.struct _) | some (.array _ _) => (.agg ((List.range' n (P.cellsOf t)).map .opq), n + P.cellsOf t)
  | _ => (.opq n, n + 1)
def absArgs (P : Program) : Nat → List TypeId → List AV
  | _, [] => []
  | n, t :: ts => (absArg P n t).1 :: absArgs P (absArg P n t).2 ts
theorem absArg_ok {t : TypeId} {v : Value} (h : Value.okWide P w r base t v) {ι : Val} {n : Nat} (hι : ∀ i, i < v.cells.size → some (ι.v (n + i)) = v.cells[i]?) :
    cv [] ι (absArg P n t).1 = some v ∧ (absArg P n t).2 = n + v.cells.size ∧ ∀ c ∈ v.cells.toList, c.oneCell' = true := by
  have key : ∀ cs : Array Value, v = .agg cs → cs.size = P.cellsOf t → Row.okWide P w r base t cs →
      cv [] ι (.agg ((List.range' n (P.cellsOf t)).map .opq)) = some v ∧ n + P.cellsOf t = n + v.cells.size ∧ ∀ c ∈ v.cells.toList, c.oneCell' = true := by
    intro cs hv hs hr
    subst hv
    refine ⟨?_, by simp [Value.cells, hs], rowWide_one hr⟩
    have : ∀ (l : List Value) (m : Nat), (∀ i, i < l.length → some (ι.v (m + i)) = l[i]?) → cvs [] ι ((List.range' m l.length).map .opq) = some l := by
      intro l
      induction l with
      | nil => intro m _; exact cvs_nil
      | cons x l ih =>
        intro m hm
        rw [List.length_cons, List.range'_succ, List.map_cons]
        have h0 := hm 0 (by simp)
        simp only [Nat.add_zero, List.getElem?_cons_zero, Option.some.injEq] at h0
        refine cvs_cons.2 ⟨x, l, by rw [← h0]; rfl, ih (m + 1) fun i hi => ?_, rfl⟩
        have := hm (i + 1) (by simpa using hi)
        rw [List.getElem?_cons_succ] at this
        rw [← this, Nat.add_assoc, Nat.add_comm 1 i]
    have h1 := this cs.toList n (fun i hi => by simpa [Value.cells] using hι i (by simpa [Value.cells] using hi))
    rw [show cs.toList.length = P.cellsOf t by simpa using hs] at h1
    show (cvs [] ι _).map _ = _
    rw [h1]
    rfl
  have leaf : Cell.okWide P w r base t v → cv [] ι (.opq n) = some v ∧ n + 1 = n + v.cells.size ∧ ∀ c ∈ v.cells.toList, c.oneCell' = true := by
    intro h
    have h1 := okWide_one h
    rw [cells_of_one h1] at hι ⊢
    have h0 := hι 0 (by simp)
    simp at h0
    refine ⟨by rw [← h0]; rfl, by simp, by simpa using h1⟩
  unfold Value.okWide at h
  unfold absArg
  split at h
  · rename_i heq; obtain ⟨cs, h1, h2, h3⟩ := h; simp only [heq]; exact key cs h1 h2 h3
  · rename_i heq; obtain ⟨cs, h1, h2, h3⟩ := h; simp only [heq]; exact key cs h1 h2 h3
  · rename_i h1 h2
    split
    · rename_i heq; exact absurd heq (h1 _)
    · rename_i heq; exact absurd heq (h2 _ _)
    · exact leaf h
theorem absArgs_ok : ∀ (ts : List TypeId) (vs : List Value) (n : Nat) (ι : Val), vs.length = ts.length → (∀ (j : Nat) t v, ts[j]? = some t → vs[j]? = some v → Value.okWide P w r base t v) →
    (∀ i, i < (vs.flatMap (·.cells.toList)).length → some (ι.v (n + i)) = (vs.flatMap (·.cells.toList))[i]?) →
    cvs [] ι (absArgs P n ts) = some vs ∧ ∀ c ∈ vs.flatMap (·.cells.toList), c.oneCell' = true
  | [], [], _, _, _, _, _ => ⟨cvs_nil, by simp⟩
  | [], _ :: _, _, _, h, _, _ => by simp at h
  | _ :: _, [], _, _, h, _, _ => by simp at h
  | t :: ts, v :: vs, n, ι, hl, ht, hι => by
    rw [List.flatMap_cons] at hι ⊢
    obtain ⟨h1, h2, h3⟩ := absArg_ok (ht 0 t v rfl rfl) (ι := ι) (n := n) (fun i hi => by
      have := hι i (by simp; omega)
      rw [List.getElem?_append_left (by simpa using hi)] at this
      simpa using this)
    obtain ⟨h4, h5⟩ := absArgs_ok ts vs (n + v.cells.size) ι (by simpa using hl) (fun j t' v' a b => ht (j + 1) t' v' a b) (fun i hi => by
      have := hι (v.cells.size + i) (by rw [List.length_append]; simp only [Array.length_toList]; omega)
      rw [List.getElem?_append_right (by simp)] at this
      simp only [Array.length_toList, Nat.add_sub_cancel_left] at this
      rw [Nat.add_assoc]
      exact this)
    refine ⟨?_, ?_⟩
    · show cvs [] ι ((absArg P n t).1 :: absArgs P (absArg P n t).2 ts) = _
      rw [h2]
      exact cvs_cons.2 ⟨v, vs, h1, h4, rfl⟩
    · intro c hc
      rcases List.mem_append.1 hc with hc | hc
      · exact h3 c hc
      · exact h5 c hc
/-- A law whose run over unknown scalars ends true: true in every world, for every argument of the types. -/
theorem open_true (hP : Fine P) {fuel : Nat} {f : FuncId} {ts : List TypeId} (h : runs P fuel f (absArgs P 0 ts) = true) {args : Array Value} (hn : args.size = ts.length)
    (hok : ∀ (j : Nat) t v, ts[j]? = some t → args[j]? = some v → Value.okWide P w r base t v) (W : World) :
    Calls P f args W fun e w' => e = .returned (.bool true) ∧ Below W.heap.size W w' := by
  let l := args.toList.flatMap (·.cells.toList)
  let ι : Val := { v := fun i => l[i]?.getD (.bool false) }
  obtain ⟨h1, h2⟩ := absArgs_ok ts args.toList 0 ι (by simpa using hn) (fun j t v a b => hok j t v a (by simpa using b)) (fun i hi => by
    show some (l[0 + i]?.getD _) = l[i]?
    rw [Nat.zero_add, List.getElem?_eq_getElem hi]
    rfl)
  have hι : Scalars ι := by
    intro i
    show (l[i]?.getD (.bool false)).oneCell' = true
    cases hx : l[i]? with
    | none => rfl
    | some c => exact h2 c (List.mem_of_getElem? hx)
  have := calls_true hP hι h1 h W
  simpa using this
end
section
variable {H : Type} {enc : TypeId × Value → H} {P : Program}
/-- The arguments read as before. -/
theorem below_trodAll (hl : laidOutB P = true) {W W' : World} (bel : Below W.heap.size W W') : ∀ {ts : List TypeId} {vs : List Value} {ds : List (DataW H)} {ps : List MemPlace},
    ts.all (fun t => P.readableRec t && decide (t < P.types.size)) = true → DataW.TrodAll enc P W 0 (fun _ => true) true ts vs ds ps → DataW.TrodAll enc P W' 0 (fun b => decide (b < W.heap.size)) true ts vs ds ps
  | [], [], [], _, _, h => h
  | t :: ts, v :: vs, d :: ds, _, hr, ⟨p, q, h1, h2, e⟩ => by
    rw [List.all_cons, Bool.and_eq_true, Bool.and_eq_true, decide_eq_true_eq] at hr
    exact ⟨p, q, RowKit.Below.trod hl hr.1.1 hr.1.2 h1 bel (by obtain ⟨m, hm⟩ := h1; exact DataW.trod_lt m _ _ _ hm), below_trodAll hl bel hr.2 h2, e⟩
  | [], [], _ :: _, _, _, h => h.elim
  | [], _ :: _, _, _, _, h => by cases ‹List (DataW H)› <;> exact h.elim
  | _ :: _, [], _, _, _, h => by cases ‹List (DataW H)› <;> exact h.elim
  | _ :: _, _ :: _, [], _, _, h => h.elim
end
end Go.Sx
/- A run from a heap that was there: what a function comes to, for each of its ways. -/
set_option linter.unusedSimpArgs false
set_option linter.unusedVariables false
namespace Go.Sx
open Go Go.RowKit
section
variable {P : Program} {ι : Val}
/-- It has returned out of function f, and what it returned answers. -/
def testAt (P : Program) (f : FuncId) (test : AV → AM → Bool) (A : AM) : Bool := Nat.beq A.top.fn f && (match resultOf P A.H A.top with | some v => test v A | none => false)
def startAt (P : Program) (f : FuncId) (args : List AV) (H : AH) : List AM := match enterFr P f args with | some fr => [⟨fr, [], H⟩] | none => []
def runsAt (P : Program) (fuel : Nat) (f : FuncId) (args : List AV) (H : AH) (test : AV → AM → Bool) : Bool := (enterFr P f args).isSome && arun P fuel (startAt P f args H) (testAt P f test)
/-- THE CONTRACT OF A FUNCTION, out of its symbolic run: whichever way it goes, it returns; what it returns and the heap are as the run says. -/
theorem calls_gen (hP : Fine P) (hι : Scalars ι) {B : Base} {H0 : AH} {w : World} (hh0 : HR B w B.env ι H0 w) {fuel : Nat} {f : FuncId} {args : List AV} {cargs : List Value} (hc : cvs B.env ι args = some cargs)
    {test : AV → AM → Bool} (h : runsAt P fuel f args H0 test = true) :
    Calls P f cargs.toArray w fun e w' => ∃ A E v c, test v A = true ∧ resultOf P A.H A.top = some v ∧ cv E ι v = some c ∧ e = .returned c ∧ HR B w E ι A.H w' := by
  intro cs
  unfold runsAt at h
  rw [Bool.and_eq_true, Option.isSome_iff_exists] at h
  obtain ⟨⟨fr, hfr⟩, h⟩ := h
  unfold startAt at h
  rw [hfr] at h
  have hM : MR P B w ι cs ⟨fr, [], H0⟩ (lone (Frame.enter P f cargs.toArray .normal) ([] ++ cs) w) := MR.mk (A := ⟨_, _, _⟩) (cs := []) hh0 (enterFr_ok hc hfr) .nil
  obtain ⟨A', M', hst, hMR, hfin, htest⟩ := arun_ok hP hι fuel _ h _ (by simp) _ hM
  obtain ⟨E, w', fr', cs', rfl, hh, hf, hfs⟩ := hMR
  unfold final at hfin
  simp only [Bool.and_eq_true, List.isEmpty_iff] at hfin
  obtain ⟨⟨⟨⟨hret, hdef⟩, hbel⟩, hdfr⟩, hpan⟩ := hfin
  have hdfr : A'.top.dfr = false := by simpa using hdfr
  have hpan : A'.top.pan = none := by simpa using hpan
  rw [hbel] at hfs
  cases hfs
  unfold testAt at htest
  rw [Bool.and_eq_true] at htest
  obtain ⟨hfn, hres⟩ := htest
  have hfn := Nat.eq_of_beq_eq_true hfn
  obtain ⟨b, a, ct, V, g⟩ := hf
  obtain ⟨m, hm, hfr'⟩ := g.frame.2 hret
  rw [hpan] at hm
  have hm : m = .returning := hm
  subst hm
  have hk : b.kind = .normal := by rw [g.kind, hdfr]; rfl
  obtain ⟨hV, _⟩ := g.ret hret
  have hda : a.defers = [] := by
    have := g.defs
    rw [hdef] at this
    cases hx : a.defers with
    | nil => rfl
    | cons _ _ => rw [hx] at this; exact this.elim
  cases hro : resultOf P A'.H A'.top with
  | none => rw [hro] at hres; cases hres
  | some v =>
    rw [hro] at hres
    obtain ⟨fn, val, hfnn, hcv, hrun⟩ := resultOf_ok hh (C := V) g.tm hro
    refine ⟨.returned val, w', fr', ⟨A', E, v, val, hres, hro, hcv, rfl, hh⟩, hst, ?_, ?_⟩
    · rw [hfr']
      show b.fn = f
      rw [g.fn, hfn]
    · rw [hfr']
      refine ⟨rfl, hda, hk, fn, ?_, ?_⟩
      · show P.funcs[b.fn]? = _
        rw [g.fn]; exact hfnn
      · show (results fn a.tmps).run P w' = _
        rw [hV]; exact hrun
end
end Go.Sx
