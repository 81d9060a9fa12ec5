/- append and copy, whole; all operations that write, in one theorem. -/
import Derived.Test.YtlkjbijklgdocaaSxM
set_option linter.unusedSimpArgs false
namespace Go.Sx
open Go Go.RowKit
/-- What append does when it knows how many elements come. -/
def appTail (elem : TypeId) (size : Nat) (base : Option Addr) (sLen sCap : Nat) (s x : Value) (zeros : Bool) (n : Nat) : Sem Value :=
  let appended : Sem (Array Value) :=
    if !zeros then Builtin.firstCells size n x
    else if n * size = 0 then pure #[]
    else do pure (Builtin.zeroCells (← zeroValue elem).cells n)
  let need := sLen + n
  if need ≤ sCap then do
    let new ← appended
    if let some a := base then storeCells (a.add (sLen * size)) new.toList
    pure (.slice base need sCap)
  else do
    if (need : Int) > IntKind.i64.max ∧ (zeros ∨ (← typeInfo elem).bytes = 0) then runtimePanic (.error "growslice: len out of range")
    if Builtin.nextslicecap need sCap * (← typeInfo elem).bytes > 2 ^ 48 then (if zeros then runtimePanic (.error "growslice: len out of range") else do
      if !(← Builtin.mayShare size sLen n base x) then mark .noRoom
      unsupported (.resourceLimit "append: a slice or a string whose bytes no memory bears"))
    let newCap ← choose (.appendCap need sCap elem)
    askRoom (newCap * (← typeInfo elem).bytes)
    let old ← Builtin.firstCells size sLen s
    let new ← appended
    let rest := Builtin.zeroCells (← zeroValue elem).cells (newCap - need)
    pure (.slice (some (← newRow elem (old ++ new ++ rest))) need newCap)
def isInt : TypeDesc → Bool
  | .int _ => true
  | _ => false
section
variable {P : Program} {E : Env} {ι : Nat → Value} {tm : TM} {ρ : Operand → Value} {B : Nat} {w0 w : World} {H : AH} {o : Oper}
theorem run_appPre {ts : Array TypeId} {vs : Array Value} {ty t : TypeId} {s x : Value} {elem : TypeId} {base : Option Addr} {sLen sCap size n : Nat} {zeros : Bool} (ht : ts[0]? = some t) (h0 : vs[0]? = some s) (h1 : vs[1]? = some x) (hu : P.underlying t = some (.slice elem)) (hs : s = .slice base sLen sCap) (hsz : szOf P elem = some size)
    (hz : (∃ u d, ts[1]? = some u ∧ P.underlying u = some d ∧ zeros = isInt d) ∨ (ts[1]? = none ∧ zeros = false))
    (hmade : zeros = true → ∃ k l i, x = .int k l ∧ 0 ≤ l ∧ l ≤ 1000000 ∧ l.toNat = n ∧ P.info? elem = some i ∧ (i.bytes : Int) * l ≤ 140737488355328) (hnot : zeros = false → (Builtin.lenOf x).run P w = .ok n w) :
    (Builtin.append_ ts ty vs).run P w = (appTail elem size base sLen sCap s x zeros n).run P w := by
  subst hs
  unfold Builtin.append_
  rw [ht, h0, h1]
  simp only [Sem.run_bind, run_undl hu, Result.andThen_ok, run_szOf hsz]
  have yes : zeros = true → ∃ k l i, x = .int k l ∧ 0 ≤ l ∧ IntKind.i64.wrap l = l ∧ l.toNat = n ∧ P.info? elem = some i ∧ ¬ (l < 0) ∧ ¬ (l * (i.bytes : Int) > 2 ^ 48) := fun hz => by
    obtain ⟨k, l, i, rfl, l0, l1, rfl, hi, hb⟩ := hmade hz
    exact ⟨k, l, i, rfl, l0, wrap64_small l0 (by omega), rfl, hi, by omega, by rw [Int.mul_comm]; omega⟩
  rcases hz with ⟨u, d, hu1, hu2, hzd⟩ | ⟨hu1, hzd⟩
  · rw [hu1]
    simp only [Sem.run_bind, run_undl hu2, Result.andThen_ok]
    cases d <;> simp only [isInt] at hzd <;> subst hzd
    case int =>
      obtain ⟨k, l, i, rfl, l0, hw, rfl, hi, c1, c2⟩ := yes rfl
      unfold appTail
      simp only [Sem.run_pure, Result.andThen_ok, if_true, Sem.run_bind, asInt, asIntOf, hw, c1, if_false, typeInfo, run_program, hi, c2]
      rfl
    all_goals
      unfold appTail
      simp only [Sem.run_pure, Result.andThen_ok, Bool.false_eq_true, if_false, Sem.run_bind, hnot rfl]
      rfl
  · rw [hu1]
    subst hzd
    unfold appTail
    simp only [Sem.run_pure, Result.andThen_ok, Bool.false_eq_true, if_false, Sem.run_bind, hnot rfl]
    rfl
/-- The elements that come, read. -/
def Comes' (P : Program) (w : World) (elem : TypeId) (size n : Nat) (x : Value) (zeros : Bool) (c : Array Value) : Prop :=
  ((if !zeros then Builtin.firstCells size n x
    else if n * size = 0 then pure #[]
    else do pure (Builtin.zeroCells (← zeroValue elem).cells n) : Sem (Array Value))).run P w = .ok c w
theorem run_in {elem : TypeId} {size : Nat} {base : Option Addr} {sLen sCap n : Nat} {s x : Value} {zeros : Bool} {c : Array Value} (hc : Comes' P w elem size n x zeros c) (h : sLen + n ≤ sCap) {w' : World}
    (hst : (match base with | some a => storeCells (a.add (sLen * size)) c.toList | none => pure ()).run P w = .ok () w') : (appTail elem size base sLen sCap s x zeros n).run P w = .ok (.slice base (sLen + n) sCap) w' := by
  unfold appTail
  simp only [h, if_true, Sem.run_bind, show _ = _ from hc, Result.andThen_ok]
  cases base with
  | none => simp at hst ⊢; exact hst
  | some a => simp only at hst ⊢; simp [hst]
theorem run_out {elem : TypeId} {size : Nat} {base : Option Addr} {sLen sCap n : Nat} {s x : Value} {zeros : Bool} {c old : Array Value} {zc : Value} (h : ¬ sLen + n ≤ sCap) (hr : roomy P elem (sLen + n) = true)
    (hc : ∀ k, Comes' P { w with drawn := k } elem size n x zeros c) (ho : ∀ k, (Builtin.firstCells size sLen s).run P { w with drawn := k } = .ok old { w with drawn := k }) (hz : ∀ k, (zeroValue elem).run P { w with drawn := k } = .ok zc { w with drawn := k }) {i : TypeInfo} (hi : P.info? elem = some i) :
    ∃ newCap k, sLen + n ≤ newCap ∧ (appTail elem size base sLen sCap s x zeros n).run P w = .ok (.slice (some ⟨w.heap.size, 0, none⟩) (sLen + n) newCap) { w with drawn := k, heap := w.heap.push (.cells (old ++ c ++ Builtin.zeroCells zc.cells (newCap - (sLen + n))) elem) } := by
  have hby : bytesT P elem = i.bytes := by simp [bytesT, hi]
  unfold roomy at hr
  rw [hby] at hr
  simp only [Bool.and_eq_true, Nat.ble_eq] at hr
  obtain ⟨hr1, hr2⟩ := hr
  have hn := nextcap_le (need := sLen + n) (cap := sCap) (by omega)
  have hcap : ¬ (Builtin.nextslicecap (sLen + n) sCap * i.bytes > 2 ^ 48) := by
    have := Nat.mul_le_mul_right i.bytes hn
    have : (2 : Nat) ^ 48 = 281474976710656 := by decide
    omega
  have hmax : ¬ (((sLen + n : Nat) : Int) > IntKind.i64.max) := by
    show ¬ (((sLen + n : Nat) : Int) > 2 ^ 63 - 1)
    omega
  have hcut : sLen + n ≤ (Question.appendCap (sLen + n) sCap elem).cut (w.tape w.drawn (Question.appendCap (sLen + n) sCap elem)) := by
    simp [Question.cut]
  refine ⟨(Question.appendCap (sLen + n) sCap elem).cut (w.tape w.drawn (Question.appendCap (sLen + n) sCap elem)), w.drawn + 1, hcut, ?_⟩
  have hch : (choose (.appendCap (sLen + n) sCap elem)).run P w = .ok ((Question.appendCap (sLen + n) sCap elem).cut (w.tape w.drawn (Question.appendCap (sLen + n) sCap elem))) { w with drawn := w.drawn + 1 } := by
    rw [run_choose, if_neg (by simp [Question.forced])]
  unfold appTail
  simp only [h, if_false, Sem.run_bind, typeInfo, run_program, Result.andThen_ok, hi, Sem.run_pure, hmax, false_and]
  rw [if_neg hcap]
  simp only [Sem.run_pure, Result.andThen_ok, Sem.run_bind, hch, run_askRoom, ho, run_program, hi, show _ = _ from hc (w.drawn + 1), hz, newRow, run_newObj]
end
end Go.Sx
