/- The engine and the contracts, part 5. No condition beyond the hypotheses of each theorem. -/
import Derived.Test.YtkcdnpbcbmcgkaaG04
/- A run over parameters: what is left to be shown of it, as a statement over the store of names. No fact about it stands here. -/
set_option linter.unusedVariables false
set_option linter.unusedSimpArgs false
namespace Go.Sy
open Go Go.Sx Go.RowKit

/-- Each run from here comes to where K is so. -/
def Leads (P : Program) (w0 : World) (K : AM → Prop) (A : AM) : Prop :=
  ∀ base M, MR P noBase w0 noArgs base A M → ∃ A' M', Steps P M M' ∧ MR P noBase w0 noArgs base A' M' ∧ K A'
/-- It is about to return v out of f, to the frames below. -/
structure RetK (P : Program) (f : FuncId) (below : List AFr) (R : AV → AH → Prop) (A : AM) : Prop where
  below : A.below = below
  fn : A.top.fn = f
  ret : A.top.ret = true
  defers : A.top.defers = []
  dfr : A.top.dfr = false
  pan : A.top.pan = none
  val : ∃ v, resultOf P A.H A.top = some v ∧ R v A.H
/-- What was looked at ahead of its turn is there, and is none of W. -/
def Pok (H : AH) (W : Nat → Prop) (pend : List Nat) : Prop := ∀ p ∈ pend, (H.get p).isSome = true ∧ ¬ W p
/-- A machine about to return out of f, to the frames below. -/
def RetM (P : Program) (w0 : World) (f : FuncId) (below : List AFr) (R : AV → AH → Prop) (base : List Frame) (M : Machine) : Prop :=
  ∃ E w frm cs v c H, M = lone frm (cs ++ base) w ∧ HR noBase w0 E noArgs H w ∧ FRs P E noArgs w below cs ∧ frm.fn = f ∧ frm.leaving P w (.returned c) ∧ cv E noArgs v = some c ∧ R v H
/-- THE CONTRACT OF A FUNCTION over the store of names: from H it returns, and R is so; of what was there it writes W alone. -/
def Ret (P : Program) (w0 : World) (f : FuncId) (args : List AV) (H : AH) (W : Nat → Prop) (R : AV → AH → Prop) : Prop :=
  ∀ fr, enterFr P f args = some fr → ∀ below, Pok H W (stackPend below) → ∀ base M, MR P noBase w0 noArgs base ⟨fr, below, H⟩ M → ∃ M', Steps P M M' ∧ RetM P w0 f below R base M'

/-- Two stores that read alike. -/
structure HSame (H H' : AH) : Prop where
  get : ∀ m, H'.get m = H.get m
  nx : H'.nx = H.nx
  pc : H'.pc = H.pc
/-- What is told of a run that cannot be seen from its text. -/
inductive Tc : Type 1
  | stop
  | halt
  | v (v : AV) (t : Tc)
  | tt (t : Tc)
  | ff (t : Tc)
  | br (t e : Tc)
  | go (t : Tc)
  | into (t : Tc)
  | call (X : Type) (W : Nat → Prop) (f : X → AV) (Q : X → AH → Prop) (t : X → AH → Tc)
  | r (r : AR) (t : Tc)
  | lp (o : AObj) (t : Tc)
  | ln (n : Nat) (t : Tc)
  | bs (n off : Nat) (t : Tc)
  | is (v : AV) (t : Tc)
  | eq (i : Nat) (v : AV) (t : Tc)
  | hp (H : AH) (t : Tc)
  | nx (m since : Nat) (seen : List Nat) (last : Nat) (es : List (AV × AV × Nat)) (clock : Nat) (X : Type) (f : X → AV × AV × Nat) (e : Tc) (t : X → Tc)
  | ord (l : List Tc)
  | tw (r : AR) (t : Tc)

variable (P : Program)
def rdAt (H : AH) (n off : Nat) : Option AV := match H.get n with | some (.row cs _ _ _) => cs[off]? | _ => none
def rdSeg (H : AH) (n off k : Nat) : Option (List AV) := match H.get n with | some (.row cs _ _ _) => if off + k ≤ cs.length then some ((cs.drop off).take k) else none | _ => none
def Hit (H : AH) (n : Nat) (kt : TypeId) (k v : AV) : Prop := ∃ es c i, H.get n = some (.map es c) ∧ aFind P kt k es 0 = some (some (i, v))
def Miss (H : AH) (n : Nat) (kt : TypeId) (k : AV) : Prop := ∃ es c, H.get n = some (.map es c) ∧ aFind P kt k es 0 = some none
def mapLen (H : AH) (n : Nat) : Nat := match H.get n with | some (.map es _) => es.length | _ => 0
def mapClock (H : AH) (n : Nat) : Nat := match H.get n with | some (.map _ c) => c | _ => 0
def IsMap (H : AH) (n : Nat) : Prop := ∃ es c, H.get n = some (.map es c)
def AOk (H : AH) (pend touched : List Nat) : Prop := apartOk H pend touched = true
def StOk (H : AH) (n off k : Nat) : Prop := ∃ cells e ex old, H.get n = some (.row cells e ex (.own old)) ∧ off + k ≤ cells.length
def stO (H : AH) (n off : Nat) (vs : List AV) : AH := match H.get n with | some (.row cells e ex (.own old)) => H.write n (setAt cells off vs) e ex old | _ => H
def stOld (H : AH) (n : Nat) : List Nat := match H.get n with | some (.row _ _ _ (.own old)) => old.toList | _ => []
def mset (H : AH) (n : Nat) (kt : TypeId) (k v : AV) : AH := match H.get n with
  | some (.map es c) => (match aFind P kt k es 0 with
    | some (some (i, _)) => H.put n (.map (modAt (fun e => (k, v, e.2.2)) es i) c)
    | some none => H.put n (.map (es ++ [(k, v, c)]) (c + 1))
    | none => H)
  | _ => H
def MsOk (H : AH) (n : Nat) (kt : TypeId) (k : AV) : Prop := ∃ es c r, H.get n = some (.map es c) ∧ aFind P kt k es 0 = some r ∧ ∀ i v, r = some (i, v) → ∃ e, es[i]? = some e ∧ same 9 e.1 k = true

/-! ### Equality of structs, without a test -/
def allE (f : Field → Option Bool) : List Field → Option Bool
  | [] => some true
  | x :: r => if x.name ≠ "_" then (match f x, allE f r with | some a, some b => some (a && b) | _, _ => none) else allE f r
def eqE : Nat → TypeId → AV → AV → Option Bool
  | 0, _, _, _ => none
  | d + 1, t, .agg xs, .agg ys => (match P.underlying t with
    | some (.struct fs) => if P.stoodInHeld t then none else
      allE (fun f => match aPart P f.type xs f.offset, aPart P f.type ys f.offset with | some a, some b => eqE d f.type a b | _, _ => none) fs.toList
    | _ => none)
  | d + 1, t, x, y => aEq P (d + 1) t x y

/-- Where a slice begins. -/
def slBase : AV → Option (Nat × Nat)
  | .slice n off _ _ => some (n, off)
  | .eslice n off _ _ => some (n, off)
  | _ => none
def SlAt (x : AV) (n off : Nat) (i : Int) : Prop := slBase x = some (n, off) ∧ ∃ k : Nat, aLenOf x = some k ∧ 0 ≤ i ∧ i < (k : Int)

/-! ### Operations that write nothing -/
def isE (op : Op) : Bool := match op with
  | .move _ => true
  | .assign _ => true
  | .pick _ _ _ => true
  | .nilCheck _ => true
  | .binOp _ _ _ _ _ => true
  | .unOp _ _ _ => true
  | .convert s d _ => (match P.underlying s, P.underlying d with | some .string, some (.slice _) => false | _, _ => true)
  | .makeInterface _ _ => true
  | .makeFunc _ _ _ => true
  | .extract _ _ => true
  | .field _ _ _ => true
  | .fieldAddr _ _ _ => true
  | .indexAddr _ _ _ => true
  | .index _ _ _ => true
  | .load _ _ => true
  | .slice _ _ _ _ _ => true
  | .build _ _ => true
  | .lookup _ _ _ _ => true
  | .entry _ => true
  | .call ⟨.builtin b, _, _⟩ => (match b with | .len => true | .cap => true | .max => true | .min => true | _ => false)
  | _ => false
def dflt (H : AH) (tm : TM) (op : Op) (tr : Tc) (k : AV → List Nat → Tc → Prop) : Prop := match aEarly P H tm op with | some (v, ns) => k v ns tr | none => False
/-- A truth that is asked for. -/
def ask (b : Bool) (tr : Tc) (k : Bool → Tc → Prop) : Prop := match tr with
  | .tt t => b = true ∧ k true t
  | .ff t => b = false ∧ k false t
  | .br t e => (b = true → k true t) ∧ (b = false → k false e)
  | _ => False
def at_ (n off : Nat) (i : Int) (len z : Nat) (tr : Tc) (k : AV → List Nat → Tc → Prop) : Prop := (0 ≤ i ∧ i < (len : Int)) ∧ k (.ptr n (off + i.toNat * z)) [] tr
def eVC (H : AH) (tm : TM) (op : Op) (tr : Tc) (k : AV → List Nat → Tc → Prop) : Prop :=
  match op with
  | .load t x => (match opv tm x with
    | some (.ptr n off) => (match tr with
      | .v v tr' => (match aggT P t with
        | some true => (match szOf P t, v with
          | some sz, .agg l => rdSeg H n off sz = some l ∧ k (.agg l) [n] tr'
          | _, _ => False)
        | some false => rdAt H n off = some v ∧ k v [n] tr'
        | none => False)
      | _ => False)
    | _ => False)
  | .indexAddr t x i => (match P.underlying t with
    | some (.slice e) => (match szOf P e with
      | some z => (match tr with
        | .bs n off tr' => (match opv tm x, opv tm i with
          | some x, some (.int _ i) => SlAt x n off i ∧ k (.ptr n (off + i.toNat * z)) [] tr'
          | _, _ => False)
        | _ => match opv tm x, opv tm i with
        | some (.slice n off len _), some (.int _ i) => at_ n off i len z tr k
        | some (.eslice n off len _), some (.int _ i) => at_ n off i len z tr k
        | _, _ => False)
      | none => False)
    | some (.array len e) => (match szOf P e with
      | some z => (match opv tm x, opv tm i with
        | some (.ptr n off), some (.int _ i) => at_ n off i len z tr k
        | _, _ => False)
      | none => False)
    | _ => False)
  | .index t x i => (match opv tm x, opv tm i with
    | some (.str s), some (.int _ i) => (match P.underlying t with
      | some .string => (0 ≤ i ∧ i < (s.length : Int)) ∧ k (.int .u8 ((s.getD i.toNat 0).toNat : Nat)) [] tr
      | _ => False)
    | some x, some i => (match aIndex P t x i with | some v => k v [] tr | none => False)
    | _, _ => False)
  | .slice t x lo hi mx => (match opv tm x, optv tm lo, optv tm hi, optv tm mx with
    | some x, some lo, some hi, some mx => (match tr with | .v v tr' => aSlice P H t x lo hi mx = some v ∧ k v [] tr' | _ => False)
    | _, _, _, _ => False)
  | .lookup t x i ok => (match mapK P t, opv tm x, opv tm i with
    | some (kt, et), some .nmap, some key => bif keyOk P 9 kt key then (match zeroT P et with | some z => k (okd ok z false) [] tr | none => False) else False
    | some (kt, et), some (.map n), some key => bif keyOk P 9 kt key then (match tr with
      | .v v tr' => Hit P H n kt key v ∧ k (okd ok v true) [n] tr'
      | .ff tr' => Miss P H n kt key ∧ (match zeroT P et with | some z => k (okd ok z false) [n] tr' | none => False)
      | _ => False) else False
    | _, _, _ => False)
  | .pick c a b => (match opv tm c with
    | some (.bool x) => ask x tr fun x tr' => (match opv tm (bif x then a else b) with | some v => k v [] tr' | none => False)
    | _ => False)
  | .entry x => (match opv tm x, tr with
    | some it, .r (.val v, _, ns) tr' => aEntry H it = some (v, ns) ∧ k v ns tr'
    | _, _ => False)
  | .binOp op t x y p => (match tr with
    | .is v tr' => (match opv tm x, opv tm y with
      | some a, some b => (guardOk P op t x y a b = true ∧ aBin P op t a b = some v) ∧ k v [] tr'
      | _, _ => False)
    | _ => match op, opv tm x, opv tm y with
    | .quo, some (.int j a), some (.int j' b) => if j = j' then b ≠ 0 ∧ k (.int j (j.wrap (a.tdiv b))) [] tr else False
    | .rem, some (.int j a), some (.int j' b) => if j = j' then b ≠ 0 ∧ k (.int j (a.tmod b)) [] tr else False
    | .eql, some (.agg a), some (.agg b) => bif guardOk P .eql t x y (.agg a) (.agg b) then (match eqE P 12 t (.agg a) (.agg b) with | some v => k (.bool v) [] tr | none => False) else False
    | .neq, some (.agg a), some (.agg b) => bif guardOk P .neq t x y (.agg a) (.agg b) then (match eqE P 12 t (.agg a) (.agg b) with | some v => k (.bool (!v)) [] tr | none => False) else False
    | op, _, _ => dflt P H tm (.binOp op t x y p) tr k)
  | .call ⟨.builtin .len, args, ts⟩ => (match tr with
    | .ln n tr' => (match ts.toList, opvs tm args.toList with
      | t :: _, some (x :: _) => aLen P H t x = some (.int .i64 n, []) ∧ k (.int .i64 n) [] tr'
      | _, _ => False)
    | _ => (match ts.toList, opvs tm args.toList with
      | t :: _, some (.map n :: _) => (match P.underlying t with
        | some (.map _ _) => IsMap H n ∧ k (.int .i64 (mapLen H n)) [n] tr
        | _ => False)
      | _, _ => dflt P H tm (.call ⟨.builtin .len, args, ts⟩) tr k))
  | op => dflt P H tm op tr k

/-! ### Operations that write -/
def MkOk (e : TypeId) (l c : Int) : Prop := 0 ≤ l ∧ l ≤ c ∧ c ≤ 1000000 ∧ c.toNat * bytesT P e ≤ 140737488355328
/-- Which entry a walk may come to next. -/
def NxOk (last : Nat) (seen : List Nat) (es : List (AV × AV × Nat)) : Prop := seen = [] ∨ es = [] ∨ ∃ e ∈ es, e.2.2 < last
def wdflt (H : AH) (tm : TM) (op : Op) (tr : Tc) (k : AR → Tc → Prop) : Prop := match tr with
  | .tw r t => aW P H tm op = some [r] ∧ k r t
  | tr => (match aW P H tm op with | some [r] => k r tr | _ => False)
def wVC (H : AH) (tm : TM) (op : Op) (tr : Tc) (k : AR → Tc → Prop) : Prop :=
  match op with
  | .store t a x => (match opv tm a, opv tm x with
    | some (.ptr n off), some v => (match aggT P t, szOf P t with
      | some true, some sz => (match v with
        | .agg l => bif Nat.beq l.length sz && l.all AV.single then StOk H n off sz ∧ k (.skip, stO H n off l, n :: stOld H n) tr else False
        | _ => False)
      | some false, some 1 => AV.single v = true ∧ StOk H n off 1 ∧ k (.skip, stO H n off [v], n :: stOld H n) tr
      | _, _ => False)
    | _, _ => False)
  | .mapUpdate t m key x => (match mapK P t, opv tm m, opv tm key, opv tm x with
    | some (kt, _), some (.map n), some key, some v => bif keyOk P 9 kt key then MsOk P H n kt key ∧ k (.skip, mset P H n kt key v, [n]) tr else False
    | _, _, _, _ => False)
  | .insert t m key x => (match mapK P t, opv tm m, opv tm key, opv tm x with
    | some (kt, _), some (.map n), some key, some v => bif keyOk P 9 kt key then MsOk P H n kt key ∧ k (.skip, mset P H n kt key v, [n]) tr else False
    | _, _, _, _ => False)
  | .makeSlice t l c => (match P.underlying t, opv tm l, opv tm c with
    | some (.slice e), some (.int _ l), some (.int _ c) => (match szOf P e, zeroT P e with
      | some size, some z => bif Nat.beq z.cells.length size && Nat.blt 0 size then MkOk P e l c ∧ k (.val (.slice H.nx 0 l.toNat c.toNat), H.new (.row (reps z.cells c.toNat) e true (.own none)), []) tr else False
      | _, _ => False)
    | _, _, _ => False)
  | .range t x => (match mapK P t, opv tm x with
    | some _, some .nmap => k (.val (.ptr H.nx 0), H.new (.iter none 0 [] 0), []) tr
    | some _, some (.map n) => IsMap H n ∧ k (.val (.ptr H.nx 0), H.new (.iter (some n) (mapClock H n) [] (mapClock H n)), []) tr
    | _, _ => False)
  | .next x false => (match opv tm x, tr with
    | some (.ptr n 0), .nx m since seen last es clock X f t0 t1 => H.get n = some (.iter (some m) since seen last) ∧ H.get m = some (.map es clock) ∧ NxOk last seen es ∧ (∀ e ∈ es, ∃ x, e = f x) ∧
        ((∀ e ∈ es, seen.contains e.2.2 = false → since ≤ e.2.2) → k (.val (.tuple [.bool false]), H, []) t0) ∧
        ∀ x, f x ∈ es → seen.contains (f x).2.2 = false → k (.val (.tuple [.bool true, (f x).1, (f x).2.1]), H.put n (.iter (some m) since (seen ++ [(f x).2.2]) clock), [n]) (t1 x)
    | some (.ptr n 0), .lp (.iter none s sn l) t => H.get n = some (.iter none s sn l) ∧ k (.val (.tuple [.bool false]), H, []) t
    | _, _ => False)
  | .call ⟨.value f, args, ts⟩ => (match opv tm f, opvs tm args.toList with
    | some (.yld l), some args => (match tr with
      | .lp (.loop st j fn tm ps as bd d) t => H.get l = some (.loop st j fn tm ps as bd d) ∧ (bif Nat.beq args.length ps.size then k (.round l fn (setTmps tm ps.toList args) as bd, H, []) t else False)
      | _ => False)
    | _, _ => wdflt P H tm (.call ⟨.value f, args, ts⟩) tr k)
  | .call ⟨.builtin .append, args, ts⟩ => (match opvs tm args.toList, tr with
    | some as, .r r t => aAppend P H ts.toList as = some [r] ∧ k r t
    | _, _ => False)
  | .call ⟨.builtin .copy, args, ts⟩ => (match opvs tm args.toList, tr with
    | some as, .r r t => aCopy P H ts.toList as = some [r] ∧ k r t
    | _, _ => False)
  | .call ⟨.builtin .delete, args, ts⟩ => (match opvs tm args.toList, tr with
    | some as, .r r t => aDelete P H ts.toList as = some [r] ∧ k r t
    | _, _ => False)
  | .mapEntry t m key => (match opv tm m, opv tm key, tr with
    | some m, some key, .r r t' => aMapEntry P H t m key = some [r] ∧ k r t'
    | _, _, _ => False)
  | .entryStore t m s x => (match opv tm m, opv tm s, opv tm x, tr with
    | some m, some s, some v, .r r t' => aEntryStore H m s v = some [r] ∧ k r t'
    | _, _, _, _ => False)
  | op => wdflt P H tm op tr k

/-- Temporaries, each read by z. -/
def trFn (z : Nat → AV) : Nat → Nat → Nat → Nat → Tr AV
  | 0, _, _, _ => .leaf
  | f + 1, a, b, n => bif Nat.blt b n then .node (some (z b)) (trFn z f (2 * a) (b + a) n) (trFn z f (2 * a) (b + 2 * a) n) else .leaf
def tz (n : Nat) (z : Nat → AV) : TM := ⟨trFn z (n + 1) 1 0 n, n⟩
def leavesF (tm : TM) : Nat → Nat → List AV
  | 0, _ => []
  | k + 1, i => tm.get i :: leavesF tm k (i + 1)
def nthD : List AV → Nat → AV
  | [], _ => .tuple []
  | a :: _, 0 => a
  | _ :: r, i + 1 => nthD r i
/-- Temporaries, told one by one. -/
def tl (l : List AV) : TM := tz l.length (nthD l)
def canonF (f : AFr) : AFr := { f with tm := tl (leavesF f.tm f.tm.n 0) }
def canonFs : Nat → List AFr → List AFr
  | d + 1, f :: r => canonF f :: canonFs d r
  | _, l => l
def canonA (d : Nat) (A : AM) : AM := ⟨canonF A.top, canonFs d A.below, A.H⟩

/-- Ahead of a region of the function itself. -/
def atReg (d : Nat) (f : AFr) : Bool := Nat.beq d 0 && !f.ret && (match f.todo with | .code (.region _ _ _) :: _ => true | _ => false)
/-! ### The run -/
/-- Whether an operation is wanted; what has been asked for is written down. -/
def wanted (ops : Array Oper) (lit : List Nat) (tm : TM) (o : Oper) (tr : Tc) (k : Bool → List Nat → TM → Tc → Prop) : Prop :=
  match o.guard with
  | none => k true lit tm tr
  | some (j, want) => (match (opAt ops j).bind (·.dst) with
    | none => k false lit tm tr
    | some d => (match tm.get d with
      | .bool b => bif lit.contains d then k (b == want) lit tm tr else ask b tr fun b tr' => k (b == want) (d :: lit) (tm.set d (.bool b)) tr'
      | .opq _ => False
      | .symb _ _ => False
      | .tuple [] => k false lit tm tr
      | _ => False))
/-- Operations whose result is told. -/
def hardW (op : Op) : Bool := match op with
  | .call ⟨.builtin b, _, _⟩ => (match b with | .append => true | .copy => true | .delete => true | _ => false)
  | .mapEntry _ _ _ => true
  | .entryStore _ _ _ _ => true
  | _ => false
def litPut (lit : List Nat) (d : Option Tmp) : List Nat := match d with | some t => lit.filter fun x => !Nat.beq x t | none => lit
section
variable (w0 : World) (f0 : FuncId) (K : AM → Prop) (Kr : AV → AH → Prop)
def resVC (H : AH) (tm : TM) : List ResultVar → Tc → (List AV → Prop) → Prop
  | [], _, k => k []
  | .tmp t :: rs, tr, k => resVC H tm rs tr fun l => k (tm.get t :: l)
  | .cell a t :: rs, tr, k => (match tm.get a with
    | .ptr n off => (match tr with
      | .v v tr' => (match aggT P t with
        | some true => (match szOf P t, v with
          | some sz, .agg l => rdSeg H n off sz = some l ∧ resVC H tm rs tr' fun r => k (.agg l :: r)
          | _, _ => False)
        | some false => rdAt H n off = some v ∧ resVC H tm rs tr' fun r => k (v :: r)
        | none => False)
      | _ => False)
    | _ => False)
def retVC (H : AH) (f : AFr) (tr : Tc) (k : AV → Prop) : Prop := match P.funcs[f.fn]? with
  | some fn => resVC P H f.tm fn.results.toList tr fun vs => k (match vs with | [v] => v | vs => .tuple vs)
  | none => False
/-- The region's next operation, whichever it is, is carried out in the frame 'wait'. -/
def operVC (run : Nat → List Nat → AM → Tc → Prop) (d : Nat) (lit : List Nat) (wait : AFr) (below : List AFr) (H : AH) (ops : Array Oper) (o : Oper) (tr : Tc) : Prop :=
  wanted ops lit wait.tm o tr fun w lit tm tr =>
    let wait : AFr := { wait with tm := tm }
    let lit' := litPut lit o.dst
    let fin := fun (H : AH) (v : AV) (tr : Tc) => (match wait.finish v with | some f => run d lit' ⟨f, below, H⟩ tr | none => False)
    bif w then
      bif isE P o.op then eVC P H tm o.op tr fun v _ tr => fin H v tr
      else (match o.op with
        | .defer ⟨.value f, args, _⟩ => (match aDefer P wait below H f args with | some [B] => run d lit' B tr | _ => False)
        | .panic x => (match aPanic wait below H x with | some [B] => run d lit' B tr | _ => False)
        | .call ⟨.builtin .recover, _, _⟩ => bif wait.dfr && Nat.beq d 0 then False else (match aRecover wait below H with | some [B] => run d lit' B tr | _ => False)
        | op => wVC P H tm op tr fun r tr =>
          (bif hardW o.op then AOk H (framePend wait ++ stackPend below) r.2.2 else match r.2.2 with | [] => True | ns => AOk H (framePend wait ++ stackPend below) ns) ∧
          (match r.1 with
            | .val v => fin r.2.1 v tr
            | .skip => fin r.2.1 (.tuple []) tr
            | .enter g args => (match tr with
              | .into t => (match enterFr P g args with | some fr => run (d + 1) [] ⟨fr, wait :: below, r.2.1⟩ t | none => False)
              | .call X W vf Q t => (bif (enterFr P g args).isSome then Ret P w0 g args r.2.1 W (fun v H' => ∃ x, v = vf x ∧ Q x H') ∧ Pok r.2.1 W (framePend wait ++ stackPend below) ∧ ∀ x H', Q x H' → fin H' (vf x) (t x H') else False)
              | _ => False)
            | .round l fn tm as bd => (match tr with
              | .into t => run (d + 1) [] ⟨{ fn := fn, tm := tm, todo := [.code as, .beginRound, .code bd], defers := [], ret := false, rnd := some l }, wait :: below, r.2.1⟩ t
              | _ => False)))
    else fin H (.tuple []) tr
def det (run : AM → Tc → Prop) (l : Option (List AM)) (tr : Tc) : Prop := match l with | some [B] => run B tr | _ => False
/-- The last one's trace. -/
def lastT : Tc → Tc
  | .ord [t] => t
  | t => t
/-- All orders in which operations may come up. -/
def each {α : Type} (k : α → Tc → Prop) : List α → Tc → Prop
  | [], _ => True
  | [x], tr => k x (lastT tr)
  | x :: l, .ord (t :: ts) => k x t ∧ each k l (.ord ts)
  | _ :: _, _ => False
def one (l : List Nat) (k : Nat → Tc → Prop) (tr : Tc) : Prop := match l, tr with
  | [], _ => False
  | [i], tr => k i tr
  | l, .ord ts => each k l (.ord ts)
  | _, _ => False
def tbody (run : Nat → List Nat → AM → Tc → Prop) (d : Nat) (lit : List Nat) (A : AM) (tr : Tc) : Prop :=
  bif A.top.ret then
    (match A.top.defers with
    | .coll n :: ds => (match tr with
      | .lp (.deferred true) t => A.H.get n = some (.deferred true) ∧ AOk A.H (stackPend A.below) [n] ∧ run d lit ⟨{ A.top with defers := ds }, A.below, A.H.put n (.deferred false)⟩ t
      | _ => False)
    | .fn f args :: ds => bif hasBody P f then (match enterFr P f args, tr with | some fr, .into t => run (d + 1) [] ⟨{ fr with dfr := true }, { A.top with defers := ds } :: A.below, A.H⟩ t | _, _ => False) else False
    | [] => (match d with
      | 0 => (match A.top.pan with
        | none => bif Nat.beq A.top.fn f0 && !A.top.dfr then retVC P A.H A.top tr fun v => Kr v A.H else False
        | some _ => False)
      | d + 1 => (match A.below with
        | [] => False
        | c :: cs => (match A.top.pan with
          | none => bif A.top.dfr then det (run d []) (stepRet P A) tr
              else retVC P A.H A.top tr fun v => (bif c.ret then False else (match c.finish v with | some c => run d [] ⟨c, cs, A.H⟩ tr | none => False))
          | some _ => det (run d []) (stepRet P A) tr))))
  else (match A.top.todo with
    | [] => (match A.top.rnd with
      | none => det (run d lit) (leave A none) tr
      | some l => (match tr with
        | .lp (.loop st j fn tm ps as bd ld) t => A.H.get l = some (.loop st j fn tm ps as bd ld) ∧ AOk A.H (stackPend A.below) [l] ∧ (match d, A.below with
          | d + 1, c :: cs => bif A.top.dfr || c.ret then False else (match c.finish (.bool true) with | some c => run d [] ⟨c, cs, A.H.put l (.loop .ready none fn tm ps as bd ld)⟩ t | none => False)
          | _, _ => False)
        | _ => False))
    | .code (.cond c a b) :: k => (match c, opv A.top.tm c with
      | .tmp i, some (.bool x) => bif lit.contains i then run d lit (setTodo A (.code (bif x then a else b) :: k)) tr
          else ask x tr fun x tr' => run d (i :: lit) ⟨{ A.top with todo := .code (bif x then a else b) :: k, tm := A.top.tm.set i (.bool x) }, A.below, A.H⟩ tr'
      | _, some (.bool x) => run d lit (setTodo A (.code (bif x then a else b) :: k)) tr
      | _, _ => False)
    | .code (.loop c) :: k => (match tr with
      | .stop => K (canonA d (setTodo A (.code c :: .inLoop c :: k)))
      | .go t => run d lit (setTodo A (.code c :: .inLoop c :: k)) t
      | _ => False)
    | .inLoop c :: k => (match tr with
      | .stop => K (canonA d (setTodo A (.code c :: .inLoop c :: k)))
      | .go t => run d lit (setTodo A (.code c :: .inLoop c :: k)) t
      | _ => False)
    | .code (.rangeFunc g ps as bd) :: k => (match A.top.rnd with
      | none => det (run (d + 1) []) (stepRange P A k g ps as bd) tr
      | some l => (match tr with
        | .lp (.loop st j fn tm ps' as' bd' ld) t => A.H.get l = some (.loop st j fn tm ps' as' bd' ld) ∧ (match opv A.top.tm g with
          | some (.func h first captured) => bif hasBody P h then (match enterFr P h (first ++ [.yld A.H.nx] ++ captured) with
            | some fr => run (d + 1) [] ⟨fr, { A.top with todo := .inRange A.H.nx :: k } :: A.below, A.H.new (.loop .ready none A.top.fn A.top.tm ps as bd ld)⟩ t
            | none => False) else False
          | _ => False)
        | _ => False))
    | .code .ret :: k => (match A.top.rnd with
      | none => det (run d lit) (leave A (some .ret)) tr
      | some l => (match tr with
        | .lp (.loop st j fn tm ps as bd ld) t => A.H.get l = some (.loop st j fn tm ps as bd ld) ∧ AOk A.H (stackPend A.below) [l] ∧ (match d, A.below with
          | d + 1, c :: cs => bif A.top.dfr || c.ret then False else (match c.finish (.bool false) with | some c => run d [] ⟨c, cs, A.H.put l (.loop .done (some .ret) fn tm ps as bd ld)⟩ t | none => False)
          | _, _ => False)
        | _ => False))
    | .code (.exit id) :: k => (match exitA id k with
      | some k' => run d lit (setTodo A k') tr
      | none => (match A.top.rnd, tr with
        | some l, .lp (.loop st j fn tm ps as bd ld) t => A.H.get l = some (.loop st j fn tm ps as bd ld) ∧ AOk A.H (stackPend A.below) [l] ∧ (match d, A.below with
          | d + 1, c :: cs => bif A.top.dfr || c.ret then False else (match c.finish (.bool false) with | some c => run d [] ⟨c, cs, A.H.put l (.loop .done (some (.exit id)) fn tm ps as bd ld)⟩ t | none => False)
          | _, _ => False)
        | _, _ => False))
    | .code c :: k => det (run d lit) (stepCode P A k c) tr
    | .inBlock _ :: k => run d lit (setTodo A k) tr
    | .reg _ _ [] :: k => run d lit (setTodo A k) tr
    | .reg ops _ (o :: _) :: _ => (match opWants A.H.pc ops A.top.tm o with
      | some _ => False
      | none => operVC P w0 run d lit A.top A.below A.H ops o tr)
    | .any ops ok done pos pend none :: k =>
      bif Nat.beq done (2 ^ ops.size - 1) then run d lit (setTodo A k) tr else
      let next := fun tr => (match wantsAll A.H.pc ops A.top.tm (readyAll done (depMasks ops) 0) with
        | some _ => False
        | none => one (readyAll done (depMasks ops) 0) (fun i tr => (match opAt ops i with
          | some o => operVC P w0 run d lit { A.top with todo := .any ops ok done pos (pend.filter fun p => !(ancOf ops i).testBit p.1) (some i) :: k } A.below A.H ops o tr
          | none => False)) tr)
      bif ok then (match readyFrom done ((depMasks ops).drop pos) pos with
        | some i => (match opAt ops i with
          | some o => (match opWants A.H.pc ops A.top.tm o with
            | some _ => False
            | none => wanted ops lit A.top.tm o tr fun w lit tm tr =>
              bif w then
                bif isE P o.op then eVC P A.H tm o.op tr fun v ns tr => run d (litPut lit o.dst) ⟨{ A.top with tm := aPut tm o.dst v, todo := .any ops true (done ||| 2 ^ i) (i + 1) (addPend i ns pend) none :: k }, A.below, A.H⟩ tr
                else run d lit ⟨{ A.top with tm := tm, todo := .any ops true done (i + 1) pend none :: k }, A.below, A.H⟩ tr
              else run d (litPut lit o.dst) ⟨{ A.top with tm := aPut tm o.dst (.tuple []), todo := .any ops true (done ||| 2 ^ i) (i + 1) pend none :: k }, A.below, A.H⟩ tr)
          | none => False)
        | none => next tr)
      else next tr
    | .endRange l :: k => (match tr with
      | .lp (.loop st j fn tm ps as bd ld) t => A.H.get l = some (.loop st j fn tm ps as bd ld) ∧ AOk A.H (stackPend A.below) [l] ∧ (match st with
        | .busy => False
        | _ => run d lit ⟨{ A.top with todo := jumpTodo j k }, A.below, A.H.put l (.loop .exhausted j fn tm ps as bd ld)⟩ t)
      | _ => False)
    | .beginRound :: k => (match A.top.rnd, tr with
      | some l, .lp (.loop .ready j fn tm ps as bd ld) t => A.H.get l = some (.loop .ready j fn tm ps as bd ld) ∧ AOk A.H (stackPend A.below) [l] ∧ run d lit ⟨{ A.top with todo := k }, A.below, A.H.put l (.loop .busy j fn tm ps as bd ld)⟩ t
      | _, _ => False)
    | _ => False)
def trun : Nat → Nat → List Nat → AM → Tc → Prop
  | 0, _, _, _, _ => False
  | F + 1, d, lit, A, tr => (match tr with
    | .eq i v tr => A.top.tm.get i = v ∧ trun F d lit ⟨{ A.top with tm := A.top.tm.set i v }, A.below, A.H⟩ tr
    | .hp H' tr => HSame A.H H' ∧ trun F d lit ⟨A.top, A.below, H'⟩ tr
    | .halt => bif atReg d A.top then K (canonA d A) else tbody P w0 f0 K Kr (trun F) d lit A .halt
    | tr => tbody P w0 f0 K Kr (trun F) d lit A tr)
end
end Go.Sy
/- What is left to be shown of a run is enough: operations. -/
set_option linter.unusedVariables false
set_option linter.unusedSimpArgs false
namespace Go.Sy
open Go Go.Sx Go.RowKit
section
variable {P : Program} {w0 : World}
theorem Leads.here {K : AM → Prop} {A : AM} (h : K A) : Leads P w0 K A := fun base M hM => ⟨A, M, Steps.refl _ _, hM, h⟩
theorem Leads.step (hP : Fine P) {K : AM → Prop} {A : AM} {l : List AM} (h : astep P A = some l) (g : ∀ B ∈ l, Leads P w0 K B) : Leads P w0 K A := fun base M hM => by
  obtain ⟨B, hB, M', h1, h2⟩ := astep_ok hP noArgs_ok hM h
  obtain ⟨A', M2, q1, q2, q3⟩ := g B hB base M' h2
  exact ⟨A', M2, h1.trans q1, q2, q3⟩
theorem Leads.bind {K K' : AM → Prop} {A : AM} (h : Leads P w0 K A) (g : ∀ B, K B → Leads P w0 K' B) : Leads P w0 K' A := fun base M hM => by
  obtain ⟨A', M', h1, h2, h3⟩ := h base M hM
  obtain ⟨A2, M2, q1, q2, q3⟩ := g A' h3 base M' h2
  exact ⟨A2, M2, h1.trans q1, q2, q3⟩
theorem Leads.mono {K K' : AM → Prop} {A : AM} (h : Leads P w0 K A) (g : ∀ B, K B → K' B) : Leads P w0 K' A := h.bind fun B hB => .here (g B hB)
/-- Temporaries that read alike. -/
theorem Leads.tm {K : AM → Prop} {A : AM} {tm' : TM} (hn : tm'.n = A.top.tm.n) (h1 : ∀ i, i < tm'.n → tm'.get i = A.top.tm.get i) (h2 : ∀ i, tm'.n ≤ i → tm'.get i = .tuple []) (g : Leads P w0 K ⟨{ A.top with tm := tm' }, A.below, A.H⟩) : Leads P w0 K A := fun base M hM => by
  obtain ⟨E, w, fr, cs, rfl, hh, ⟨b, a, ct, V, q⟩, hfs⟩ := hM
  refine g base _ ⟨E, w, fr, cs, rfl, hh, ⟨b, a, ct, V, q.frame, q.fn, q.kind, q.rnd, q.defs, ⟨q.tm.1.trans hn.symm, fun i => ?_⟩, q.todo, q.ret⟩, hfs⟩
  show cv E noArgs (tm'.get i) = _
  by_cases hi : i < tm'.n
  · rw [h1 i hi]; exact q.tm.2 i
  · rw [h2 i (by omega)]
    have : V.getD i undef = undef := by
      have := q.tm.1
      rw [Array.getD_eq_getD_getElem?, Array.getElem?_eq_none (by omega)]; rfl
    rw [this]; simp [cv, cvs, undef]

/-! ### What is asked for is written down -/
theorem Tr.setF_self {α : Type} (v : α) : ∀ (f : Nat) (t : Tr α) (k : Nat), k < f → t.get k = some v → Tr.setF (some v) f t k = t
  | 0, _, _, h, _ => absurd h (Nat.not_lt_zero _)
  | f + 1, .leaf, k, _, g => by simp [Tr.get_leaf] at g
  | f + 1, .node u l r, k, h, g => by
    rw [Tr.get_node] at g
    show (bif Nat.beq k 0 then Tr.node (some v) l r else bif Nat.beq (k % 2) 0 then Tr.node u l (Tr.setF (some v) f r (k / 2 - 1)) else Tr.node u (Tr.setF (some v) f l (k / 2)) r) = _
    by_cases hk : k = 0
    · subst hk; simp at g; subst g; rfl
    · have hb : Nat.beq k 0 = false := by
        cases hb : Nat.beq k 0 with
        | false => rfl
        | true => exact absurd (Nat.eq_of_beq_eq_true hb) hk
      rw [hb, if_neg hk] at *
      by_cases h2 : k % 2 = 0
      · rw [if_pos h2] at g
        rw [h2]
        show Tr.node u l (Tr.setF (some v) f r (k / 2 - 1)) = _
        rw [Tr.setF_self v f r _ (by omega) g]
      · rw [if_neg h2] at g
        have hb2 : Nat.beq (k % 2) 0 = false := by
          cases hb : Nat.beq (k % 2) 0 with
          | false => rfl
          | true => exact absurd (Nat.eq_of_beq_eq_true hb) h2
        rw [hb2]
        show Tr.node u (Tr.setF (some v) f l (k / 2)) r = _
        rw [Tr.setF_self v f l _ (by omega) g]
theorem TM.set_get {m : TM} {i j : Nat} {v : AV} (h : m.get i = v) (hi : i < m.n ∨ True) : (m.set i v).get j = m.get j := by
  rw [TM.get_set]
  split
  · rename_i hj; rw [hj.1, h]
  · rfl
theorem TM.set_self {m : TM} {i : Nat} {b : Bool} (h : m.get i = .bool b) : m.set i (.bool b) = m := by
  unfold TM.set
  cases hn : Nat.blt i m.n with
  | false => rfl
  | true =>
    have : m.t.get i = some (.bool b) := by
      unfold TM.get at h
      cases hx : m.t.get i with
      | none => rw [hx] at h; cases h
      | some v => rw [hx] at h; simp only at h; rw [h]
    simp only [cond_true]
    rw [show m.t.set i (some (.bool b)) = m.t from Tr.setF_self _ _ _ _ (by omega) this]
theorem ask_ok {b : Bool} {tr : Tc} {k : Bool → Tc → Prop} (h : ask b tr k) : ∃ tr', k b tr' := by
  unfold ask at h
  split at h
  · exact ⟨_, h.1 ▸ h.2⟩
  · exact ⟨_, h.1 ▸ h.2⟩
  · cases b with
    | true => exact ⟨_, h.1 rfl⟩
    | false => exact ⟨_, h.2 rfl⟩
  · exact h.elim

/-! ### Equality of structs -/
theorem allE_ok {f : Field → Option Bool} : ∀ {l : List Field} {b : Bool}, allE f l = some b → allB f l = some b
  | [], b, h => h
  | x :: r, b, h => by
    unfold allE at h
    unfold allB
    split at h
    · rename_i hn
      rw [if_pos hn]
      split at h
      · rename_i p q hp hq
        simp only [Option.some.injEq] at h
        subst h
        rw [hp]
        cases p with
        | true => simpa using allE_ok hq
        | false => rfl
      · cases h
    · rename_i hn
      rw [if_neg hn]
      exact allE_ok h
theorem allB_congr {f g : Field → Option Bool} (H : ∀ x b, f x = some b → g x = some b) : ∀ {l : List Field} {b : Bool}, allB f l = some b → allB g l = some b
  | [], b, h => h
  | x :: r, b, h => by
    unfold allB at h ⊢
    split at h
    · rename_i hn
      rw [if_pos hn]
      cases hf : f x with
      | none => rw [hf] at h; cases h
      | some p =>
        rw [hf] at h
        rw [H x p hf]
        cases p with
        | true => exact allB_congr H h
        | false => exact h
    · rename_i hn
      rw [if_neg hn]
      exact allB_congr H h
theorem eqE_ok : ∀ (d : Nat) (t : TypeId) (x y : AV) (b : Bool), eqE P d t x y = some b → aEq P d t x y = some b
  | 0, _, _, _, _, h => by simp [eqE] at h
  | d + 1, t, x, y, b, h => by
    unfold eqE at h
    split at h
    · cases h
    · rename_i d' t' xs ys heq
      cases heq
      split at h
      · rename_i fs hu
        split at h
        · cases h
        · rename_i hp
          unfold aEq
          simp only [hu, if_neg hp]
          refine allB_congr (fun g q hg => ?_) (allE_ok h)
          split at hg
          · rename_i a c h1 h2
            rw [h1, h2]
            exact eqE_ok _ _ _ _ _ hg
          · cases hg
      · cases h
    · rename_i d' t' heq hne
      cases heq
      exact h

/-! ### Operations that write nothing -/
theorem dflt_ok {H : AH} {tm : TM} {op : Op} {tr : Tc} {k : AV → List Nat → Tc → Prop} (h : dflt P H tm op tr k) : ∃ v ns tr', aEarly P H tm op = some (v, ns) ∧ k v ns tr' := by
  unfold dflt at h
  split at h
  · exact ⟨_, _, _, by assumption, h⟩
  · exact h.elim
theorem rdAt_ok {H : AH} {t : TypeId} {n off : Nat} {v : AV} (ha : aggT P t = some false) (h : rdAt H n off = some v) : aLoad P H t n off = some v := by
  unfold rdAt at h
  unfold aLoad
  split at h
  · rename_i heq; simp only [heq, ha]; exact h
  · cases h
theorem rdSeg_ok {H : AH} {t : TypeId} {n off sz : Nat} {l : List AV} (ha : aggT P t = some true) (hs : szOf P t = some sz) (h : rdSeg H n off sz = some l) : aLoad P H t n off = some (.agg l) := by
  unfold rdSeg at h
  unfold aLoad
  split at h
  · rename_i heq
    simp only [heq, ha, hs]
    split at h
    · rename_i hle
      rw [if_pos hle]
      simp only [Option.some.injEq] at h ⊢
      rw [h]
    · cases h
  · cases h
theorem eVC_ok {H : AH} {tm : TM} {op : Op} {tr : Tc} {k : AV → List Nat → Tc → Prop} (h : eVC P H tm op tr k) : ∃ v ns tr', aEarly P H tm op = some (v, ns) ∧ k v ns tr' := by
  unfold eVC at h
  split at h
  · -- load
    split at h
    · rename_i hx
      split at h
      · split at h
        · rename_i ha
          split at h
          · rename_i hs
            exact ⟨_, _, _, by simp [aEarly, eLoad, hx, rdSeg_ok ha hs h.1], h.2⟩
          · exact h.elim
        · rename_i ha
          exact ⟨_, _, _, by simp [aEarly, eLoad, hx, rdAt_ok ha h.1], h.2⟩
        · exact h.elim
      · exact h.elim
    · exact h.elim
  · -- indexAddr
    split at h
    · rename_i e hu
      split at h
      · rename_i z hz
        split at h
        · split at h
          · rename_i x k' i hx hi
            obtain ⟨⟨h1, q, h2, h3⟩, h4⟩ := h
            refine ⟨_, _, _, ?_, h4⟩
            cases x <;> simp [slBase, aLenOf] at h1 h2
            all_goals
              obtain ⟨rfl, rfl⟩ := h1
              subst h2
              simp [aEarly, eIndexAddr, hx, hi, aIndexAt, hu, hz, h3]
          · exact h.elim
        · split at h
          · rename_i hx hi
            exact ⟨_, _, _, by simp [aEarly, eIndexAddr, hx, hi, aIndexAt, hu, hz, h.1], h.2⟩
          · rename_i hx hi
            exact ⟨_, _, _, by simp [aEarly, eIndexAddr, hx, hi, aIndexAt, hu, hz, h.1], h.2⟩
          · exact h.elim
      · exact h.elim
    · rename_i len e hu
      split at h
      · rename_i z hz
        split at h
        · rename_i hx hi
          exact ⟨_, _, _, by simp [aEarly, eIndexAddr, hx, hi, aIndexAt, hu, hz, h.1], h.2⟩
        · exact h.elim
      · exact h.elim
    · exact h.elim
  · -- index
    split at h
    · rename_i s k' i hx hi
      split at h
      · rename_i hu
        obtain ⟨⟨h1, h2⟩, h3⟩ := h
        refine ⟨_, _, _, ?_, h3⟩
        have hlt : i.toNat < s.length := by omega
        simp [aEarly, eIndex, hx, hi, aIndex, hu, h1, List.getD_eq_getElem?_getD, List.getElem?_eq_getElem hlt]
      · exact h.elim
    · rename_i hx hi
      split at h
      · rename_i hv
        exact ⟨_, _, _, by simp [aEarly, eIndex, hx, hi, hv], h⟩
      · exact h.elim
    · exact h.elim
  · -- slice
    split at h
    · rename_i hx hl hh hm
      split at h
      · exact ⟨_, _, _, by simp [aEarly, eSlice, hx, hl, hh, hm, h.1], h.2⟩
      · exact h.elim
    · exact h.elim
  · -- lookup
    split at h
    · rename_i hm hx hi
      cases hk : keyOk P 9 _ _ with
      | false => rw [hk] at h; exact h.elim
      | true =>
        rw [hk] at h
        simp only [cond_true] at h
        split at h
        · rename_i hz
          exact ⟨_, _, _, by simp [aEarly, eLookup, hm, hx, hi, hk, hz], h⟩
        · exact h.elim
    · rename_i hm hx hi
      cases hk : keyOk P 9 _ _ with
      | false => rw [hk] at h; exact h.elim
      | true =>
        rw [hk] at h
        simp only [cond_true] at h
        split at h
        · obtain ⟨⟨es, c, i, h1, h2⟩, h3⟩ := h
          exact ⟨_, _, _, by simp [aEarly, eLookup, hm, hx, hi, hk, h1, h2], h3⟩
        · obtain ⟨⟨es, c, h1, h2⟩, h3⟩ := h
          split at h3
          · rename_i hz
            exact ⟨_, _, _, by simp [aEarly, eLookup, hm, hx, hi, hk, h1, h2, hz], h3⟩
          · exact h3.elim
        · exact h.elim
    · exact h.elim
  · -- pick
    split at h
    · rename_i x hc
      obtain ⟨tr', h⟩ := ask_ok h
      cases x with
      | true =>
        simp only [cond_true] at h
        split at h
        · rename_i hv
          exact ⟨_, _, _, by simp [aEarly, ePick, hc, boolOf, hv], h⟩
        · exact h.elim
      | false =>
        simp only [cond_false] at h
        split at h
        · rename_i hv
          exact ⟨_, _, _, by simp [aEarly, ePick, hc, boolOf, hv], h⟩
        · exact h.elim
    · exact h.elim
  · -- entry
    split at h
    · rename_i hx
      exact ⟨_, _, _, by simp [aEarly, hx, h.1], h.2⟩
    · exact h.elim
  · -- binOp
    split at h
    · split at h
      · rename_i hx hy
        exact ⟨_, _, _, by simp [aEarly, eBin, hx, hy, h.1.1, h.1.2], h.2⟩
      · exact h.elim
    split at h
    · rename_i hx hy
      split at h
      · rename_i hj
        subst hj
        exact ⟨_, _, _, by simp [aEarly, eBin, hx, hy, guardOk, aBin, isSym, aBinC, aInt, h.1], h.2⟩
      · exact h.elim
    · rename_i hx hy
      split at h
      · rename_i hj
        subst hj
        exact ⟨_, _, _, by simp [aEarly, eBin, hx, hy, guardOk, aBin, isSym, aBinC, aInt, h.1], h.2⟩
      · exact h.elim
    · rename_i a b hx hy
      cases hg : guardOk P _ _ _ _ _ _ with
      | false => rw [hg] at h; exact h.elim
      | true =>
        rw [hg] at h
        simp only [cond_true] at h
        split at h
        · rename_i v hv
          exact ⟨_, _, _, by simp [aEarly, eBin, hx, hy, hg, aBin, isSym, aBinC, aEqual, eqE_ok _ _ _ _ _ hv], h⟩
        · exact h.elim
    · rename_i a b hx hy
      cases hg : guardOk P _ _ _ _ _ _ with
      | false => rw [hg] at h; exact h.elim
      | true =>
        rw [hg] at h
        simp only [cond_true] at h
        split at h
        · rename_i v hv
          exact ⟨_, _, _, by simp [aEarly, eBin, hx, hy, hg, aBin, isSym, aBinC, aEqual, eqE_ok _ _ _ _ _ hv], h⟩
        · exact h.elim
    · exact dflt_ok h
  · -- len
    split at h
    · split at h
      · rename_i ht ha
        exact ⟨_, _, _, by simp only [aEarly, eBuiltin, ht, ha, h.1], h.2⟩
      · exact h.elim
    · split at h
      · rename_i t r n r2 ht ha
        split at h
        · rename_i hu
          obtain ⟨⟨es, c, h1⟩, h2⟩ := h
          refine ⟨_, _, _, ?_, h2⟩
          simp [aEarly, eBuiltin, ht, ha, aLen, hu, h1, mapLen]
        · exact h.elim
      · exact dflt_ok h
  · exact dflt_ok h
theorem isE_none {H : AH} {tm : TM} {op : Op} (h : isE P op = false) : aEarly P H tm op = none := by
  cases op with
  | call c =>
    obtain ⟨callee, args, ts⟩ := c
    cases callee with
    | builtin b => cases b <;> first | rfl | (exact absurd h (by simp [isE]))
    | _ => rfl
  | convert s d x =>
    unfold isE at h
    split at h
    all_goals first | (rename_i heq; cases heq; done) | skip
    all_goals first | (cases h; done) | skip
    · rename_i s' d' x' heq
      split at h
      · rename_i e hs hd
        cases heq
        simp only [aEarly, eConvert, eConv, eText, hs, hd]
      · cases h
    all_goals (exfalso; simp_all)
  | makeFunc f a b => cases f <;> first | rfl | (exact absurd h (by simp [isE]))
  | _ => first | rfl | (exact absurd h (by simp [isE]))

/-! ### Operations that write -/
theorem one_ok {rs : Option (List AR)} {r : AR} {t : Tc} {k : AR → Tc → Prop} (h : rs = some [r]) (g : k r t) : ∃ l, rs = some l ∧ ∀ r ∈ l, ∃ tr', k r tr' :=
  ⟨_, h, fun x hx => ⟨t, (List.mem_singleton.1 hx) ▸ g⟩⟩
theorem wdflt_ok {H : AH} {tm : TM} {op : Op} {tr : Tc} {k : AR → Tc → Prop} (h : wdflt P H tm op tr k) : ∃ rs, aW P H tm op = some rs ∧ ∀ r ∈ rs, ∃ tr', k r tr' := by
  unfold wdflt at h
  split at h
  · exact one_ok h.1 h.2
  · split at h
    · rename_i hr; exact one_ok hr h
    · exact h.elim
theorem mset_ok {H : AH} {t kt et : TypeId} {n : Nat} {key v : AV} (hm : mapK P t = some (kt, et)) (hk : keyOk P 9 kt key = true) (h : MsOk P H n kt key) : aMapPut P H t (.map n) key v = some [(.skip, mset P H n kt key v, [n])] := by
  obtain ⟨es, c, r, h1, h2, h3⟩ := h
  unfold aMapPut mset
  simp only [hm, h1, hk, h2, if_true]
  cases r with
  | none => rfl
  | some x =>
    obtain ⟨i, v'⟩ := x
    obtain ⟨e, he, hs⟩ := h3 i v' rfl
    simp only [he, hs, if_true]
theorem stO_ok {H : AH} {t : TypeId} {n off sz : Nat} {v : AV} (hs : szOf P t = some sz) (h1 : v.cells.length = sz) (h2 : v.cells.all AV.single = true) (h : StOk H n off sz) : aStore P H t n off v = some (.skip, stO H n off v.cells, n :: stOld H n) := by
  obtain ⟨cells, e, ex, old, h3, h4⟩ := h
  unfold aStore stO stOld
  simp only [h3, hs]
  rw [if_pos]
  simp [h1, h4]
  simpa using h2
theorem next_ok {H : AH} {n m since last clock : Nat} {seen : List Nat} {es : List (AV × AV × Nat)} (h1 : H.get n = some (.iter (some m) since seen last)) (h2 : H.get m = some (.map es clock)) (h3 : NxOk last seen es) :
    ∃ rs, aNext H (.ptr n 0) = some rs ∧ ∀ r ∈ rs, (r = (.val (.tuple [.bool false]), H, []) ∧ ∀ e ∈ es, seen.contains e.2.2 = false → since ≤ e.2.2) ∨
      ∃ e ∈ es, seen.contains e.2.2 = false ∧ r = (.val (.tuple [.bool true, e.1, e.2.1]), H.put n (.iter (some m) since (seen ++ [e.2.2]) clock), [n]) := by
  unfold aNext
  simp only [h1, h2]
  rw [if_neg]
  · refine ⟨_, rfl, fun r hr => ?_⟩
    rcases List.mem_append.1 hr with hr | hr
    · left
      split at hr
      · rename_i hem
        simp only [List.mem_singleton] at hr
        refine ⟨hr, fun e he hs => ?_⟩
        rcases Nat.lt_or_ge e.2.2 since with hlt | hge
        · exfalso
          have : e ∈ (List.filter (fun e => Nat.blt e.2.2 since) (List.filter (fun e => !seen.contains e.2.2) es)) := by
            rw [List.mem_filter, List.mem_filter]
            exact ⟨⟨he, by rw [hs]; rfl⟩, by simpa [Nat.blt_eq] using hlt⟩
          rw [List.isEmpty_iff] at hem
          rw [hem] at this
          cases this
        · exact hge
      · cases hr
    · right
      obtain ⟨e, he, rfl⟩ := List.mem_map.1 hr
      have : e ∈ List.filter (fun e => !seen.contains e.2.2) es := by
        rcases List.mem_append.1 he with he | he
        · exact (List.mem_filter.1 he).1
        · exact (List.mem_filter.1 he).1
      obtain ⟨q1, q2⟩ := List.mem_filter.1 this
      exact ⟨e, q1, by simpa using q2, rfl⟩
  · rcases h3 with h3 | h3 | ⟨e, he, hlt⟩
    · subst h3; simp
    · subst h3; simp
    · intro hc
      simp only [Bool.and_eq_true, List.all_eq_true] at hc
      have := hc.2 e he
      rw [Nat.ble_eq] at this
      omega
theorem wVC_ok {H : AH} {tm : TM} {op : Op} {tr : Tc} {k : AR → Tc → Prop} (h : wVC P H tm op tr k) : ∃ rs, aW P H tm op = some rs ∧ ∀ r ∈ rs, ∃ tr', k r tr' := by
  unfold wVC at h
  split at h
  · -- store
    split at h
    · rename_i n off v ha hx
      split at h
      · rename_i sz hg hs
        split at h
        · rename_i l
          cases hc : (Nat.beq l.length sz && l.all AV.single) with
          | false => rw [hc] at h; exact h.elim
          | true =>
            rw [hc] at h
            rw [Bool.and_eq_true] at hc
            have := stO_ok (H := H) (n := n) (off := off) (v := .agg l) hs (Nat.eq_of_beq_eq_true hc.1) hc.2 h.1
            exact one_ok (by simp [aW, wStore, ha, hx, this]; rfl) h.2
        · exact h.elim
      · rename_i hg hs
        obtain ⟨h1, h2, h3⟩ := h
        have hv : v.cells = [v] := by cases v <;> first | rfl | cases h1
        have := stO_ok (H := H) (n := n) (off := off) (v := v) hs (by rw [hv]; rfl) (by rw [hv]; simp [h1]) h2
        rw [hv] at this
        exact one_ok (by simp [aW, wStore, ha, hx, this]) h3
      · exact h.elim
    · exact h.elim
  · -- mapUpdate
    split at h
    · rename_i kt et n key v hm hx hk hv
      cases hc : keyOk P 9 kt key with
      | false => rw [hc] at h; exact h.elim
      | true =>
        rw [hc] at h
        exact one_ok (by simp only [aW, wMapPut, hx, hk, hv, mset_ok hm hc h.1]) h.2
    · exact h.elim
  · -- insert
    split at h
    · rename_i kt et n key v hm hx hk hv
      cases hc : keyOk P 9 kt key with
      | false => rw [hc] at h; exact h.elim
      | true =>
        rw [hc] at h
        exact one_ok (by simp only [aW, wMapPut, hx, hk, hv, mset_ok hm hc h.1]) h.2
    · exact h.elim
  · -- makeSlice
    split at h
    · rename_i e j l j' c hu hl hc
      split at h
      · rename_i size z hs hz
        cases hq : (Nat.beq z.cells.length size && Nat.blt 0 size) with
        | false => rw [hq] at h; exact h.elim
        | true =>
          rw [hq] at h
          rw [Bool.and_eq_true] at hq
          obtain ⟨⟨q1, q2, q3, q4⟩, h2⟩ := h
          refine one_ok ?_ h2
          have e1 := Nat.eq_of_beq_eq_true hq.1
          have e2 : 0 < size := by simpa [Nat.blt_eq] using hq.2
          simp only [aW, wMakeSlice, hu, hl, hc, hs, hz]
          rw [if_pos]
          simp [q1, q2, q3, q4, e1, e2]
      · exact h.elim
    · exact h.elim
  · -- range
    split at h
    · rename_i hm hx
      exact one_ok (by simp [aW, wRange, hm, hx]) h
    · rename_i hm hx
      obtain ⟨⟨es, c, h1⟩, h2⟩ := h
      refine one_ok ?_ h2
      simp [aW, wRange, hm, hx, h1, mapClock]
    · exact h.elim
  · -- next
    split at h
    · rename_i n m since seen last es clock X f t0 t1 hx
      obtain ⟨h1, h2, h3, h4, h5, h6⟩ := h
      obtain ⟨rs, q1, q2⟩ := next_ok h1 h2 h3
      refine ⟨rs, by simp [aW, hx, q1], fun r hr => ?_⟩
      rcases q2 r hr with ⟨rfl, q⟩ | ⟨e, he, hs, rfl⟩
      · exact ⟨_, h5 q⟩
      · obtain ⟨x, rfl⟩ := h4 e he
        exact ⟨_, h6 x he hs⟩
    · rename_i hx
      exact one_ok (by simp [aW, hx, aNext, h.1]) h.2
    · exact h.elim
  · -- call
    split at h
    · rename_i l as hf ha
      split at h
      · rename_i st j fn tm' ps b1 b2 d t
        obtain ⟨h1, h2⟩ := h
        cases hq : Nat.beq as.length ps.size with
        | false => rw [hq] at h2; exact h2.elim
        | true =>
          rw [hq] at h2
          exact one_ok (by simp [aW, wCall, hf, ha, aCall, h1, Nat.eq_of_beq_eq_true hq]) h2
      · exact h.elim
    · exact wdflt_ok h
  · split at h
    · rename_i ha; exact one_ok (by simp [aW, wBuiltin, ha, h.1]) h.2
    · exact h.elim
  · split at h
    · rename_i ha; exact one_ok (by simp [aW, wBuiltin, ha, h.1]) h.2
    · exact h.elim
  · split at h
    · rename_i ha; exact one_ok (by simp [aW, wBuiltin, ha, h.1]) h.2
    · exact h.elim
  · split at h
    · rename_i h1 h2; exact one_ok (by simp [aW, wMapEntry, h1, h2, h.1]) h.2
    · exact h.elim
  · split at h
    · rename_i h1 h2 h3; exact one_ok (by simp [aW, wEntryStore, h1, h2, h3, h.1]) h.2
    · exact h.elim
  · exact wdflt_ok h

/-! ### What is wanted -/
theorem wanted_ok {ops : Array Oper} {lit : List Nat} {tm : TM} {o : Oper} {tr : Tc} {k : Bool → List Nat → TM → Tc → Prop} {pc : List (SB × Bool)} (h : wanted ops lit tm o tr k) : ∃ w lit' tr', aWanted pc ops tm o = some w ∧ k w lit' tm tr' := by
  unfold wanted at h
  unfold aWanted
  split at h
  · rename_i hg; rw [hg]; exact ⟨_, _, _, rfl, h⟩
  · rename_i j want hg
    rw [hg]
    simp only
    split at h
    · rename_i hd; rw [hd]; exact ⟨_, _, _, rfl, h⟩
    · rename_i d hd
      rw [hd]
      simp only
      split at h
      · rename_i b hb
        rw [hb]
        simp only
        cases hl : lit.contains d with
        | true => rw [hl] at h; exact ⟨_, _, _, rfl, h⟩
        | false =>
          rw [hl] at h
          simp only [cond_false] at h
          obtain ⟨tr', h⟩ := ask_ok h
          rw [TM.set_self hb] at h
          exact ⟨_, _, _, rfl, h⟩
      · exact h.elim
      · exact h.elim
      · rename_i hb; rw [hb]; exact ⟨_, _, _, rfl, h⟩
      · exact h.elim
/-- What was asked for. -/
theorem resVC_ok {H : AH} {tm : TM} : ∀ {l : List ResultVar} {tr : Tc} {k : List AV → Prop}, resVC P H tm l tr k → ∃ vs, aResults P H tm l = some vs ∧ k vs
  | [], _, _, h => ⟨_, rfl, h⟩
  | .tmp t :: rs, tr, k, h => by
    unfold resVC at h
    obtain ⟨vs, h1, h2⟩ := resVC_ok h
    exact ⟨_, by simp [aResults, aResult, h1], h2⟩
  | .cell a t :: rs, tr, k, h => by
    unfold resVC at h
    split at h
    · rename_i n off ha
      split at h
      · split at h
        · rename_i hg
          split at h
          · rename_i hs
            obtain ⟨vs, h1, h2⟩ := resVC_ok h.2
            exact ⟨_, by simp [aResults, aResult, h1, ha, rdSeg_ok hg hs h.1], h2⟩
          · exact h.elim
        · rename_i hg
          obtain ⟨vs, h1, h2⟩ := resVC_ok h.2
          exact ⟨_, by simp [aResults, aResult, h1, ha, rdAt_ok hg h.1], h2⟩
        · exact h.elim
      · exact h.elim
    · exact h.elim
theorem retVC_ok {H : AH} {f : AFr} {tr : Tc} {k : AV → Prop} (h : retVC P H f tr k) : ∃ v, resultOf P H f = some v ∧ k v := by
  unfold retVC at h
  unfold resultOf
  split at h
  · rename_i hf
    obtain ⟨vs, h1, h2⟩ := resVC_ok h
    rw [hf]
    simp only [h1, Option.map_some]
    match vs, h2 with
    | [], h2 => exact ⟨_, rfl, h2⟩
    | [v], h2 => exact ⟨_, rfl, h2⟩
    | a :: b :: l, h2 => exact ⟨_, rfl, h2⟩
  · exact h.elim
end
end Go.Sy
/- What is left to be shown of a run is enough: THE RUN. -/
set_option linter.unusedVariables false
set_option linter.unusedSimpArgs false
namespace Go.Sy
open Go Go.Sx Go.RowKit
section
variable {P : Program} {w0 : World} {f0 : FuncId} {K : AM → Prop} {Kr : AV → AH → Prop} {below0 : List AFr}
/-- The frames above those that were there. -/
def Deep (below0 : List AFr) (d : Nat) (below : List AFr) : Prop := ∃ fs : List AFr, fs.length = d ∧ below = fs ++ below0
theorem Deep.zero {b : List AFr} (h : Deep below0 0 b) : b = below0 := by
  obtain ⟨fs, h1, rfl⟩ := h
  rw [List.length_eq_zero_iff.1 h1]; rfl
theorem Deep.push {d : Nat} {b : List AFr} (h : Deep below0 d b) (f : AFr) : Deep below0 (d + 1) (f :: b) := by
  obtain ⟨fs, h1, rfl⟩ := h
  exact ⟨f :: fs, by simp [h1], rfl⟩
theorem Deep.pop {d : Nat} {b : List AFr} {f : AFr} (h : Deep below0 (d + 1) (f :: b)) : Deep below0 d b := by
  obtain ⟨fs, h1, h2⟩ := h
  cases fs with
  | nil => simp at h1
  | cons x xs =>
    simp only [List.cons_append, List.cons.injEq] at h2
    exact ⟨xs, by simpa using h1, h2.2⟩
theorem applyAll_of {wait : AFr} {below : List AFr} {pend : List Nat} {H : AH} {Q : AM → Prop} : ∀ (rs : List AR), (∀ r ∈ rs, ∃ B, apply P wait below pend H r = some B ∧ Q B) → ∃ l, applyAll P wait below pend H rs = some l ∧ ∀ B ∈ l, Q B
  | [], _ => ⟨[], rfl, fun _ h => by cases h⟩
  | r :: rs, h => by
    obtain ⟨B, h1, h2⟩ := h r (by simp)
    obtain ⟨l, h3, h4⟩ := applyAll_of rs fun r hr => h r (by simp [hr])
    refine ⟨B :: l, by simp [applyAll, h1, h3], fun C hC => ?_⟩
    rcases List.mem_cons.1 hC with rfl | hC
    · exact h2
    · exact h4 C hC
theorem det_ok {run : AM → Tc → Prop} {l : Option (List AM)} {tr : Tc} (h : det run l tr) : ∃ B, l = some [B] ∧ run B tr := by
  unfold det at h
  split at h
  · exact ⟨_, rfl, h⟩
  · exact h.elim
theorem cond_elim {b : Bool} {x y : Prop} (h : bif b then x else y) : (b = true ∧ x) ∨ (b = false ∧ y) := by
  cases b with
  | true => exact .inl ⟨rfl, h⟩
  | false => exact .inr ⟨rfl, h⟩
theorem cond_false_elim {b : Bool} {x : Prop} (h : bif b then x else False) : b = true ∧ x := by
  rcases cond_elim h with h | h
  · exact h
  · exact h.2.elim
theorem cond_false_elim' {b : Bool} {x : Prop} (h : bif b then False else x) : b = false ∧ x := by
  rcases cond_elim h with h | h
  · exact h.2.elim
  · exact h
theorem aOk_ok {H : AH} {pend ns : List Nat} (h : match ns with | [] => True | ns => AOk H pend ns) : apartOk H pend ns = true := by
  cases ns with
  | nil => unfold apartOk; simp
  | cons a b => exact h
theorem operVC_ok (hP : Fine P) {K' : AM → Prop} {run : Nat → List Nat → AM → Tc → Prop} (hrun : ∀ d lit B tr, Deep below0 d B.below → run d lit B tr → Leads P w0 K' B) {d : Nat} {lit : List Nat} {wait : AFr} {below : List AFr} {H : AH} {ops : Array Oper} {o : Oper} {tr : Tc}
    (hret : wait.ret = false) (hb : Deep below0 d below) (h : operVC P w0 run d lit wait below H ops o tr) : ∃ l, aOper P wait below H ops o = some l ∧ ∀ B ∈ l, Leads P w0 K' B := by
  unfold operVC at h
  obtain ⟨w, lit, tr, hw, h⟩ := wanted_ok (pc := H.pc) h
  have hfin : ∀ {H : AH} {v : AV} {tr : Tc}, (match wait.finish v with | some f => run d (litPut lit o.dst) ⟨f, below, H⟩ tr | none => False) → ∃ f, wait.finish v = some f ∧ Leads P w0 K' ⟨f, below, H⟩ := by
    intro H v tr h
    split at h
    · rename_i f hf; exact ⟨f, hf, hrun _ _ _ _ hb h⟩
    · exact h.elim
  unfold aOper
  rw [hw]
  cases w with
  | true =>
    simp only [cond_true] at h ⊢
    cases he : isE P o.op with
    | true =>
      rw [he] at h
      simp only [cond_true] at h
      obtain ⟨v, ns, tr', h1, h2⟩ := eVC_ok h
      obtain ⟨f, hf, hl⟩ := hfin h2
      rw [h1]
      exact ⟨[⟨f, below, H⟩], by simp [hf], fun B hB => by rw [List.mem_singleton.1 hB]; exact hl⟩
    | false =>
      rw [he] at h
      simp only [cond_false] at h
      rw [isE_none he]
      simp only
      split at h
      · rename_i f args ts hop
        split at h
        · rename_i B hB
          have h1 := hB
          rw [hop]
          refine ⟨_, hB, fun C hC => ?_⟩
          rw [List.mem_singleton.1 hC]
          unfold aDefer at hB
          split at hB
          · split at hB
            · obtain ⟨f', _, hf'⟩ := Option.map_eq_some_iff.1 hB
              injection hf' with hf'
              subst hf'
              exact hrun _ _ _ _ hb h
            · cases hB
          · cases hB
        · exact h.elim
      · rename_i x hop
        split at h
        · rename_i B hB
          rw [hop]
          refine ⟨_, hB, fun C hC => ?_⟩
          rw [List.mem_singleton.1 hC]
          unfold aPanic at hB
          split at hB
          · simp only [Option.some.injEq, List.cons.injEq, and_true] at hB
            subst hB
            exact hrun _ _ _ _ hb h
          · cases hB
        · exact h.elim
      · rename_i args ts hop
        obtain ⟨hdz, h⟩ := cond_false_elim' h
        split at h
        · rename_i B hB
          rw [hop]
          refine ⟨_, hB, fun C hC => ?_⟩
          rw [List.mem_singleton.1 hC]
          refine hrun _ _ _ _ ?_ h
          unfold aRecover at hB
          split at hB
          · cases hB
          · split at hB
            · split at hB
              · split at hB
                · split at hB
                  · obtain ⟨f', _, hf'⟩ := Option.map_eq_some_iff.1 hB
                    injection hf' with hf'
                    subst hf'
                    cases d with
                    | zero => have hd : wait.dfr = true := by assumption
                              exfalso; simp [hd] at hdz
                    | succ d => exact (hb.pop).push _
                  · obtain ⟨f', _, hf'⟩ := Option.map_eq_some_iff.1 hB
                    injection hf' with hf'
                    subst hf'
                    exact hb
                · cases hB
              · cases hB
            · obtain ⟨f', _, hf'⟩ := Option.map_eq_some_iff.1 hB
              injection hf' with hf'
              subst hf'
              exact hb
        · exact h.elim
      · rename_i hn1 hn2 hn3
        obtain ⟨rs, hrs, hk⟩ := wVC_ok h
        have key : ∀ r ∈ rs, ∃ B, apply P wait below (framePend wait ++ stackPend below) H r = some B ∧ Leads P w0 K' B := by
          intro r hr
          obtain ⟨tr', h1, h2⟩ := hk r hr
          have h1 : apartOk H (framePend wait ++ stackPend below) r.2.2 = true := by
            rcases cond_elim h1 with ⟨_, h1⟩ | ⟨_, h1⟩
            · exact h1
            · exact aOk_ok h1
          unfold apply
          rw [if_pos h1]
          obtain ⟨an, H', ns⟩ := r
          simp only at h2 ⊢
          cases an with
          | val v => obtain ⟨f, hf, hl⟩ := hfin h2; exact ⟨_, by simp [hf], hl⟩
          | skip => obtain ⟨f, hf, hl⟩ := hfin h2; exact ⟨_, by simp [hf], hl⟩
          | enter g args =>
            simp only at h2
            split at h2
            · split at h2
              · rename_i fr hfr
                exact ⟨_, by simp only [hfr, Option.map_some], hrun _ _ _ _ (hb.push wait) h2⟩
              · exact h2.elim
            · obtain ⟨h30, h3, h4, h5⟩ := cond_false_elim h2
              cases hfr : enterFr P g args with
              | none => rw [hfr] at h30; cases h30
              | some fr =>
                refine ⟨⟨fr, wait :: below, H'⟩, by simp only [hfr, Option.map_some], ?_⟩
                intro base M hM
                obtain ⟨M1, s1, E1, w1, frm, cs, v, c, H1, rfl, hh1, hfs1, _, hlv, hcv, x, rfl, hx⟩ := h3 fr hfr (wait :: below) h4 base M hM
                cases hfs1 with
                | cons hcf hcfs =>
                  obtain ⟨f, hf, hl⟩ := hfin (h5 x H1 hx)
                  obtain ⟨h6, _⟩ := finish_ok hcf hret hcv hf
                  obtain ⟨A', M2, q1, q2, q3⟩ := hl base _ (MR.mk (A := ⟨_, _, _⟩) hh1 h6 hcfs)
                  exact ⟨A', M2, (s1.trans (Steps.one (step_leave_returned hlv))).trans q1, q2, q3⟩
            · exact h2.elim
          | round l fn tm as bd =>
            simp only at h2
            split at h2
            · exact ⟨_, rfl, hrun _ _ _ _ (hb.push wait) h2⟩
            · exact h2.elim
        obtain ⟨l, h1, h2⟩ := applyAll_of rs key
        refine ⟨l, ?_, h2⟩
        split
        · rename_i f args ts hop; exact absurd hop (hn1 _ _ _)
        · rename_i x hop; exact absurd hop (hn2 _)
        · rename_i args ts hop; exact absurd hop (hn3 _ _)
        · rw [hrs]; exact h1
  | false =>
    simp only [cond_false] at h ⊢
    obtain ⟨f, hf, hl⟩ := hfin h
    exact ⟨[⟨f, below, H⟩], by simp [hf], fun B hB => by rw [List.mem_singleton.1 hB]; exact hl⟩
theorem each_ok {α : Type} {k : α → Tc → Prop} : ∀ (l : List α) (tr : Tc), each k l tr → ∀ x ∈ l, ∃ tr', k x tr'
  | [], _, _, x, hx => by cases hx
  | [y], tr, h, x, hx => by rw [List.mem_singleton.1 hx]; exact ⟨lastT tr, h⟩
  | y :: z :: l, tr, h, x, hx => by
    cases tr with
    | ord ts =>
      cases ts with
      | nil => exact h.elim
      | cons t ts =>
        obtain ⟨h1, h2⟩ := h
        rcases List.mem_cons.1 hx with rfl | hx
        · exact ⟨t, h1⟩
        · exact each_ok (z :: l) _ h2 x hx
    | _ => exact h.elim
theorem one_mem {l : List Nat} {k : Nat → Tc → Prop} {tr : Tc} (h : one l k tr) : l ≠ [] → ∀ i ∈ l, ∃ tr', k i tr' := by
  intro _ i hi
  unfold one at h
  split at h
  · exact h.elim
  · rw [List.mem_singleton.1 hi]; exact ⟨_, h⟩
  · exact each_ok _ _ h i hi
  · exact h.elim
theorem catAll_of {Q : AM → Prop} : ∀ (xs : List (Option (List AM))), (∀ x ∈ xs, ∃ l, x = some l ∧ ∀ B ∈ l, Q B) → ∃ l, catAll xs = some l ∧ ∀ B ∈ l, Q B
  | [], _ => ⟨[], rfl, fun _ h => by cases h⟩
  | x :: xs, h => by
    obtain ⟨l, rfl, h2⟩ := h x (by simp)
    obtain ⟨m, h3, h4⟩ := catAll_of xs fun y hy => h y (by simp [hy])
    refine ⟨l ++ m, by simp [catAll, h3], fun B hB => ?_⟩
    rcases List.mem_append.1 hB with hB | hB
    · exact h2 B hB
    · exact h4 B hB
theorem stepCode_below {A B : AM} {k : List AIt} {c : Code} (h : stepCode P A k c = some [B]) (h1 : ∀ a b c', c ≠ .cond a b c') (h2 : c ≠ .ret) (h3 : ∀ id, c ≠ .exit id) (h4 : ∀ a b c' d, c ≠ .rangeFunc a b c' d) : B.below = A.below := by
  unfold stepCode at h
  split at h
  · exact absurd rfl h2
  · simp only [Option.some.injEq, List.cons.injEq, and_true] at h; subst h; rfl
  · simp only [Option.some.injEq, List.cons.injEq, and_true] at h; subst h; rfl
  · simp only [Option.some.injEq, List.cons.injEq, and_true] at h; subst h; rfl
  · exact absurd rfl (h1 _ _ _)
  · simp only [Option.some.injEq, List.cons.injEq, and_true] at h; subst h; rfl
  · simp only [Option.some.injEq, List.cons.injEq, and_true] at h; subst h; rfl
  · exact absurd rfl (h3 _)
  · split at h
    · split at h
      · simp only [Option.some.injEq, List.cons.injEq, and_true] at h; subst h; rfl
      · cases h
    · simp only [Option.some.injEq, List.cons.injEq, and_true] at h; subst h; rfl
  · exact absurd rfl (h4 _ _ _ _)
  · cases h
theorem leave_none {A B : AM} {j : Option Code} (hr : A.top.rnd = none) (h : leave A j = some [B]) : B.below = A.below := by
  unfold leave at h
  rw [hr] at h
  simp only at h
  split at h
  · simp only [Option.some.injEq, List.cons.injEq, and_true] at h; subst h; rfl
  · simp only [Option.some.injEq, List.cons.injEq, and_true] at h; subst h; rfl
  · cases h
theorem leave_rnd {A : AM} {j : Option Code} {l : Nat} {st : LoopState} {j0 : Option Code} {fn : FuncId} {tm : TM} {ps : Array Tmp} {as bd : Code} {ld : Nat} {c c' : AFr} {cs : List AFr} (hr : A.top.rnd = some l) (hg : A.H.get l = some (.loop st j0 fn tm ps as bd ld)) (hok : AOk A.H (stackPend A.below) [l]) (hb : A.below = c :: cs)
    (hd : (A.top.dfr || c.ret) = false) (hc : c.finish (.bool j.isNone) = some c') : leave A j = some [⟨c', cs, A.H.put l (.loop (if j.isNone then .ready else .done) j fn tm ps as bd ld)⟩] := by
  unfold AOk at hok
  unfold leave
  rw [hr]
  simp only
  rw [hb] at hok ⊢
  simp only [hd, Bool.false_eq_true, if_false, hok, Bool.not_true, endRoundA, hg, Option.bind_some, hc, Option.map_some]
theorem stepRet_dfr_below {A B : AM} {d : Nat} (h : stepRet P A = some [B]) (hdef : A.top.defers = []) (hb : Deep below0 (d + 1) A.below) : Deep below0 d B.below := by
  unfold stepRet at h
  rw [hdef] at h
  simp only at h
  split at h
  · cases h
  · rename_i c cs hbe
    rw [hbe] at hb
    have := hb.pop
    split at h
    · simp only [Option.bind_eq_some_iff] at h
      obtain ⟨v, hv, h⟩ := h
      split at h
      · split at h
        · simp only [Option.some.injEq, List.cons.injEq, and_true] at h; subst h; exact this
        · cases h
      · split at h
        · cases h
        · obtain ⟨c', _, h⟩ := Option.map_eq_some_iff.1 h
          simp only [List.cons.injEq, and_true] at h; subst h; exact this
    · split at h
      · cases h
      · split at h
        · simp only [Option.some.injEq, List.cons.injEq, and_true] at h; subst h; exact this
        · cases h
theorem stepRange_below {A B : AM} {k : List AIt} {g : Operand} {ps : Array Tmp} {as bd : Code} {d : Nat} (h : stepRange P A k g ps as bd = some [B]) (hb : Deep below0 d A.below) : Deep below0 (d + 1) B.below := by
  unfold stepRange at h
  split at h
  · split at h
    · obtain ⟨fr, _, h⟩ := Option.map_eq_some_iff.1 h
      simp only [List.cons.injEq, and_true] at h; subst h; exact hb.push _
    · cases h
  · cases h
theorem trFn_get (z : Nat → AV) : ∀ (f a b n j : Nat), 0 < a → n ≤ b + f → (trFn z f a b n).get j = if b + a * j < n then some (z (b + a * j)) else none
  | 0, a, b, n, j, ha, h => by
    unfold trFn
    rw [Tr.get_leaf, if_neg]
    have : 0 ≤ a * j := Nat.zero_le _
    omega
  | f + 1, a, b, n, j, ha, h => by
    unfold trFn
    cases hb : Nat.blt b n with
    | false =>
      have hb : ¬ b < n := by intro h; rw [← Nat.blt_eq] at h; rw [hb] at h; cases h
      simp only [cond_false]
      rw [Tr.get_leaf, if_neg]
      have : 0 ≤ a * j := Nat.zero_le _
      omega
    | true =>
      have hb : b < n := by rw [Nat.blt_eq] at hb; exact hb
      simp only [cond_true]
      rw [Tr.get_node]
      by_cases h0 : j = 0
      · subst h0; simp [hb]
      · rw [if_neg h0]
        by_cases h2 : j % 2 = 0
        · rw [if_pos h2, trFn_get z f (2 * a) (b + 2 * a) n (j / 2 - 1) (by omega) (by omega)]
          obtain ⟨i, rfl⟩ : ∃ i, j = 2 * i + 2 := ⟨j / 2 - 1, by omega⟩
          have : b + 2 * a + 2 * a * ((2 * i + 2) / 2 - 1) = b + a * (2 * i + 2) := by
            rw [show (2 * i + 2) / 2 - 1 = i by omega, Nat.mul_add, Nat.mul_comm a (2 * i), Nat.mul_comm a 2, Nat.mul_assoc, Nat.mul_assoc, Nat.mul_comm a i]; omega
          rw [this]
        · rw [if_neg h2, trFn_get z f (2 * a) (b + a) n (j / 2) (by omega) (by omega)]
          obtain ⟨i, rfl⟩ : ∃ i, j = 2 * i + 1 := ⟨j / 2, by omega⟩
          have : b + a + 2 * a * ((2 * i + 1) / 2) = b + a * (2 * i + 1) := by
            rw [show (2 * i + 1) / 2 = i by omega, Nat.mul_add, Nat.mul_comm a (2 * i), Nat.mul_assoc, Nat.mul_assoc, Nat.mul_comm a i]; omega
          rw [this]
theorem tz_get (n : Nat) (z : Nat → AV) (i : Nat) : (tz n z).get i = if i < n then z i else .tuple [] := by
  unfold TM.get tz
  simp only
  rw [trFn_get z (n + 1) 1 0 n i (by omega) (by omega)]
  simp only [Nat.zero_add, Nat.one_mul]
  by_cases h : i < n
  · rw [if_pos h, if_pos h]
  · rw [if_neg h, if_neg h]
theorem nthD_leavesF (tm : TM) : ∀ (k i j : Nat), j < k → nthD (leavesF tm k i) j = tm.get (i + j)
  | 0, i, j, h => absurd h (Nat.not_lt_zero _)
  | k + 1, i, 0, _ => rfl
  | k + 1, i, j + 1, h => by
    show nthD (leavesF tm k (i + 1)) j = _
    rw [nthD_leavesF tm k (i + 1) j (by omega)]; congr 1; omega
theorem leavesF_length (tm : TM) : ∀ (k i : Nat), (leavesF tm k i).length = k
  | 0, i => rfl
  | k + 1, i => by simp [leavesF, leavesF_length tm k (i + 1)]
theorem TMR_canon {E : Env} {ι : Val} {tm : TM} {C : Array Value} (h : TMR E ι tm C) : TMR E ι (tl (leavesF tm tm.n 0)) C := by
  have hn : (tl (leavesF tm tm.n 0)).n = tm.n := leavesF_length tm tm.n 0
  refine ⟨h.1.trans hn.symm, fun i => ?_⟩
  unfold tl
  rw [tz_get, leavesF_length]
  by_cases hi : i < tm.n
  · rw [if_pos hi, nthD_leavesF tm tm.n 0 i hi, Nat.zero_add]; exact h.2 i
  · rw [if_neg hi]
    have : C.getD i undef = undef := by
      have := h.1
      rw [Array.getD_eq_getD_getElem?, Array.getElem?_eq_none (by omega)]; rfl
    rw [this]; simp [cv, cvs, undef]
theorem FRel_canon {E : Env} {ι : Val} {w : World} {f : AFr} {fr : Frame} (h : FRel P E ι w f fr) : FRel P E ι w (canonF f) fr := by
  obtain ⟨b, a, ct, V, q⟩ := h
  exact ⟨b, a, ct, V, q.frame, q.fn, q.kind, q.rnd, q.defs, TMR_canon q.tm, q.todo, q.ret⟩
theorem FRs_canon {E : Env} {ι : Val} {w : World} : ∀ (d : Nat) {fs : List AFr} {frs : List Frame}, FRs P E ι w fs frs → FRs P E ι w (canonFs d fs) frs
  | 0, _, _, h => h
  | d + 1, _, _, .nil => .nil
  | d + 1, _, _, .cons h1 h2 => .cons (FRel_canon h1) (FRs_canon d h2)
theorem canon_ok {Q : AM → Prop} {d : Nat} {A : AM} (h : Q (canonA d A)) : Leads P w0 Q A := fun base M hM => by
  obtain ⟨E, w, fr, cs, rfl, hh, q, hfs⟩ := hM
  exact ⟨canonA d A, _, Steps.refl _ _, ⟨E, w, fr, cs, rfl, hh, FRel_canon q, FRs_canon d hfs⟩, h⟩
theorem _root_.Go.Sx.HR.same {B : Base} {w0 : World} {E : Env} {ι : Val} {H H' : AH} {w : World} (h : HR B w0 E ι H w) (g : HSame H H') : HR B w0 E ι H' w :=
  ⟨h.below, h.base, g.nx.trans h.nx, h.inb, fun n o ho => h.obj n o (by rw [← g.get]; exact ho), fun n m o p e d h1 h2 => h.sep n m o p e d (by rw [← g.get]; exact h1) (by rw [← g.get]; exact h2), fun x hx => h.pc x (by rw [← g.pc]; exact hx), fun n o e h1 => h.own n o e (by rw [← g.get]; exact h1), h.ext⟩
/-- THE RUN: what is left to be shown is enough. -/
theorem trun_ok (hP : Fine P) : ∀ (F d : Nat) (lit : List Nat) (A : AM) (tr : Tc), Deep below0 d A.below → trun P w0 f0 K Kr F d lit A tr → Leads P w0 (fun B => K B ∨ RetK P f0 below0 Kr B) A
  | 0, _, _, _, _, _, h => h.elim
  | F + 1, d, lit, A, tr, hb, h => by
    by_cases heq : ∃ i v t, tr = .eq i v t
    · obtain ⟨i, v, t, rfl⟩ := heq
      unfold trun at h
      have := trun_ok hP F d lit ⟨{ A.top with tm := A.top.tm.set i v }, A.below, A.H⟩ t hb h.2
      intro base M hM
      refine this base M ?_
      obtain ⟨E, w, fr, cs, rfl, hh, ⟨b, a, ct, V, q⟩, hfs⟩ := hM
      refine ⟨E, w, fr, cs, rfl, hh, ⟨b, a, ct, V, q.frame, q.fn, q.kind, q.rnd, q.defs, ⟨?_, fun i => ?_⟩, q.todo, q.ret⟩, hfs⟩
      · rw [q.tm.1]; show _ = (A.top.tm.set _ v).n; unfold TM.set; cases Nat.blt _ A.top.tm.n <;> rfl
      · show cv E noArgs ((A.top.tm.set _ v).get i) = _
        rw [TM.set_get h.1 (.inr trivial)]; exact q.tm.2 i
    have ih0 : ∀ d lit B tr, Deep below0 d B.below → trun P w0 f0 K Kr F d lit B tr → Leads P w0 (fun B => K B ∨ RetK P f0 below0 Kr B) B := fun d lit B tr h1 h2 => trun_ok hP F d lit B tr h1 h2
    have ih : ∀ {d lit B tr}, trun P w0 f0 K Kr F d lit B tr → Deep below0 d B.below → Leads P w0 (fun B => K B ∨ RetK P f0 below0 Kr B) B := fun h2 h1 => ih0 _ _ _ _ h1 h2
    have go : ∀ {B : AM}, astep P A = some [B] → Leads P w0 (fun B => K B ∨ RetK P f0 below0 Kr B) B → Leads P w0 (fun B => K B ∨ RetK P f0 below0 Kr B) A := fun h1 h2 =>
      Leads.step hP h1 fun C hC => by rw [List.mem_singleton.1 hC]; exact h2
    by_cases hheap : ∃ H' t, tr = .hp H' t
    · obtain ⟨H', t, rfl⟩ := hheap
      unfold trun at h
      have := trun_ok hP F d lit ⟨A.top, A.below, H'⟩ t hb h.2
      intro base M hM
      refine this base M ?_
      obtain ⟨E, w, fr, cs, rfl, hh, hf, hfs⟩ := hM
      exact ⟨E, w, fr, cs, rfl, hh.same h.1, hf, hfs⟩
    by_cases hhalt : tr = .halt ∧ atReg d A.top = true
    · obtain ⟨rfl, hr⟩ := hhalt
      unfold trun at h
      simp only [hr, cond_true] at h
      exact canon_ok (Q := fun B => K B ∨ RetK P f0 below0 Kr B) (.inl h)
    have hh0 : tr = .halt → atReg d A.top = false := fun e => by
      cases hq : atReg d A.top with
      | true => exact absurd ⟨e, hq⟩ hhalt
      | false => rfl
    have hh1 : ∀ t, t = Tc.halt → atReg d A.top = false → trun P w0 f0 K Kr (F + 1) d lit A t → tbody P w0 f0 K Kr (trun P w0 f0 K Kr F) d lit A t := fun t e hr h => by
      subst e
      unfold trun at h
      simp only [hr, cond_false] at h
      exact h
    replace h : tbody P w0 f0 K Kr (trun P w0 f0 K Kr F) d lit A tr := by
      cases tr <;> first | exact hh1 _ rfl (hh0 rfl) h | exact h | exact absurd ⟨_, _, _, rfl⟩ heq | exact absurd ⟨_, _, rfl⟩ hheap
    unfold tbody at h
    have hst : astep P A = (bif A.top.ret then stepRet P A else match A.top.todo with
      | [] => leave A none
      | .code c :: k => stepCode P A k c
      | .inBlock _ :: k => some [setTodo A k]
      | .inLoop c :: k => some [setTodo A (.code c :: .inLoop c :: k)]
      | .reg _ _ [] :: k => some [setTodo A k]
      | .reg ops _ (o :: _) :: _ => (match opWants A.H.pc ops A.top.tm o with
        | some s => fork A s
        | none => aOper P A.top A.below A.H ops o)
      | .any ops ok done pos pend none :: k => stepAny P A k ops ok done pos pend
      | .any _ _ _ _ _ (some _) :: _ => none
      | .inRange _ :: _ => none
      | .endRange l :: k => stepEnd A k l
      | .beginRound :: k => stepBegin A k) := rfl
    cases hret : A.top.ret with
    | true =>
      rw [hret] at h
      simp only [cond_true] at h
      rw [hret] at hst
      simp only [cond_true] at hst
      cases hdef : A.top.defers with
      | cons df ds =>
        rw [hdef] at h
        cases df with
        | coll n =>
          simp only at h
          split at h
          · obtain ⟨h1, h2, h3⟩ := h
            refine go (B := ⟨{ A.top with defers := ds }, A.below, A.H.put n (.deferred false)⟩) ?_ (ih h3 hb)
            rw [hst]
            unfold stepRet
            rw [hdef]
            unfold AOk at h2
            simp only [h2, Bool.not_true, Bool.false_eq_true, if_false, h1]
          · exact h.elim
        | fn f args =>
          simp only at h
          obtain ⟨hbd, h⟩ := cond_false_elim h
          cases hfr : enterFr P f args with
          | none => rw [hfr] at h; exact h.elim
          | some fr =>
          rw [hfr] at h
          split at h
          · injections
            subst_vars
            rename_i fr _ _
            refine go (B := ⟨{ fr with dfr := true }, { A.top with defers := ds } :: A.below, A.H⟩) ?_ (ih h (hb.push _))
            rw [hst]
            unfold stepRet
            rw [hdef]
            simp only [hbd, if_true, hfr, Option.map_some]
          · exact h.elim
      | nil =>
        rw [hdef] at h
        simp only at h
        cases d with
        | zero =>
          simp only at h
          split at h
          · rename_i hpan
            obtain ⟨hc, h⟩ := cond_false_elim h
            rw [Bool.and_eq_true] at hc
            obtain ⟨v, hv, hk⟩ := retVC_ok h
            exact .here (.inr ⟨hb.zero, Nat.eq_of_beq_eq_true hc.1, hret, hdef, by simpa using hc.2, hpan, v, hv, hk⟩)
          · exact h.elim
        | succ d =>
          simp only at h
          split at h
          · exact h.elim
          · rename_i c cs hbe
            split at h
            · rename_i hpan
              rcases cond_elim h with ⟨hdf, h⟩ | ⟨hdf, h⟩
              · obtain ⟨B, hB, h⟩ := det_ok h
                exact go (hst.trans hB) (ih h (stepRet_dfr_below hB hdef hb))
              · obtain ⟨v, hv, h⟩ := retVC_ok h
                obtain ⟨hcr, h⟩ := cond_false_elim' h
                split at h
                · rename_i c' hc'
                  refine go (B := ⟨c', cs, A.H⟩) ?_ (ih h (by rw [hbe] at hb; exact hb.pop))
                  rw [hst]
                  unfold stepRet
                  rw [hdef, hbe]
                  simp only [hpan, hv, Option.bind_some, hdf, Bool.false_eq_true, if_false, hcr, hc', Option.map_some]
                · exact h.elim
            · obtain ⟨B, hB, h⟩ := det_ok h
              exact go (hst.trans hB) (ih h (stepRet_dfr_below hB hdef hb))
    | false =>
      rw [hret] at h hst
      simp only [cond_false] at h hst
      split at h
      · -- the end of the code
        rename_i htodo
        rw [htodo] at hst
        split at h
        · rename_i hr
          obtain ⟨B, hB, h⟩ := det_ok h
          exact go (hst.trans hB) (ih h (by rw [leave_none hr hB]; exact hb))
        · rename_i l hr
          split at h
          · obtain ⟨h1, h2, h⟩ := h
            split at h
            · rename_i c cs hbe
              obtain ⟨hd, h⟩ := cond_false_elim' h
              split at h
              · rename_i c' hc'
                exact go (hst.trans (leave_rnd (j := none) hr h1 h2 hbe hd hc')) (ih h (by rw [hbe] at hb; exact hb.pop))
              · exact h.elim
            · exact h.elim
          · exact h.elim
      · -- cond
        rename_i c a b k htodo
        rw [htodo] at hst
        split at h
        · rename_i i x hx
          have hgx : A.top.tm.get i = .bool x := by simpa [opv] using hx
          have hs : astep P A = some [setTodo A (.code (bif x then a else b) :: k)] := by
            rw [hst]; simp only [stepCode, hx]; cases x <;> rfl
          rcases cond_elim h with ⟨_, h⟩ | ⟨_, h⟩
          · exact go hs (ih h hb)
          · obtain ⟨tr', h⟩ := ask_ok h
            rw [TM.set_self hgx] at h
            exact go hs (ih h hb)
        · rename_i x hn hx
          have hs : astep P A = some [setTodo A (.code (bif x then a else b) :: k)] := by
            rw [hst]; simp only [stepCode, hx]; cases x <;> rfl
          exact go hs (ih h hb)
        · exact h.elim
      · -- loop
        rename_i c k htodo
        rw [htodo] at hst
        split at h
        · exact go (hst.trans rfl) (canon_ok (.inl h))
        · exact go (hst.trans rfl) (ih h hb)
        · exact h.elim
      · rename_i c k htodo
        rw [htodo] at hst
        split at h
        · exact go (hst.trans rfl) (canon_ok (.inl h))
        · exact go (hst.trans rfl) (ih h hb)
        · exact h.elim
      · -- range over a function
        rename_i g ps as bd k htodo
        rw [htodo] at hst
        split at h
        · obtain ⟨B, hB, h⟩ := det_ok h
          exact go (hst.trans hB) (ih h (stepRange_below hB hb))
        · rename_i l hr
          split at h
          · obtain ⟨h1, h⟩ := h
            split at h
            · rename_i hf first captured hg
              obtain ⟨hbd, h⟩ := cond_false_elim h
              split at h
              · rename_i fr hfr
                refine go ?_ (ih h (hb.push _))
                rw [hst]
                simp only [stepCode, stepRange, enterA, hr, h1, hg, hbd, if_true, hfr, Option.map_some]
              · exact h.elim
            · exact h.elim
          · exact h.elim
      · -- ret
        rename_i k htodo
        rw [htodo] at hst
        split at h
        · rename_i hr
          obtain ⟨B, hB, h⟩ := det_ok h
          exact go (hst.trans hB) (ih h (by rw [leave_none hr hB]; exact hb))
        · rename_i l hr
          split at h
          · obtain ⟨h1, h2, h⟩ := h
            split at h
            · rename_i c cs hbe
              obtain ⟨hd, h⟩ := cond_false_elim' h
              split at h
              · rename_i c' hc'
                exact go (hst.trans (leave_rnd (j := some .ret) hr h1 h2 hbe hd hc')) (ih h (by rw [hbe] at hb; exact hb.pop))
              · exact h.elim
            · exact h.elim
          · exact h.elim
      · -- exit
        rename_i id k htodo
        rw [htodo] at hst
        split at h
        · rename_i k' hk'
          refine go ?_ (ih h hb)
          rw [hst]
          simp only [stepCode, hk']
        · rename_i hk'
          split at h
          · rename_i l st j fn tm ps as bd ld t hr
            obtain ⟨h1, h2, h⟩ := h
            split at h
            · rename_i c cs hbe
              obtain ⟨hd, h⟩ := cond_false_elim' h
              split at h
              · rename_i c' hc'
                refine go ?_ (ih h (by rw [hbe] at hb; exact hb.pop))
                rw [hst]
                simp only [stepCode, hk']
                exact leave_rnd (j := some (.exit id)) hr h1 h2 hbe hd hc'
              · exact h.elim
            · exact h.elim
          · exact h.elim
      · -- other code
        rename_i c k hn1 hn2 hn3 hn4 hn5 htodo
        rw [htodo] at hst
        obtain ⟨B, hB, h⟩ := det_ok h
        refine go (hst.trans hB) (ih h ?_)
        rw [stepCode_below hB (fun a b c' h => hn1 a b c' h) (fun h => hn4 h) (fun id h => hn5 id h) (fun a b c' d h => hn3 a b c' d h)]
        exact hb
      · rename_i id k htodo
        rw [htodo] at hst
        exact go hst (ih h hb)
      · rename_i ops i k htodo
        rw [htodo] at hst
        exact go hst (ih h hb)
      · -- a region in order
        rename_i ops i o r k htodo
        rw [htodo] at hst
        simp only at hst
        split at h
        · exact h.elim
        · rename_i hw
          rw [hw] at hst
          obtain ⟨l, h1, h2⟩ := operVC_ok hP ih0 hret hb h
          exact Leads.step hP (hst.trans h1) h2
      · -- a region in any order
        rename_i ops ok done pos pend k htodo
        rw [htodo] at hst
        simp only at hst
        have hnext : ∀ tr, (match wantsAll A.H.pc ops A.top.tm (readyAll done (depMasks ops) 0) with
          | some _ => False
          | none => one (readyAll done (depMasks ops) 0) (fun i tr => (match opAt ops i with
            | some o => operVC P w0 (trun P w0 f0 K Kr F) d lit { A.top with todo := .any ops ok done pos (pend.filter fun p => !(ancOf ops i).testBit p.1) (some i) :: k } A.below A.H ops o tr
            | none => False)) tr) → ∃ l, anyNext P A k ops ok done pos pend = some l ∧ ∀ B ∈ l, Leads P w0 (fun B => K B ∨ RetK P f0 below0 Kr B) B := by
          intro tr h
          split at h
          · exact h.elim
          · rename_i hw
            unfold anyNext
            cases hra : readyAll done (depMasks ops) 0 with
            | nil => rw [hra] at h; exact h.elim
            | cons i0 l0 =>
              simp only
              rw [hra] at hw h
              rw [hw]
              simp only
              have hm := one_mem h (by simp)
              refine catAll_of _ fun x hx => ?_
              obtain ⟨i, hi, rfl⟩ := List.mem_map.1 hx
              obtain ⟨tr', hk⟩ := hm i hi
              split at hk
              · rename_i o ho
                obtain ⟨l, h1, h2⟩ := operVC_ok hP ih0 (by exact hret) hb hk
                exact ⟨l, by rw [ho]; exact h1, h2⟩
              · exact hk.elim
        rcases cond_elim h with ⟨hd, h⟩ | ⟨hd, h⟩
        · refine go (hst.trans ?_) (ih h hb)
          unfold stepAny; rw [hd]; rfl
        · have hsa : stepAny P A k ops ok done pos pend = (bif ok then (match readyFrom done ((depMasks ops).drop pos) pos with
            | some i => (match (opAt ops i).bind (opWants A.H.pc ops A.top.tm) with
              | some s => fork A s
              | none => Go.Sx.ahead P A k ops done pend i)
            | none => anyNext P A k ops ok done pos pend)
            else anyNext P A k ops ok done pos pend) := by
            unfold stepAny; rw [hd]; rfl
          rcases cond_elim h with ⟨hok, h⟩ | ⟨hok, h⟩
          · subst hok
            simp only [cond_true] at hsa
            split at h
            · rename_i i hi
              rw [hi] at hsa
              simp only at hsa
              split at h
              · rename_i o ho
                rw [ho] at hsa
                simp only [Option.bind_some] at hsa
                split at h
                · exact h.elim
                · rename_i hw
                  rw [hw] at hsa
                  simp only at hsa
                  obtain ⟨w, lit', tr', hw', h⟩ := wanted_ok (pc := A.H.pc) h
                  cases w with
                  | true =>
                    simp only [cond_true] at h
                    cases he : isE P o.op with
                    | true =>
                      rw [he] at h
                      simp only [cond_true] at h
                      obtain ⟨v, ns, tr2, h1, h2⟩ := eVC_ok h
                      refine go (hst.trans (hsa.trans ?_)) (ih h2 (by exact hb))
                      simp only [Go.Sx.ahead, ho, Option.bind_some, hw', h1]
                    | false =>
                      rw [he] at h
                      simp only [cond_false] at h
                      refine go (hst.trans (hsa.trans ?_)) (ih h (by exact hb))
                      simp only [Go.Sx.ahead, ho, Option.bind_some, hw', isE_none he]
                      rfl
                  | false =>
                    simp only [cond_false] at h
                    refine go (hst.trans (hsa.trans ?_)) (ih h (by exact hb))
                    simp only [Go.Sx.ahead, ho, Option.bind_some, hw']
              · exact h.elim
            · rename_i hi
              rw [hi] at hsa
              simp only at hsa
              obtain ⟨l, h1, h2⟩ := hnext _ h
              exact Leads.step hP (hst.trans (hsa.trans h1)) h2
          · subst hok
            simp only [cond_false] at hsa
            obtain ⟨l, h1, h2⟩ := hnext _ h
            exact Leads.step hP (hst.trans (hsa.trans h1)) h2
      · -- the end of a loop over a function
        rename_i l k htodo
        rw [htodo] at hst
        simp only at hst
        split at h
        · rename_i st j fn tm ps as bd ld t
          obtain ⟨h1, h2, h⟩ := h
          unfold AOk at h2
          have key : ∀ (h3 : trun P w0 f0 K Kr F d lit ⟨{ A.top with todo := jumpTodo j k }, A.below, A.H.put l (.loop .exhausted j fn tm ps as bd ld)⟩ t) (h4 : st ≠ .busy), Leads P w0 (fun B => K B ∨ RetK P f0 below0 Kr B) A := fun h3 h4 => by
            refine go (hst.trans ?_) (ih h3 (by exact hb))
            unfold stepEnd
            simp only [h2, Bool.not_true, Bool.false_eq_true, if_false, h1]
            try (cases st <;> first | rfl | exact absurd rfl h4)
          cases st with
          | busy => exact h.elim
          | ready => exact key h (by simp)
          | done => exact key h (by simp)
          | exhausted => exact key h (by simp)
        · exact h.elim
      · -- the beginning of a round
        rename_i k htodo
        rw [htodo] at hst
        simp only at hst
        split at h
        · rename_i l j fn tm ps as bd ld t hr
          obtain ⟨h1, h2, h⟩ := h
          unfold AOk at h2
          refine go (hst.trans ?_) (ih h (by exact hb))
          unfold stepBegin
          simp only [hr, h2, Bool.not_true, Bool.false_eq_true, if_false, h1]
        · exact h.elim
      · exact h.elim
end
end Go.Sy
