/- A symbolic run of the program, as plain functions: abstract values, an abstract heap, one step. No fact about it stands here. -/
import Derived.Calls
import Derived.Below
namespace Go.Sx
open Go

inductive AV where
  | bool (b : Bool)
  | int (k : IntKind) (n : Int)
  | str (s : List UInt8)
  | nptr
  | ptr (n off : Nat)
  | nslice (len cap : Nat)
  | slice (n off len cap : Nat)
  | eslice (n off len sz : Nat)
  | nmap
  | map (n : Nat)
  | func (f : FuncId) (first captured : List AV)
  | yld (n : Nat)
  | nfunc
  | iface (t : TypeId) (v : AV)
  | niface
  | agg (l : List AV)
  | tuple (l : List AV)
  | opq (i : Nat)
  deriving Inhabited

mutual
def ofV : Value → Option AV
  | .bool b => some (.bool b)
  | .int k n => some (.int k n)
  | .string s => some (.str s.data.toList)
  | .pointer none => some .nptr
  | .slice none l c => some (.nslice l c)
  | .map none => some .nmap
  | .nilFunc => some .nfunc
  | .iface t v => (ofV v).map (.iface t)
  | .nilIface => some .niface
  | .agg cs => (ofVa cs).map .agg
  | .tuple cs => (ofVa cs).map .tuple
  | .func (.func f) a b => (ofVa a).bind fun a => (ofVa b).map fun b => .func f a b
  | _ => none
def ofVa : Array Value → Option (List AV)
  | ⟨l⟩ => ofVs l
def ofVs : List Value → Option (List AV)
  | [] => some []
  | v :: r => (ofV v).bind fun a => (ofVs r).map fun b => a :: b
end

/-! ### A store of names -/
inductive Tr (α : Type) where
  | leaf
  | node (v : Option α) (l r : Tr α)
  deriving Inhabited
def Tr.get {α : Type} : Tr α → Nat → Option α
  | .leaf, _ => none
  | .node v l r, k => bif Nat.beq k 0 then v else bif Nat.beq (k % 2) 0 then r.get (k / 2 - 1) else l.get (k / 2)
def Tr.setF {α : Type} (v : Option α) : Nat → Tr α → Nat → Tr α
  | 0, t, _ => t
  | f + 1, .leaf, k => bif Nat.beq k 0 then .node v .leaf .leaf else bif Nat.beq (k % 2) 0 then .node none .leaf (Tr.setF v f .leaf (k / 2 - 1)) else .node none (Tr.setF v f .leaf (k / 2)) .leaf
  | f + 1, .node u l r, k => bif Nat.beq k 0 then .node v l r else bif Nat.beq (k % 2) 0 then .node u l (Tr.setF v f r (k / 2 - 1)) else .node u (Tr.setF v f l (k / 2)) r
def Tr.set {α : Type} (t : Tr α) (k : Nat) (v : Option α) : Tr α := Tr.setF v (k + 1) t k

/-- A frame's temporaries: n of them. -/
structure TM where
  t : Tr AV
  n : Nat
  deriving Inhabited
def TM.get (m : TM) (i : Nat) : AV := match m.t.get i with | some v => v | none => .tuple []
def TM.set (m : TM) (i : Nat) (v : AV) : TM := bif Nat.blt i m.n then ⟨m.t.set i (some v), m.n⟩ else m
inductive St where
  | own (old : Option Nat)
  | view
  deriving Inhabited
inductive AObj where
  | row (cells : List AV) (elem : TypeId) (exact : Bool) (st : St)
  | map (es : List (AV × AV × Nat)) (clock : Nat)
  | iter (m : Option Nat) (since : Nat) (seen : List Nat) (stepped : Nat)
  | loop (state : LoopState) (pending : Option Code) (fn : FuncId) (tmps : TM) (params : Array Tmp) (assign body : Code) (defers : Nat)
  | deferred (there : Bool)
  deriving Inhabited
structure AH where
  t : Tr AObj
  nx : Nat
  deriving Inhabited
def AH.get (H : AH) (n : Nat) : Option AObj := H.t.get n
def AH.put (H : AH) (n : Nat) (o : AObj) : AH := ⟨H.t.set n (some o), H.nx⟩
def AH.del (H : AH) (n : Nat) : AH := ⟨H.t.set n none, H.nx⟩
def AH.new (H : AH) (o : AObj) : AH := ⟨H.t.set H.nx (some o), H.nx + 1⟩

/-! ### Small things -/
def AV.cells : AV → List AV
  | .agg cs => cs
  | v => [v]
def AV.single : AV → Bool
  | .agg _ => false
  | .tuple _ => false
  | _ => true
def opAt (ops : Array Oper) (i : Nat) : Option Oper := ops.toList[i]?
variable (P : Program)
def szOf (t : TypeId) : Option Nat := (P.info? t).map (·.size)
def undl (t : TypeId) : Option TypeDesc := P.underlying t
def aggT (t : TypeId) : Option Bool := match P.underlying t with
  | some (.struct _) => some true
  | some (.array _ _) => some true
  | some _ => some false
  | none => none
def zeroT (t : TypeId) : Option AV := match P.info? t with
  | some i => match i.zero with | some v => ofV v | none => none
  | none => none
def aPart (t : TypeId) (cs : List AV) (off : Nat) : Option AV :=
  match aggT P t, szOf P t with
  | some true, some n => some (.agg ((cs.drop off).take n))
  | some false, _ => cs[off]?
  | _, _ => none
def aFieldOff (s : TypeId) (f : Nat) : Option (TypeId × Nat) := match P.underlying s with
  | some (.struct fs) => match fs[f]? with | some f => some (f.type, f.offset) | none => none
  | _ => none

/-! ### Equality -/
def allB (f : Field → Option Bool) : List Field → Option Bool
  | [] => some true
  | x :: r => if x.name ≠ "_" then (match f x with | some true => allB f r | some false => some false | none => none) else allB f r
def aEq : Nat → TypeId → AV → AV → Option Bool
  | 0, _, _, _ => none
  | d + 1, t, x, y =>
    match P.underlying t, x, y with
    | some .bool, .bool a, .bool b => some (a == b)
    | some (.int _), .int k a, .int k' b => if k = k' then some (a == b) else none
    | some .string, .str a, .str b => some (a == b)
    | some (.pointer _), .nptr, .nptr => some true
    | some (.pointer _), .nptr, .ptr _ _ => some false
    | some (.pointer _), .ptr _ _, .nptr => some false
    | some (.pointer e), .ptr n o, .ptr m p => match szOf P e with | some (_ + 1) => if n = m then some (o == p) else none | _ => none
    | some (.interface _), .niface, .niface => some true
    | some (.interface _), .niface, .iface _ _ => some false
    | some (.interface _), .iface _ _, .niface => some false
    | some (.interface _), .iface tx vx, .iface ty vy =>
      if tx ≠ ty then some false else match P.info? tx with
        | some i => if i.comparable then aEq d tx vx vy else none
        | none => none
    | some (.struct fs), .agg xs, .agg ys =>
      if P.stoodInHeld t then none else
      allB (fun f => match aPart P f.type xs f.offset, aPart P f.type ys f.offset with | some a, some b => aEq d f.type a b | _, _ => none) fs.toList
    | some (.slice _), .nslice _ _, .nslice _ _ => some true
    | some (.slice _), .nslice _ _, .slice _ _ _ _ => some false
    | some (.slice _), .nslice _ _, .eslice _ _ _ _ => some false
    | some (.slice _), .slice _ _ _ _, .nslice _ _ => some false
    | some (.slice _), .eslice _ _ _ _, .nslice _ _ => some false
    | some (.map _ _), .nmap, .nmap => some true
    | some (.map _ _), .nmap, .map _ => some false
    | some (.map _ _), .map _, .nmap => some false
    | some (.func _ _ _), .nfunc, .nfunc => some true
    | some (.func _ _ _), .nfunc, .func _ _ _ => some false
    | some (.func _ _ _), .func _ _ _, .nfunc => some false
    | some (.func _ _ _), .nfunc, .yld _ => some false
    | some (.func _ _ _), .yld _, .nfunc => some false
    | _, _, _ => none
def aEqual (t : TypeId) (x y : AV) : Option Bool := aEq P 12 t x y
def isC : Operand → Bool
  | .const _ => true
  | _ => false
def eqG (t : TypeId) (x y : Operand) (a b : AV) : Bool := match a, b with
  | .niface, .niface => isC x || isC y
  | .agg _, .agg _ => !P.eqGuardType P.depth t
  | .opq _, _ => false
  | _, .opq _ => false
  | _, _ => true
def guardOk (op : BinOp) (t : TypeId) (x y : Operand) (a b : AV) : Bool :=
  match op with
  | .eql => eqG P t x y a b
  | .neq => eqG P t x y a b
  | _ => true
def aInt (op : BinOp) (k : IntKind) (a b : Int) : Option AV :=
  match op with
  | .add => some (.int k (k.wrap (a + b)))
  | .sub => some (.int k (k.wrap (a - b)))
  | .mul => some (.int k (k.wrap (a * b)))
  | .quo => if b = 0 then none else some (.int k (k.wrap (a.tdiv b)))
  | .rem => if b = 0 then none else some (.int k (a.tmod b))
  | .and => some (.int k (k.wrap (BitVec.ofInt k.bits a &&& BitVec.ofInt k.bits b).toNat))
  | .or => some (.int k (k.wrap (BitVec.ofInt k.bits a ||| BitVec.ofInt k.bits b).toNat))
  | .xor => some (.int k (k.wrap (BitVec.ofInt k.bits a ^^^ BitVec.ofInt k.bits b).toNat))
  | .andNot => some (.int k (k.wrap (BitVec.ofInt k.bits a &&& ~~~ (BitVec.ofInt k.bits b)).toNat))
  | .eql => some (.bool (a == b))
  | .neq => some (.bool (a != b))
  | .lss => some (.bool (a < b))
  | .leq => some (.bool (a ≤ b))
  | .gtr => some (.bool (a > b))
  | .geq => some (.bool (a ≥ b))
  | _ => none
def aShift (op : BinOp) (k : IntKind) (x y : Int) : Option AV :=
  if y < 0 then none else
  match op with
  | .shl => some (.int k (k.wrap (x * 2 ^ (min y.toNat k.bits))))
  | .shr => some (.int k (x.fdiv (2 ^ (min y.toNat k.bits))))
  | _ => none
def aStr (op : BinOp) (x y : List UInt8) : Option AV :=
  match op with
  | .add => if ((x.length + y.length : Nat) : Int) > IntKind.i64.max then none else some (.str (x ++ y))
  | .eql => some (.bool (x == y))
  | .neq => some (.bool (!(x == y)))
  | .lss => some (.bool (Op.bytesLess x y))
  | .leq => some (.bool (Op.bytesLess x y || x == y))
  | .gtr => some (.bool (!(Op.bytesLess x y || x == y)))
  | .geq => some (.bool (!Op.bytesLess x y))
  | _ => none
def aBin (op : BinOp) (t : TypeId) (x y : AV) : Option AV :=
  match x, y with
  | .int k a, .int k' b => (match op with
    | .shl => aShift .shl k a b
    | .shr => aShift .shr k a b
    | op => if k = k' then aInt op k a b else none)
  | .str a, .str b => aStr op a b
  | .opq _, _ => none
  | _, .opq _ => none
  | x, y => (match op with
    | .eql => (aEqual P t x y).map .bool
    | .neq => (aEqual P t x y).map fun b => .bool (!b)
    | _ => none)
def aUn (op : UnOp) (x : AV) : Option AV :=
  match op, x with
  | .neg, .int k n => some (.int k (k.wrap (0 - n)))
  | .xor, .int k n => some (.int k (k.wrap (BitVec.ofInt k.bits (if k.signed then -1 else k.max) ^^^ BitVec.ofInt k.bits n).toNat))
  | .not, .bool b => some (.bool (!b))
  | _, _ => none

/-! ### Maps -/
def keyOk : Nat → TypeId → AV → Bool
  | 0, _, _ => false
  | d + 1, t, v =>
    match P.underlying t, v with
    | some (.int _), .int _ _ => true
    | some .string, .str _ => true
    | some .bool, .bool _ => true
    | some (.struct fs), .agg cs => fs.toList.all fun f => f.name == "_" || (match aPart P f.type cs f.offset with | some a => keyOk d f.type a | none => false)
    | _, _ => false
def aFind (kt : TypeId) (k : AV) : List (AV × AV × Nat) → Nat → Option (Option (Nat × AV))
  | [], _ => some none
  | e :: es, i => match aEqual P kt k e.1 with
    | some true => some (some (i, e.2.1))
    | some false => aFind kt k es (i + 1)
    | none => none
/-- Keys of one scalar kind, found by their values at once. -/
def mapK (t : TypeId) : Option (TypeId × TypeId) := match P.underlying t with
  | some (.map k e) => some (k, e)
  | _ => none

/-! ### Operations that write nothing: the value, and the names that they look at -/
def constV : Value → Option AV
  | .bool b => some (.bool b)
  | .int k n => some (.int k n)
  | .pointer none => some .nptr
  | v => ofV v
def opv (tm : TM) : Operand → Option AV
  | .tmp t => some (tm.get t)
  | .const v => constV v
  | .global _ => none
  | .func f => some (.func f [] [])
def opvs (tm : TM) : List Operand → Option (List AV)
  | [] => some []
  | x :: r => (opv tm x).bind fun a => (opvs tm r).map fun b => a :: b
def aLoad (H : AH) (t : TypeId) (n off : Nat) : Option AV :=
  match H.get n, aggT P t with
  | some (.row cs _ _ _), some true => (match szOf P t with
    | some k => if off + k ≤ cs.length then some (.agg ((cs.drop off).take k)) else none
    | none => none)
  | some (.row cs _ _ _), some false => cs[off]?
  | _, _ => none
def setAt (cells : List AV) (off : Nat) (vs : List AV) : List AV := cells.take off ++ vs ++ cells.drop (off + vs.length)
def aFill (place : Nat → Option (Nat × Nat)) (cells : List AV) : List (Nat × AV) → Option (List AV)
  | [] => some cells
  | (i, v) :: rest => match place i with
    | none => none
    | some (off, size) => if v.cells.length ≠ size || off + v.cells.length > cells.length then none else aFill place (setAt cells off v.cells) rest
def opvp (tm : TM) : List (Nat × Operand) → Option (List (Nat × AV))
  | [] => some []
  | (i, x) :: r => (opv tm x).bind fun a => (opvp tm r).map fun b => (i, a) :: b
def fieldPlaces : List Field → Option (List (Nat × Nat))
  | [] => some []
  | f :: r => (szOf P f.type).bind fun n => (fieldPlaces r).map fun b => (f.offset, n) :: b
def aBuild (t : TypeId) (parts : List (Nat × AV)) : Option AV :=
  (zeroT P t).bind fun z => match P.underlying t with
    | some (.struct fs) => (fieldPlaces P fs.toList).bind fun pl => (aFill (fun i => pl[i]?) z.cells parts).map .agg
    | some (.array _ e) => (szOf P e).bind fun n => (aFill (fun i => some (i * n, n)) z.cells parts).map .agg
    | _ => none
def optv (tm : TM) : Option Operand → Option (Option AV)
  | none => some none
  | some x => (opv tm x).map some
def aBound (x : AV) (y : Nat) : Option Nat := match x with
  | .int _ i => if 0 ≤ i ∧ i ≤ y then some i.toNat else none
  | _ => none
def bndM (cap : Nat) : Option AV → Option Nat
  | some v => aBound v cap
  | none => some cap
def bndH (len m : Nat) (mx : Option AV) : Option AV → Option Nat
  | some v => aBound v m
  | none => match mx with | none => some len | some _ => none
def bndL (h : Nat) : Option AV → Option Nat
  | some v => aBound v h
  | none => some 0
def aBounds (len cap : Nat) (lo hi mx : Option AV) : Option (Nat × Nat × Nat) :=
  (bndM cap mx).bind fun m => (bndH len m mx hi).bind fun h => (bndL h lo).map fun l => (l, h, m)
def rowHas (H : AH) (n k : Nat) : Bool := match H.get n with | some (.row cs _ _ _) => Nat.ble k cs.length | _ => false
def aSlice (H : AH) (t : TypeId) (x : AV) (lo hi mx : Option AV) : Option AV :=
  match P.underlying t, x with
  | some .string, .str s => if mx.isSome then none else (aBounds s.length s.length lo hi none).map fun (l, h, _) => .str ((s.take h).drop l)
  | some (.slice e), .nslice len cap => (aBounds len cap lo hi mx).bind fun (l, h, m) => (szOf P e).map fun _ => .nslice (h - l) (m - l)
  | some (.slice e), .slice n off len cap => (aBounds len cap lo hi mx).bind fun (l, h, m) => (szOf P e).map fun z => .slice n (if m = l then off else off + l * z) (h - l) (m - l)
  | some (.slice e), .eslice n off len z => match mx, szOf P e with
    | none, some (z' + 1) => if z = z' + 1 ∧ rowHas H n (off + len * z) = true then (aBounds len len lo hi none).bind fun (l, h, _) => if l < h ∨ l = 0 then some (.eslice n (off + l * z) (h - l) z) else none else none
    | _, _ => none
  | some (.array k e), .ptr n off => (aBounds k k lo hi mx).bind fun (l, h, m) => (szOf P e).map fun z => .slice n (if m = l then off else off + l * z) (h - l) (m - l)
  | _, _ => none
def aIndexAt (t : TypeId) (x i : AV) : Option AV :=
  match i with
  | .int _ i => (match P.underlying t, x with
    | some (.array len e), .ptr n off => if 0 ≤ i ∧ i < len then (szOf P e).map fun z => .ptr n (off + i.toNat * z) else none
    | some (.slice e), .slice n off len _ => if 0 ≤ i ∧ i < len then (szOf P e).map fun z => .ptr n (off + i.toNat * z) else none
    | some (.slice e), .eslice n off len _ => if 0 ≤ i ∧ i < len then (szOf P e).map fun z => .ptr n (off + i.toNat * z) else none
    | _, _ => none)
  | _ => none
def aIndex (t : TypeId) (x i : AV) : Option AV :=
  match i with
  | .int _ i => (match P.underlying t, x with
    | some (.array len e), .agg cs => if 0 ≤ i ∧ i < len then (szOf P e).bind fun z => aPart P e cs (i.toNat * z) else none
    | some .string, .str s => if 0 ≤ i then (s[i.toNat]?).map fun b => .int .u8 b.toNat else none
    | _, _ => none)
  | _ => none
def aLen (H : AH) (t : TypeId) (x : AV) : Option (AV × List Nat) :=
  match P.underlying t, x with
  | some .string, .str s => some (.int .i64 s.length, [])
  | some (.array n _), _ => some (.int .i64 n, [])
  | some (.slice _), .nslice n _ => some (.int .i64 n, [])
  | some (.slice _), .slice _ _ n _ => some (.int .i64 n, [])
  | some (.slice _), .eslice _ _ n _ => some (.int .i64 n, [])
  | some (.map _ _), .nmap => some (.int .i64 0, [])
  | some (.map _ _), .map n => (match H.get n with | some (.map es _) => some (.int .i64 es.length, [n]) | _ => none)
  | _, _ => none
def aMinMax (mx : Bool) : AV → List AV → Option AV
  | x, [] => some x
  | .int k x, .int k' y :: r => if k = k' then aMinMax mx (.int k (if mx then (if y > x then y else x) else (if y < x then y else x))) r else none
  | _, _ => none
def aCap (t : TypeId) (x : AV) : Option AV :=
  match P.underlying t, x with
  | some (.array n _), _ => some (.int .i64 n)
  | some (.slice _), .nslice _ c => some (.int .i64 c)
  | some (.slice _), .slice _ _ _ c => some (.int .i64 c)
  | _, _ => none
abbrev AE := Option (AV × List Nat)
def eMove (tm : TM) (x : Operand) : AE := (opv tm x).map fun v => (v, [])
def ePick (tm : TM) (c a b : Operand) : AE := match opv tm c with
  | some (.bool true) => (opv tm a).map fun v => (v, [])
  | some (.bool false) => (opv tm b).map fun v => (v, [])
  | _ => none
def nilOk : AV → Bool
  | .ptr _ _ => true
  | .func _ _ _ => true
  | .yld _ => true
  | .iface _ _ => true
  | .map _ => true
  | _ => false
def eNil (tm : TM) (x : Operand) : AE := (opv tm x).bind fun v => if nilOk v then some (v, []) else none
def eBin (tm : TM) (op : BinOp) (t : TypeId) (x y : Operand) : AE := match opv tm x, opv tm y with
  | some a, some b => if guardOk P op t x y a b then (aBin P op t a b).map fun v => (v, []) else none
  | _, _ => none
def eUn (tm : TM) (op : UnOp) (x : Operand) : AE := (opv tm x).bind fun a => (aUn op a).map fun v => (v, [])
def eConv (tm : TM) (s d : TypeId) (x : Operand) : AE := match P.underlying s, P.underlying d, opv tm x with
  | some _, some (.int k), some (.int _ n) => some (.int k (k.wrap n), [])
  | some _, some .string, some (.str s) => some (.str s, [])
  | _, _, _ => none
def eIface (tm : TM) (t : TypeId) (x : Operand) : AE := match P.underlying t with
  | some (.interface _) => none
  | some _ => (opv tm x).map fun v => (.iface t v, [])
  | none => none
def eFunc (tm : TM) (f : FuncId) (a b : Array Operand) : AE := (opvs tm a.toList).bind fun a => (opvs tm b.toList).map fun b => (.func f a b, [])
def eExtract (tm : TM) (x : Operand) (i : Nat) : AE := match opv tm x with
  | some (.tuple vs) => (vs[i]?).map fun v => (v, [])
  | _ => none
def eField (tm : TM) (t : TypeId) (x : Operand) (f : Nat) : AE := match aFieldOff P t f, opv tm x with
  | some (ft, off), some (.agg cs) => (aPart P ft cs off).map fun v => (v, [])
  | _, _ => none
def eFieldAddr (tm : TM) (t : TypeId) (x : Operand) (f : Nat) : AE := match aFieldOff P t f, opv tm x with
  | some (ft, off), some (.ptr n p) => (match szOf P ft with | some (_ + 1) => some (.ptr n (p + off), []) | _ => none)
  | _, _ => none
def eIndexAddr (tm : TM) (t : TypeId) (x i : Operand) : AE := match opv tm x, opv tm i with | some x, some i => (aIndexAt P t x i).map fun v => (v, []) | _, _ => none
def eIndex (tm : TM) (t : TypeId) (x i : Operand) : AE := match opv tm x, opv tm i with | some x, some i => (aIndex P t x i).map fun v => (v, []) | _, _ => none
def eLoad (H : AH) (tm : TM) (t : TypeId) (x : Operand) : AE := match opv tm x with
  | some (.ptr n off) => (aLoad P H t n off).map fun v => (v, [n])
  | _ => none
def eSlice (H : AH) (tm : TM) (t : TypeId) (x : Operand) (lo hi mx : Option Operand) : AE := match opv tm x, optv tm lo, optv tm hi, optv tm mx with
  | some x, some lo, some hi, some mx => (aSlice P H t x lo hi mx).map fun v => (v, [])
  | _, _, _, _ => none
def eBuild (tm : TM) (t : TypeId) (parts : Array (Nat × Operand)) : AE := (opvp tm parts.toList).bind fun ps => (aBuild P t ps).map fun v => (v, [])
def okd (ok : Bool) (v : AV) (b : Bool) : AV := if ok then .tuple [v, .bool b] else v
def eLookup (H : AH) (tm : TM) (t : TypeId) (x i : Operand) (ok : Bool) : AE := match mapK P t, opv tm x, opv tm i with
  | some (kt, et), some .nmap, some k => if keyOk P 9 kt k then (zeroT P et).map fun z => (okd ok z false, []) else none
  | some (kt, et), some (.map n), some k => if keyOk P 9 kt k then (match H.get n with
    | some (.map es _) => (match aFind P kt k es 0 with
      | some (some (_, v)) => some (okd ok v true, [n])
      | some none => (zeroT P et).map fun z => (okd ok z false, [n])
      | none => none)
    | _ => none) else none
  | _, _, _ => none
def eBuiltin (H : AH) (tm : TM) (b : Builtin) (ts : Array TypeId) (args : Array Operand) : AE := match b with
  | .len => (match ts.toList, opvs tm args.toList with | t :: _, some (x :: _) => aLen P H t x | _, _ => none)
  | .cap => (match ts.toList, opvs tm args.toList with | t :: _, some (x :: _) => (aCap P t x).map fun v => (v, []) | _, _ => none)
  | .max => (match opvs tm args.toList with | some (x :: r) => (aMinMax true x r).map fun v => (v, []) | _ => none)
  | .min => (match opvs tm args.toList with | some (x :: r) => (aMinMax false x r).map fun v => (v, []) | _ => none)
  | _ => none
def aEntry (H : AH) (it : AV) : AE :=
  match it with
  | .ptr n 0 =>
    (match H.get n with
    | some (.iter (some m) _ seen last) =>
      (match H.get m, seen.getLast? with
      | some (.map es clock), some s => if clock = last then (es.find? fun e => e.2.2 == s).map fun e => (.tuple [e.1, e.2.1], [n, m]) else none
      | _, _ => none)
    | _ => none)
  | _ => none
def aEarly (H : AH) (tm : TM) (op : Op) : AE :=
  match op with
  | .move x => eMove tm x
  | .assign x => eMove tm x
  | .pick c a b => ePick tm c a b
  | .nilCheck x => eNil tm x
  | .binOp op t x y _ => eBin P tm op t x y
  | .unOp op _ x => eUn tm op x
  | .convert s d x => eConv P tm s d x
  | .makeInterface t x => eIface P tm t x
  | .makeFunc (.func f) a b => eFunc tm f a b
  | .extract x i => eExtract tm x i
  | .field t x f => eField P tm t x f
  | .fieldAddr t x f => eFieldAddr P tm t x f
  | .indexAddr t x i => eIndexAddr P tm t x i
  | .index t x i => eIndex P tm t x i
  | .load t x => eLoad P H tm t x
  | .slice t x lo hi mx => eSlice P H tm t x lo hi mx
  | .build t parts => eBuild P tm t parts
  | .lookup t x i ok => eLookup P H tm t x i ok
  | .call ⟨.builtin b, args, ts⟩ => eBuiltin P H tm b ts args
  | .entry x => (opv tm x).bind (aEntry H)
  | _ => none
end Go.Sx
