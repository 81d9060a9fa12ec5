/- The engine and the contracts, part 0. No condition beyond the hypotheses of each theorem. -/
import Derived.Calls
import Derived.Below
import Derived.Orders
import Derived.Laws.Sem
import Derived.Laws.Cells
import Derived.Laws.StructEq
import Derived.ChangeKeysEq
/- A symbolic run of the program, as plain functions: abstract values, an abstract heap, one step. No fact about it stands here. -/
namespace Go.Sx
open Go

/-- What is said of a number that is not known; of a truth that is not known. -/
inductive SE where
  | lit (n : Int)
  | var (i : Nat)
  | bin (op : BinOp) (k : IntKind) (a b : SE)
  | conv (k : IntKind) (a : SE)
  deriving DecidableEq, Inhabited
inductive SB where
  | cmp (op : BinOp) (a b : SE)
  | var (i : Nat)
  deriving DecidableEq, Inhabited
inductive AV where
  | bool (b : Bool)
  | int (k : IntKind) (n : Int)
  | str (s : List UInt8)
  | nptr
  | ptr (n off : Nat)
  | nslice (len cap : Nat)
  | slice (n off len cap : Nat)
  | eslice (n off len sz : Nat)
  | zslice (n off l sz : Nat)
  | hslice (a : Addr)
  | nmap
  | map (n : Nat)
  | func (f : FuncId) (first captured : List AV)
  | yld (n : Nat)
  | nfunc
  | iface (t : TypeId) (v : AV)
  | niface
  | agg (l : List AV)
  | tuple (l : List AV)
  | opq (i : Nat)
  | sym (k : IntKind) (e : SE)
  | symb (s : SB) (pos : Bool)
  deriving Inhabited

mutual
def ofV : Value → Option AV
  | .bool b => some (.bool b)
  | .int k n => some (.int k n)
  | .string s => some (.str s.data.toList)
  | .pointer none => some .nptr
  | .slice none l c => some (.nslice l c)
  | .map none => some .nmap
  | .nilFunc => some .nfunc
  | .iface t v => (ofV v).map (.iface t)
  | .nilIface => some .niface
  | .agg cs => (ofVa cs).map .agg
  | .tuple cs => (ofVa cs).map .tuple
  | .func (.func f) a b => (ofVa a).bind fun a => (ofVa b).map fun b => .func f a b
  | _ => none
def ofVa : Array Value → Option (List AV)
  | ⟨l⟩ => ofVs l
def ofVs : List Value → Option (List AV)
  | [] => some []
  | v :: r => (ofV v).bind fun a => (ofVs r).map fun b => a :: b
end

/-! ### A store of names -/
inductive Tr (α : Type) where
  | leaf
  | node (v : Option α) (l r : Tr α)
  deriving Inhabited
def Tr.get {α : Type} : Tr α → Nat → Option α
  | .leaf, _ => none
  | .node v l r, k => bif Nat.beq k 0 then v else bif Nat.beq (k % 2) 0 then r.get (k / 2 - 1) else l.get (k / 2)
def Tr.setF {α : Type} (v : Option α) : Nat → Tr α → Nat → Tr α
  | 0, t, _ => t
  | f + 1, .leaf, k => bif Nat.beq k 0 then .node v .leaf .leaf else bif Nat.beq (k % 2) 0 then .node none .leaf (Tr.setF v f .leaf (k / 2 - 1)) else .node none (Tr.setF v f .leaf (k / 2)) .leaf
  | f + 1, .node u l r, k => bif Nat.beq k 0 then .node v l r else bif Nat.beq (k % 2) 0 then .node u l (Tr.setF v f r (k / 2 - 1)) else .node u (Tr.setF v f l (k / 2)) r
def Tr.set {α : Type} (t : Tr α) (k : Nat) (v : Option α) : Tr α := Tr.setF v (k + 1) t k

/-- A frame's temporaries: n of them. -/
structure TM where
  t : Tr AV
  n : Nat
  deriving Inhabited
def TM.get (m : TM) (i : Nat) : AV := match m.t.get i with | some v => v | none => .tuple []
def TM.set (m : TM) (i : Nat) (v : AV) : TM := bif Nat.blt i m.n then ⟨m.t.set i (some v), m.n⟩ else m
inductive St where
  | own (old : Option Nat)
  | view
  deriving Inhabited
inductive AObj where
  | row (cells : List AV) (elem : TypeId) (exact : Bool) (st : St)
  | map (es : List (AV × AV × Nat)) (clock : Nat)
  | iter (m : Option Nat) (since : Nat) (seen : List Nat) (stepped : Nat)
  | loop (state : LoopState) (pending : Option Code) (fn : FuncId) (tmps : TM) (params : Array Tmp) (assign body : Code) (defers : Nat)
  | deferred (there : Bool)
  deriving Inhabited
structure AH where
  t : Tr AObj
  nx : Nat
  pc : List (SB × Bool) := []
  deriving Inhabited
def AH.get (H : AH) (n : Nat) : Option AObj := H.t.get n
def AH.put (H : AH) (n : Nat) (o : AObj) : AH := ⟨H.t.set n (some o), H.nx, H.pc⟩
def AH.del (H : AH) (n : Nat) : AH := ⟨H.t.set n none, H.nx, H.pc⟩
def AH.new (H : AH) (o : AObj) : AH := ⟨H.t.set H.nx (some o), H.nx + 1, H.pc⟩
/-- It is taken to be so from now on. -/
def AH.assume (H : AH) (s : SB) (b : Bool) : AH := ⟨H.t, H.nx, (s, b) :: H.pc⟩
def pcFind (s : SB) : List (SB × Bool) → Option Bool
  | [] => none
  | x :: r => if x.1 = s then some x.2 else pcFind s r

/-! ### Small things -/
def AV.cells : AV → List AV
  | .agg cs => cs
  | v => [v]
def AV.single : AV → Bool
  | .agg _ => false
  | .tuple _ => false
  | _ => true
def opAt (ops : Array Oper) (i : Nat) : Option Oper := ops.toList[i]?
variable (P : Program)
def szOf (t : TypeId) : Option Nat := (P.info? t).map (·.size)
def undl (t : TypeId) : Option TypeDesc := P.underlying t
def aggT (t : TypeId) : Option Bool := match P.underlying t with
  | some (.struct _) => some true
  | some (.array _ _) => some true
  | some _ => some false
  | none => none
def zeroT (t : TypeId) : Option AV := match P.info? t with
  | some i => match i.zero with | some v => ofV v | none => none
  | none => none
def aPart (t : TypeId) (cs : List AV) (off : Nat) : Option AV :=
  match aggT P t, szOf P t with
  | some true, some n => some (.agg ((cs.drop off).take n))
  | some false, _ => cs[off]?
  | _, _ => none
def aFieldOff (s : TypeId) (f : Nat) : Option (TypeId × Nat) := match P.underlying s with
  | some (.struct fs) => match fs[f]? with | some f => some (f.type, f.offset) | none => none
  | _ => none

/-! ### Equality -/
def allB (f : Field → Option Bool) : List Field → Option Bool
  | [] => some true
  | x :: r => if x.name ≠ "_" then (match f x with | some true => allB f r | some false => some false | none => none) else allB f r
def aEq : Nat → TypeId → AV → AV → Option Bool
  | 0, _, _, _ => none
  | d + 1, t, x, y =>
    match P.underlying t, x, y with
    | some .bool, .bool a, .bool b => some (a == b)
    | some (.int _), .int k a, .int k' b => if k = k' then some (a == b) else none
    | some .string, .str a, .str b => some (a == b)
    | some (.pointer _), .nptr, .nptr => some true
    | some (.pointer _), .nptr, .ptr _ _ => some false
    | some (.pointer _), .ptr _ _, .nptr => some false
    | some (.pointer e), .ptr n o, .ptr m p => match szOf P e with | some (_ + 1) => if n = m then some (o == p) else none | _ => none
    | some (.interface _), .niface, .niface => some true
    | some (.interface _), .niface, .iface _ _ => some false
    | some (.interface _), .iface _ _, .niface => some false
    | some (.interface _), .iface tx vx, .iface ty vy =>
      if tx ≠ ty then some false else match P.info? tx with
        | some i => if i.comparable then aEq d tx vx vy else none
        | none => none
    | some (.struct fs), .agg xs, .agg ys =>
      if P.stoodInHeld t then none else
      allB (fun f => match aPart P f.type xs f.offset, aPart P f.type ys f.offset with | some a, some b => aEq d f.type a b | _, _ => none) fs.toList
    | some (.slice _), .nslice _ _, .nslice _ _ => some true
    | some (.slice _), .nslice _ _, .slice _ _ _ _ => some false
    | some (.slice _), .nslice _ _, .eslice _ _ _ _ => some false
    | some (.slice _), .slice _ _ _ _, .nslice _ _ => some false
    | some (.slice _), .eslice _ _ _ _, .nslice _ _ => some false
    | some (.slice _), .nslice _ _, .zslice _ _ _ _ => some false
    | some (.slice _), .zslice _ _ _ _, .nslice _ _ => some false
    | some (.slice _), .nslice _ _, .hslice _ => some false
    | some (.slice _), .hslice _, .nslice _ _ => some false
    | some (.map _ _), .nmap, .nmap => some true
    | some (.map _ _), .nmap, .map _ => some false
    | some (.map _ _), .map _, .nmap => some false
    | some (.func _ _ _), .nfunc, .nfunc => some true
    | some (.func _ _ _), .nfunc, .func _ _ _ => some false
    | some (.func _ _ _), .func _ _ _, .nfunc => some false
    | some (.func _ _ _), .nfunc, .yld _ => some false
    | some (.func _ _ _), .yld _, .nfunc => some false
    | _, _, _ => none
def aEqual (t : TypeId) (x y : AV) : Option Bool := aEq P 12 t x y
def isC : Operand → Bool
  | .const _ => true
  | _ => false
def eqG (t : TypeId) (x y : Operand) (a b : AV) : Bool := match a, b with
  | .niface, .niface => isC x || isC y
  | .agg _, .agg _ => !P.eqGuardType P.depth t
  | .opq _, _ => false
  | _, .opq _ => false
  | _, _ => true
def guardOk (op : BinOp) (t : TypeId) (x y : Operand) (a b : AV) : Bool :=
  match op with
  | .eql => eqG P t x y a b
  | .neq => eqG P t x y a b
  | _ => true
def aInt (op : BinOp) (k : IntKind) (a b : Int) : Option AV :=
  match op with
  | .add => some (.int k (k.wrap (a + b)))
  | .sub => some (.int k (k.wrap (a - b)))
  | .mul => some (.int k (k.wrap (a * b)))
  | .quo => if b = 0 then none else some (.int k (k.wrap (a.tdiv b)))
  | .rem => if b = 0 then none else some (.int k (a.tmod b))
  | .and => some (.int k (k.wrap (BitVec.ofInt k.bits a &&& BitVec.ofInt k.bits b).toNat))
  | .or => some (.int k (k.wrap (BitVec.ofInt k.bits a ||| BitVec.ofInt k.bits b).toNat))
  | .xor => some (.int k (k.wrap (BitVec.ofInt k.bits a ^^^ BitVec.ofInt k.bits b).toNat))
  | .andNot => some (.int k (k.wrap (BitVec.ofInt k.bits a &&& ~~~ (BitVec.ofInt k.bits b)).toNat))
  | .eql => some (.bool (a == b))
  | .neq => some (.bool (a != b))
  | .lss => some (.bool (a < b))
  | .leq => some (.bool (a ≤ b))
  | .gtr => some (.bool (a > b))
  | .geq => some (.bool (a ≥ b))
  | _ => none
def aShift (op : BinOp) (k : IntKind) (x y : Int) : Option AV :=
  if y < 0 then none else
  match op with
  | .shl => some (.int k (k.wrap (x * 2 ^ (min y.toNat k.bits))))
  | .shr => some (.int k (x.fdiv (2 ^ (min y.toNat k.bits))))
  | _ => none
def aStr (op : BinOp) (x y : List UInt8) : Option AV :=
  match op with
  | .add => if ((x.length + y.length : Nat) : Int) > IntKind.i64.max then none else some (.str (x ++ y))
  | .eql => some (.bool (x == y))
  | .neq => some (.bool (!(x == y)))
  | .lss => some (.bool (Op.bytesLess x y))
  | .leq => some (.bool (Op.bytesLess x y || x == y))
  | .gtr => some (.bool (!(Op.bytesLess x y || x == y)))
  | .geq => some (.bool (!Op.bytesLess x y))
  | _ => none
def toSE : AV → Option (IntKind × SE)
  | .int k n => some (k, .lit n)
  | .sym k e => some (k, e)
  | _ => none
def isSym : AV → Bool
  | .sym _ _ => true
  | _ => false
def arithOp : BinOp → Bool
  | .add => true
  | .sub => true
  | .mul => true
  | _ => false
def cmpOp : BinOp → Bool
  | .eql => true
  | .neq => true
  | .lss => true
  | .leq => true
  | .gtr => true
  | .geq => true
  | _ => false
def symBin (op : BinOp) (x y : AV) : Option AV :=
  if isSym x || isSym y then (match toSE x, toSE y with
    | some (k, a), some (k', b) => if k = k' then (if arithOp op then some (.sym k (.bin op k a b)) else if cmpOp op then some (.symb (.cmp op a b) true) else none) else none
    | _, _ => none)
  else none
def aBinC (op : BinOp) (t : TypeId) (x y : AV) : Option AV :=
  match x, y with
  | .int k a, .int k' b => (match op with
    | .shl => aShift .shl k a b
    | .shr => aShift .shr k a b
    | op => if k = k' then aInt op k a b else none)
  | .str a, .str b => aStr op a b
  | .opq _, _ => none
  | _, .opq _ => none
  | x, y => (match op with
    | .eql => (aEqual P t x y).map .bool
    | .neq => (aEqual P t x y).map fun b => .bool (!b)
    | _ => none)
def aBin (op : BinOp) (t : TypeId) (x y : AV) : Option AV := if isSym x || isSym y then symBin op x y else aBinC P op t x y
def aUn (op : UnOp) (x : AV) : Option AV :=
  match op, x with
  | .neg, .int k n => some (.int k (k.wrap (0 - n)))
  | .xor, .int k n => some (.int k (k.wrap (BitVec.ofInt k.bits (if k.signed then -1 else k.max) ^^^ BitVec.ofInt k.bits n).toNat))
  | .not, .bool b => some (.bool (!b))
  | .not, .symb s pos => some (.symb s (!pos))
  | _, _ => none

/-! ### Maps -/
def keyOk : Nat → TypeId → AV → Bool
  | 0, _, _ => false
  | d + 1, t, v =>
    match P.underlying t, v with
    | some (.int _), .int _ _ => true
    | some .string, .str _ => true
    | some .bool, .bool _ => true
    | some (.struct fs), .agg cs => fs.toList.all fun f => f.name == "_" || (match aPart P f.type cs f.offset with | some a => keyOk d f.type a | none => false)
    | _, _ => false
def aFind (kt : TypeId) (k : AV) : List (AV × AV × Nat) → Nat → Option (Option (Nat × AV))
  | [], _ => some none
  | e :: es, i => match aEqual P kt k e.1 with
    | some true => some (some (i, e.2.1))
    | some false => aFind kt k es (i + 1)
    | none => none
/-- Keys of one scalar kind, found by their values at once. -/
def mapK (t : TypeId) : Option (TypeId × TypeId) := match P.underlying t with
  | some (.map k e) => some (k, e)
  | _ => none

/-! ### Operations that write nothing: the value, and the names that they look at -/
def constV : Value → Option AV
  | .bool b => some (.bool b)
  | .int k n => some (.int k n)
  | .pointer none => some .nptr
  | v => ofV v
def opv (tm : TM) : Operand → Option AV
  | .tmp t => some (tm.get t)
  | .const v => constV v
  | .global _ => none
  | .func f => some (.func f [] [])
def opvs (tm : TM) : List Operand → Option (List AV)
  | [] => some []
  | x :: r => (opv tm x).bind fun a => (opvs tm r).map fun b => a :: b
def aLoad (H : AH) (t : TypeId) (n off : Nat) : Option AV :=
  match H.get n, aggT P t with
  | some (.row cs _ _ _), some true => (match szOf P t with
    | some k => if off + k ≤ cs.length then some (.agg ((cs.drop off).take k)) else none
    | none => none)
  | some (.row cs _ _ _), some false => cs[off]?
  | _, _ => none
def setAt (cells : List AV) (off : Nat) (vs : List AV) : List AV := cells.take off ++ vs ++ cells.drop (off + vs.length)
def aFill (place : Nat → Option (Nat × Nat)) (cells : List AV) : List (Nat × AV) → Option (List AV)
  | [] => some cells
  | (i, v) :: rest => match place i with
    | none => none
    | some (off, size) => if v.cells.length ≠ size || off + v.cells.length > cells.length then none else aFill place (setAt cells off v.cells) rest
def opvp (tm : TM) : List (Nat × Operand) → Option (List (Nat × AV))
  | [] => some []
  | (i, x) :: r => (opv tm x).bind fun a => (opvp tm r).map fun b => (i, a) :: b
def fieldPlaces : List Field → Option (List (Nat × Nat))
  | [] => some []
  | f :: r => (szOf P f.type).bind fun n => (fieldPlaces r).map fun b => (f.offset, n) :: b
def aBuild (t : TypeId) (parts : List (Nat × AV)) : Option AV :=
  (zeroT P t).bind fun z => match P.underlying t with
    | some (.struct fs) => (fieldPlaces P fs.toList).bind fun pl => (aFill (fun i => pl[i]?) z.cells parts).map .agg
    | some (.array _ e) => (szOf P e).bind fun n => (aFill (fun i => some (i * n, n)) z.cells parts).map .agg
    | _ => none
def optv (tm : TM) : Option Operand → Option (Option AV)
  | none => some none
  | some x => (opv tm x).map some
def aBound (x : AV) (y : Nat) : Option Nat := match x with
  | .int _ i => if 0 ≤ i ∧ i ≤ y then some i.toNat else none
  | _ => none
def bndM (cap : Nat) : Option AV → Option Nat
  | some v => aBound v cap
  | none => some cap
def bndH (len m : Nat) (mx : Option AV) : Option AV → Option Nat
  | some v => aBound v m
  | none => match mx with | none => some len | some _ => none
def bndL (h : Nat) : Option AV → Option Nat
  | some v => aBound v h
  | none => some 0
def aBounds (len cap : Nat) (lo hi mx : Option AV) : Option (Nat × Nat × Nat) :=
  (bndM cap mx).bind fun m => (bndH len m mx hi).bind fun h => (bndL h lo).map fun l => (l, h, m)
def rowHas (H : AH) (n k : Nat) : Bool := match H.get n with | some (.row cs _ _ _) => Nat.ble k cs.length | _ => false
def aSlice (H : AH) (t : TypeId) (x : AV) (lo hi mx : Option AV) : Option AV :=
  match P.underlying t, x with
  | some .string, .str s => if mx.isSome then none else (aBounds s.length s.length lo hi none).map fun (l, h, _) => .str ((s.take h).drop l)
  | some (.slice e), .nslice len cap => (aBounds len cap lo hi mx).bind fun (l, h, m) => (szOf P e).map fun _ => .nslice (h - l) (m - l)
  | some (.slice e), .slice n off len cap => (aBounds len cap lo hi mx).bind fun (l, h, m) => (szOf P e).map fun z => .slice n (if m = l then off else off + l * z) (h - l) (m - l)
  | some (.slice e), .eslice n off len z => match mx, szOf P e with
    | none, some (z' + 1) => if z = z' + 1 ∧ rowHas H n (off + len * z) = true then (aBounds len len lo hi none).bind fun (l, h, _) => if l < h ∨ l = 0 then some (.eslice n (off + l * z) (h - l) z) else some (.zslice n off l z) else none
    | _, _ => none
  | some (.slice e), .zslice n off l z => match mx, szOf P e with
    | none, some _ => (aBounds 0 0 lo hi none).map fun _ => .zslice n off l z
    | _, _ => none
  | some (.slice e), .hslice a => match mx, szOf P e with
    | none, some _ => (aBounds 0 0 lo hi none).map fun _ => .hslice a
    | _, _ => none
  | some (.array k e), .ptr n off => (aBounds k k lo hi mx).bind fun (l, h, m) => (szOf P e).map fun z => .slice n (if m = l then off else off + l * z) (h - l) (m - l)
  | _, _ => none
def aIndexAt (t : TypeId) (x i : AV) : Option AV :=
  match i with
  | .int _ i => (match P.underlying t, x with
    | some (.array len e), .ptr n off => if 0 ≤ i ∧ i < len then (szOf P e).map fun z => .ptr n (off + i.toNat * z) else none
    | some (.slice e), .slice n off len _ => if 0 ≤ i ∧ i < len then (szOf P e).map fun z => .ptr n (off + i.toNat * z) else none
    | some (.slice e), .eslice n off len _ => if 0 ≤ i ∧ i < len then (szOf P e).map fun z => .ptr n (off + i.toNat * z) else none
    | _, _ => none)
  | _ => none
def aIndex (t : TypeId) (x i : AV) : Option AV :=
  match i with
  | .int _ i => (match P.underlying t, x with
    | some (.array len e), .agg cs => if 0 ≤ i ∧ i < len then (szOf P e).bind fun z => aPart P e cs (i.toNat * z) else none
    | some .string, .str s => if 0 ≤ i then (s[i.toNat]?).map fun b => .int .u8 b.toNat else none
    | _, _ => none)
  | _ => none
def aLen (H : AH) (t : TypeId) (x : AV) : Option (AV × List Nat) :=
  match P.underlying t, x with
  | some .string, .str s => some (.int .i64 s.length, [])
  | some (.array n _), _ => some (.int .i64 n, [])
  | some (.slice _), .nslice n _ => some (.int .i64 n, [])
  | some (.slice _), .slice _ _ n _ => some (.int .i64 n, [])
  | some (.slice _), .eslice _ _ n _ => some (.int .i64 n, [])
  | some (.slice _), .zslice _ _ _ _ => some (.int .i64 0, [])
  | some (.slice _), .hslice _ => some (.int .i64 0, [])
  | some (.map _ _), .nmap => some (.int .i64 0, [])
  | some (.map _ _), .map n => (match H.get n with | some (.map es _) => some (.int .i64 es.length, [n]) | _ => none)
  | _, _ => none
def aMinMax (mx : Bool) : AV → List AV → Option AV
  | x, [] => some x
  | .int k x, .int k' y :: r => if k = k' then aMinMax mx (.int k (if mx then (if y > x then y else x) else (if y < x then y else x))) r else none
  | _, _ => none
def aCap (t : TypeId) (x : AV) : Option AV :=
  match P.underlying t, x with
  | some (.array n _), _ => some (.int .i64 n)
  | some (.slice _), .nslice _ c => some (.int .i64 c)
  | some (.slice _), .slice _ _ _ c => some (.int .i64 c)
  | _, _ => none
abbrev AE := Option (AV × List Nat)
def eMove (tm : TM) (x : Operand) : AE := (opv tm x).map fun v => (v, [])
/-- A truth, as far as it is known. -/
def boolOf (pc : List (SB × Bool)) : AV → Option Bool
  | .bool b => some b
  | .symb s pos => (pcFind s pc).map fun v => v == pos
  | _ => none
def ePick (pc : List (SB × Bool)) (tm : TM) (c a b : Operand) : AE := match (opv tm c).bind (boolOf pc) with
  | some true => (opv tm a).map fun v => (v, [])
  | some false => (opv tm b).map fun v => (v, [])
  | none => none
def nilOk : AV → Bool
  | .ptr _ _ => true
  | .func _ _ _ => true
  | .yld _ => true
  | .iface _ _ => true
  | .map _ => true
  | _ => false
def eNil (tm : TM) (x : Operand) : AE := (opv tm x).bind fun v => if nilOk v then some (v, []) else none
def eBin (tm : TM) (op : BinOp) (t : TypeId) (x y : Operand) : AE := match opv tm x, opv tm y with
  | some a, some b => if guardOk P op t x y a b then (aBin P op t a b).map fun v => (v, []) else none
  | _, _ => none
def eUn (tm : TM) (op : UnOp) (x : Operand) : AE := (opv tm x).bind fun a => (aUn op a).map fun v => (v, [])
def eConv (tm : TM) (s d : TypeId) (x : Operand) : AE := match P.underlying s, P.underlying d, opv tm x with
  | some _, some (.int k), some (.int _ n) => some (.int k (k.wrap n), [])
  | some _, some (.int k), some (.sym _ e) => some (.sym k (.conv k e), [])
  | some _, some .string, some (.str s) => some (.str s, [])
  | _, _, _ => none
/-- Bytes, out of cells. -/
def bytesL : List AV → Option (List UInt8)
  | [] => some []
  | .int .u8 n :: r => if (n.toNat.toUInt8.toNat : Int) = n then (bytesL r).map fun l => n.toNat.toUInt8 :: l else none
  | _ :: _ => none
def textAt (H : AH) (n off len : Nat) : AE := match H.get n with
  | some (.row cs _ _ _) => if off + len ≤ cs.length then (bytesL ((cs.drop off).take len)).map fun l => (.str l, [n]) else none
  | _ => none
/-- A string out of bytes. -/
def eText (H : AH) (tm : TM) (s d : TypeId) (x : Operand) : AE := match P.underlying s, P.underlying d, opv tm x with
  | some (.slice e), some .string, some v => (match P.underlying e, v with
    | some (.int .u8), .nslice _ _ => some (.str [], [])
    | some (.int .u8), .slice n off len _ => textAt H n off len
    | some (.int .u8), .eslice n off len _ => textAt H n off len
    | some (.int .u8), .zslice _ _ _ _ => some (.str [], [])
    | _, _ => none)
  | _, _, _ => none
def eConvert (H : AH) (tm : TM) (s d : TypeId) (x : Operand) : AE := match eConv P tm s d x with
  | some r => some r
  | none => eText P H tm s d x
def eIface (tm : TM) (t : TypeId) (x : Operand) : AE := match P.underlying t with
  | some (.interface _) => none
  | some _ => (opv tm x).map fun v => (.iface t v, [])
  | none => none
def eFunc (tm : TM) (f : FuncId) (a b : Array Operand) : AE := (opvs tm a.toList).bind fun a => (opvs tm b.toList).map fun b => (.func f a b, [])
def eExtract (tm : TM) (x : Operand) (i : Nat) : AE := match opv tm x with
  | some (.tuple vs) => (vs[i]?).map fun v => (v, [])
  | _ => none
def eField (tm : TM) (t : TypeId) (x : Operand) (f : Nat) : AE := match aFieldOff P t f, opv tm x with
  | some (ft, off), some (.agg cs) => (aPart P ft cs off).map fun v => (v, [])
  | _, _ => none
def eFieldAddr (tm : TM) (t : TypeId) (x : Operand) (f : Nat) : AE := match aFieldOff P t f, opv tm x with
  | some (ft, off), some (.ptr n p) => (match szOf P ft with | some (_ + 1) => some (.ptr n (p + off), []) | _ => none)
  | _, _ => none
def eIndexAddr (tm : TM) (t : TypeId) (x i : Operand) : AE := match opv tm x, opv tm i with | some x, some i => (aIndexAt P t x i).map fun v => (v, []) | _, _ => none
def eIndex (tm : TM) (t : TypeId) (x i : Operand) : AE := match opv tm x, opv tm i with | some x, some i => (aIndex P t x i).map fun v => (v, []) | _, _ => none
def eLoad (H : AH) (tm : TM) (t : TypeId) (x : Operand) : AE := match opv tm x with
  | some (.ptr n off) => (aLoad P H t n off).map fun v => (v, [n])
  | _ => none
def eSlice (H : AH) (tm : TM) (t : TypeId) (x : Operand) (lo hi mx : Option Operand) : AE := match opv tm x, optv tm lo, optv tm hi, optv tm mx with
  | some x, some lo, some hi, some mx => (aSlice P H t x lo hi mx).map fun v => (v, [])
  | _, _, _, _ => none
def eBuild (tm : TM) (t : TypeId) (parts : Array (Nat × Operand)) : AE := (opvp tm parts.toList).bind fun ps => (aBuild P t ps).map fun v => (v, [])
def okd (ok : Bool) (v : AV) (b : Bool) : AV := if ok then .tuple [v, .bool b] else v
def eLookup (H : AH) (tm : TM) (t : TypeId) (x i : Operand) (ok : Bool) : AE := match mapK P t, opv tm x, opv tm i with
  | some (kt, et), some .nmap, some k => if keyOk P 9 kt k then (zeroT P et).map fun z => (okd ok z false, []) else none
  | some (kt, et), some (.map n), some k => if keyOk P 9 kt k then (match H.get n with
    | some (.map es _) => (match aFind P kt k es 0 with
      | some (some (_, v)) => some (okd ok v true, [n])
      | some none => (zeroT P et).map fun z => (okd ok z false, [n])
      | none => none)
    | _ => none) else none
  | _, _, _ => none
def eBuiltin (H : AH) (tm : TM) (b : Builtin) (ts : Array TypeId) (args : Array Operand) : AE := match b with
  | .len => (match ts.toList, opvs tm args.toList with | t :: _, some (x :: _) => aLen P H t x | _, _ => none)
  | .cap => (match ts.toList, opvs tm args.toList with | t :: _, some (x :: _) => (aCap P t x).map fun v => (v, []) | _, _ => none)
  | .max => (match opvs tm args.toList with | some (x :: r) => (aMinMax true x r).map fun v => (v, []) | _ => none)
  | .min => (match opvs tm args.toList with | some (x :: r) => (aMinMax false x r).map fun v => (v, []) | _ => none)
  | _ => none
def aEntry (H : AH) (it : AV) : AE :=
  match it with
  | .ptr n 0 =>
    (match H.get n with
    | some (.iter (some m) _ seen last) =>
      (match H.get m, seen.getLast? with
      | some (.map es clock), some s => if clock = last then (es.find? fun e => e.2.2 == s).map fun e => (.tuple [e.1, e.2.1], [n, m]) else none
      | _, _ => none)
    | _ => none)
  | _ => none
def aEarly (H : AH) (tm : TM) (op : Op) : AE :=
  match op with
  | .move x => eMove tm x
  | .assign x => eMove tm x
  | .pick c a b => ePick H.pc tm c a b
  | .nilCheck x => eNil tm x
  | .binOp op t x y _ => eBin P tm op t x y
  | .unOp op _ x => eUn tm op x
  | .convert s d x => eConvert P H tm s d x
  | .makeInterface t x => eIface P tm t x
  | .makeFunc (.func f) a b => eFunc tm f a b
  | .extract x i => eExtract tm x i
  | .field t x f => eField P tm t x f
  | .fieldAddr t x f => eFieldAddr P tm t x f
  | .indexAddr t x i => eIndexAddr P tm t x i
  | .index t x i => eIndex P tm t x i
  | .load t x => eLoad P H tm t x
  | .slice t x lo hi mx => eSlice P H tm t x lo hi mx
  | .build t parts => eBuild P tm t parts
  | .lookup t x i ok => eLookup P H tm t x i ok
  | .call ⟨.builtin b, args, ts⟩ => eBuiltin P H tm b ts args
  | .entry x => (opv tm x).bind (aEntry H)
  | _ => none
end Go.Sx
/- A symbolic run of the program: operations that write, one step of the machine, the run. No fact about it stands here. -/
namespace Go.Sx
open Go

inductive AN where
  | val (v : AV)
  | skip
  | enter (f : FuncId) (args : List AV)
  | round (l : Nat) (fn : FuncId) (tm : TM) (assign body : Code)
  deriving Inhabited
/-- What an operation comes to, the heap behind it, the names whose blocks it may have written. -/
abbrev AR := AN × AH × List Nat
variable (P : Program)

def AObj.isView : AObj → Bool
  | .row _ _ _ .view => true
  | _ => false
def AObj.old : AObj → Option Nat
  | .row _ _ _ (.own o) => o
  | _ => none
/-- The row, its elder name gone, when it is written. -/
def AH.write (H : AH) (n : Nat) (cells : List AV) (elem : TypeId) (exact : Bool) (old : Option Nat) : AH :=
  (match old with | some m => H.del m | none => H).put n (.row cells elem exact (.own none))
def aStore (H : AH) (t : TypeId) (n off : Nat) (v : AV) : Option AR :=
  match H.get n, szOf P t with
  | some (.row cells e ex (.own old)), some k =>
    if v.cells.length = k && off + k ≤ cells.length && v.cells.all AV.single then some (.skip, H.write n (setAt cells off v.cells) e ex old, n :: old.toList) else none
  | _, _ => none
/-- The cells that a slice, or a string, starts with. -/
def aFirst (H : AH) (size n : Nat) : AV → Option (List AV)
  | .nslice _ _ => some []
  | .slice m off _ _ => (match H.get m with | some (.row cs _ _ _) => if off + n * size ≤ cs.length then some ((cs.drop off).take (n * size)) else none | _ => none)
  | .eslice m off _ _ => (match H.get m with | some (.row cs _ _ _) => if off + n * size ≤ cs.length then some ((cs.drop off).take (n * size)) else none | _ => none)
  | .zslice _ _ _ _ => if n = 0 then some [] else none
  | .hslice _ => if n = 0 then some [] else none
  | .str s => some ((s.take n).map fun b => .int .u8 b.toNat)
  | _ => none
def aLenOf : AV → Option Nat
  | .nslice n _ => some n
  | .slice _ _ n _ => some n
  | .eslice _ _ n _ => some n
  | .zslice _ _ _ _ => some 0
  | .hslice _ => some 0
  | .str s => some s.length
  | _ => none
def reps (z : List AV) : Nat → List AV
  | 0 => []
  | n + 1 => z ++ reps z n
def bytesT (t : TypeId) : Nat := ((P.info? t).map (·.bytes)).getD 0
def roomy (e : TypeId) (need : Nat) : Bool := Nat.ble need 140737488355328 && Nat.ble ((8 * need + 8192) * bytesT P e) 140737488355328
def AH.unold (H : AH) (old : Option Nat) : AH := match old with | some m => H.del m | none => H
/-- How many elements come, and their cells. -/
def appN (H : AH) (e : TypeId) (size : Nat) (zv : AV) (made : Bool) (x : AV) : Option (Nat × List AV) :=
  if made then (match x with
    | .int _ l => if 0 ≤ l && l ≤ 1000000 && Nat.ble (l.toNat * bytesT P e) 140737488355328 then some (l.toNat, reps zv.cells l.toNat) else none
    | _ => none)
  else (aLenOf x).bind fun n => (aFirst H size n x).map fun l => (n, l)
def appSlice (H : AH) (e : TypeId) (size n : Nat) (new : List AV) (m off len cap : Nat) : Option (List AR) :=
  match H.get m with
  | some (.row cs e' ex st) =>
    if len + n ≤ cap then
      (if n = 0 then some [(.val (.slice m off len cap), H, [])] else
      match st with
      | .own old => if off + (len + n) * size ≤ cs.length && new.all AV.single then some [(.val (.slice m off (len + n) cap), H.write m (setAt cs (off + len * size) new) e' ex old, m :: old.toList)] else none
      | .view => none)
    else if off + len * size ≤ cs.length && roomy P e (len + n) then some [(.val (.eslice H.nx 0 (len + n) size), H.new (.row ((cs.drop off).take (len * size) ++ new) e false (.own none)), [])] else none
  | _ => none
def appEnd (H : AH) (e : TypeId) (size n : Nat) (new : List AV) (m off len sz : Nat) : Option (List AR) :=
  match H.get m with
  | some (.row cs e' false (.own old)) =>
    if sz = size && e' = e && n ≠ 0 && off + (len + n) * size ≤ cs.length && new.all AV.single then
      some [(.val (.eslice m off (len + n) sz), H.write m (setAt cs (off + len * size) new) e' false old, m :: old.toList)] else
    if sz = size && e' = e && off + len * size = cs.length && new.all AV.single then
      if n = 0 then some [(.val (.eslice m off len sz), H, [])] else
      if !roomy P e (len + n) then none else
      some [(.val (.eslice H.nx 0 (len + n) size), ((H.unold old).put m (.row cs e' false .view)).new (.row (cs.drop off ++ new) e false (.own (some m))), m :: old.toList)]
    else none
  | _ => none
def appTo (H : AH) (e : TypeId) (size n : Nat) (new : List AV) (s : AV) : Option (List AR) :=
  match s with
  | .nslice 0 0 => if n = 0 then some [(.val (.nslice 0 0), H, [])] else if roomy P e n then some [(.val (.eslice H.nx 0 n size), H.new (.row new e false (.own none)), [])] else none
  | .slice m off len cap => appSlice P H e size n new m off len cap
  | .eslice m off len sz => appEnd P H e size n new m off len sz
  | _ => none
def madeT (t : Option TypeId) : Bool := match t with
  | some u => (match P.underlying u with | some (.int _) => true | _ => false)
  | none => false
def aAppend (H : AH) (ts : List TypeId) (args : List AV) : Option (List AR) :=
  match ts, args with
  | t :: tr, s :: x :: _ => (match P.underlying t with
    | some (.slice e) => (match szOf P e, zeroT P e with
      | some (z + 1), some zv =>
        if zv.cells.length = z + 1 && (tr.all fun u => (P.underlying u).isSome) then
          (appN P H e (z + 1) zv (madeT P tr.head?) x).bind fun (n, new) => if new.length = n * (z + 1) then appTo P H e (z + 1) n new s else none
        else none
      | _, _ => none)
    | _ => none)
  | _, _ => none
def copyTo (H : AH) (size xl m off len : Nat) (x : AV) : Option (List AR) :=
  match aFirst H size (Nat.min xl len) x, H.get m with
  | some new, some (.row cs e ex (.own old)) =>
    if new.length = Nat.min xl len * size && off + Nat.min xl len * size ≤ cs.length && new.all AV.single then some [(.val (.int .i64 (Nat.min xl len : Nat)), H.write m (setAt cs off new) e ex old, m :: old.toList)] else none
  | _, _ => none
def aCopy (H : AH) (ts : List TypeId) (args : List AV) : Option (List AR) :=
  match ts, args with
  | t :: _, d :: x :: _ => (match P.underlying t with
    | some (.slice e) => (match szOf P e, aLenOf x with
      | some size, some xl => (match d with
        | .nslice 0 0 => (match aFirst H size 0 x with | some [] => some [(.val (.int .i64 0), H, [])] | _ => none)
        | .slice m off len _ => copyTo H size xl m off len x
        | .eslice m off len _ => copyTo H size xl m off len x
        | _ => none)
      | _, _ => none)
    | _ => none)
  | _, _ => none
mutual
def same : Nat → AV → AV → Bool
  | 0, _, _ => false
  | _ + 1, .bool a, .bool b => a == b
  | _ + 1, .int j a, .int k b => j == k && a == b
  | _ + 1, .str a, .str b => a == b
  | d + 1, .agg a, .agg b => sames d a b
  | _, _, _ => false
def sames : Nat → List AV → List AV → Bool
  | _, [], [] => true
  | d, x :: a, y :: b => same d x y && sames d a b
  | _, _, _ => false
end
def modAt {α : Type} (f : α → α) : List α → Nat → List α
  | [], _ => []
  | x :: r, 0 => f x :: r
  | x :: r, i + 1 => x :: modAt f r i
/-- The entry of a key is there: its number, what it holds; or it is laid. -/
def aMapPut (H : AH) (t : TypeId) (m k v : AV) : Option (List AR) :=
  match mapK P t, m with
  | some (kt, _), .map n =>
    (match H.get n with
    | some (.map es clock) => if keyOk P 9 kt k then
        (match aFind P kt k es 0 with
        | some (some (i, _)) => (match es[i]? with
          | some e => if same 9 e.1 k then some [(.skip, H.put n (.map (modAt (fun e => (k, v, e.2.2)) es i) clock), [n])] else none
          | none => none)
        | some none => some [(.skip, H.put n (.map (es ++ [(k, v, clock)]) (clock + 1)), [n])]
        | none => none) else none
    | _ => none)
  | _, _ => none
def aMapEntry (H : AH) (t : TypeId) (m k : AV) : Option (List AR) :=
  match mapK P t, m with
  | some (kt, et), .map n =>
    (match H.get n with
    | some (.map es clock) => if keyOk P 9 kt k then
        (match aFind P kt k es 0 with
        | some (some (i, v)) => (match es[i]? with
          | some e => if same 9 e.1 k then some [(.val (.tuple [v, .int .i64 e.2.2]), H.put n (.map (modAt (fun e => (k, e.2.1, e.2.2)) es i) clock), [n])] else none
          | none => none)
        | some none => (zeroT P et).map fun z => [(.val (.tuple [z, .int .i64 clock]), H.put n (.map (es ++ [(k, z, clock)]) (clock + 1)), [n])]
        | none => none) else none
    | _ => none)
  | _, _ => none
def aBorn (b : Int) : List (AV × AV × Nat) → Nat → Option Nat
  | [], _ => none
  | e :: r, i => if ((e.2.2 : Nat) : Int) == b then some i else aBorn b r (i + 1)
def aEntryStore (H : AH) (m s v : AV) : Option (List AR) :=
  match m, s with
  | .map n, .int _ b =>
    (match H.get n with
    | some (.map es clock) => (aBorn b es 0).map fun i => [(.skip, H.put n (.map (modAt (fun e => (e.1, v, e.2.2)) es i) clock), [n])]
    | _ => none)
  | _, _ => none
def aDelete (H : AH) (ts : List TypeId) (args : List AV) : Option (List AR) :=
  match ts, args with
  | t :: _, m :: k :: _ =>
    (match mapK P t, m with
    | some (kt, _), .nmap => if keyOk P 9 kt k then some [(.val (.tuple []), H, [])] else none
    | some (kt, _), .map n =>
      (match H.get n with
      | some (.map es clock) => if keyOk P 9 kt k then
          (match aFind P kt k es 0 with
          | some (some (i, _)) => some [(.val (.tuple []), H.put n (.map (es.eraseIdx i) clock), [n])]
          | some none => some [(.val (.tuple []), H.put n (.map es clock), [n])]
          | none => none) else none
      | _ => none)
    | _, _ => none)
  | _, _ => none
def aNext (H : AH) (it : AV) : Option (List AR) :=
  match it with
  | .ptr n 0 =>
    (match H.get n with
    | some (.iter none _ _ _) => some [(.val (.tuple [.bool false]), H, [])]
    | some (.iter (some m) since seen last) =>
      (match H.get m with
      | some (.map es clock) =>
        if !seen.isEmpty && !es.isEmpty && es.all (fun e => Nat.ble last e.2.2) then none else
        let left := es.filter fun e => !seen.contains e.2.2
        let old := left.filter fun e => Nat.blt e.2.2 since
        let new := left.filter fun e => !Nat.blt e.2.2 since
        some ((if old.isEmpty then [(.val (.tuple [.bool false]), H, [])] else []) ++ (old ++ new).map fun e => (.val (.tuple [.bool true, e.1, e.2.1]), H.put n (.iter (some m) since (seen ++ [e.2.2]) clock), [n]))
      | _ => none)
    | _ => none)
  | _ => none
def hasBody (f : FuncId) : Bool := match P.funcs[f]? with | some fn => fn.body.isSome | none => false
def setTmps (tm : TM) : List Tmp → List AV → TM
  | t :: ts, a :: as => setTmps (tm.set t a) ts as
  | _, _ => tm
/-- Functions without a body that are told here: how often a byte stands in a string, where it stands first. -/
def byteN (c : UInt8) : List UInt8 → Nat → Nat
  | [], n => n
  | x :: r, n => byteN c r (if x == c then n + 1 else n)
def byteAt (c : UInt8) : List UInt8 → Nat → Option Nat
  | [], _ => none
  | x :: r, i => if x == c then some i else byteAt c r (i + 1)
def aExtN (name : String) (args : List AV) : Option AV :=
  if name = "internal/bytealg.CountString" then (match args with | [.str s, .int .u8 c] => some (.int .i64 (byteN c.toNat.toUInt8 s 0 : Nat)) | _ => none)
  else if name = "internal/bytealg.IndexByteString" then (match args with | [.str s, .int .u8 c] => (match byteAt c.toNat.toUInt8 s 0 with | some i => some (.int .i64 (i : Nat)) | none => some (.int .i64 (-1))) | _ => none)
  else none
def aExt (g : FuncId) (args : List AV) : Option AV := match P.funcs[g]? with
  | some fn => if fn.body.isNone && fn.origin == "" then aExtN fn.name args else none
  | none => none
def aCall (H : AH) (f : AV) (args : List AV) : Option AN :=
  match f with
  | .func g first captured => if hasBody P g then some (.enter g (first ++ args ++ captured)) else (aExt P g (first ++ args ++ captured)).map .val
  | .yld l => (match H.get l with
    | some (.loop _ _ fn tm ps assign body _) => if args.length = ps.size then some (.round l fn (setTmps tm ps.toList args) assign body) else none
    | _ => none)
  | _ => none
abbrev AWs := Option (List AR)
def wAlloc (H : AH) (t : TypeId) : AWs := (zeroT P t).map fun z => [(.val (.ptr H.nx 0), H.new (.row z.cells t true (.own none)), [])]
def wBox (H : AH) (tm : TM) (t : TypeId) (x : Operand) : AWs := (opv tm x).map fun v => [(.val (.ptr H.nx 0), H.new (.row v.cells t true (.own none)), [])]
def wBuildSlice (H : AH) (tm : TM) (t : TypeId) (len : Nat) (parts : Array (Nat × Operand)) : AWs := match P.underlying t with
  | some (.slice e) => (match szOf P e, zeroT P e, opvp tm parts.toList with
    | some size, some z, some ps => if len * size ≤ 16777216 && z.cells.length = size && 0 < size then
        (aFill (fun i => some (i * size, size)) (reps z.cells len) ps).map fun cs => [(.val (.slice H.nx 0 len len), H.new (.row cs e true (.own none)), [])] else none
    | _, _, _ => none)
  | _ => none
def wMakeMap (H : AH) (tm : TM) (t : TypeId) (r : Option Operand) : AWs := match r with
  | none => some [(.val (.map H.nx), H.new (.map [] 0), [])]
  | some x => (match mapK P t, opv tm x with | some _, some (.int _ _) => some [(.val (.map H.nx), H.new (.map [] 0), [])] | _, _ => none)
def wMakeSlice (H : AH) (tm : TM) (t : TypeId) (l c : Operand) : AWs := match P.underlying t, opv tm l, opv tm c with
  | some (.slice e), some (.int _ l), some (.int _ c) => (match szOf P e, zeroT P e with
    | some size, some z => if 0 ≤ l && l ≤ c && c ≤ 1000000 && c.toNat * bytesT P e ≤ 140737488355328 && z.cells.length = size && 0 < size then
        some [(.val (.slice H.nx 0 l.toNat c.toNat), H.new (.row (reps z.cells c.toNat) e true (.own none)), [])] else none
    | _, _ => none)
  | _, _, _ => none
def wStore (H : AH) (tm : TM) (t : TypeId) (a x : Operand) : AWs := match opv tm a, opv tm x with
  | some (.ptr n off), some v => (aStore P H t n off v).map fun r => [r]
  | _, _ => none
def wMapPut (H : AH) (tm : TM) (t : TypeId) (m k x : Operand) : AWs := match opv tm m, opv tm k, opv tm x with | some m, some k, some v => aMapPut P H t m k v | _, _, _ => none
def wMapEntry (H : AH) (tm : TM) (t : TypeId) (m k : Operand) : AWs := match opv tm m, opv tm k with | some m, some k => aMapEntry P H t m k | _, _ => none
def wEntryStore (H : AH) (tm : TM) (m s x : Operand) : AWs := match opv tm m, opv tm s, opv tm x with | some m, some s, some v => aEntryStore H m s v | _, _, _ => none
def wRange (H : AH) (tm : TM) (t : TypeId) (x : Operand) : AWs := match mapK P t, opv tm x with
  | some _, some .nmap => some [(.val (.ptr H.nx 0), H.new (.iter none 0 [] 0), [])]
  | some _, some (.map n) => (match H.get n with | some (.map _ clock) => some [(.val (.ptr H.nx 0), H.new (.iter (some n) clock [] clock), [])] | _ => none)
  | _, _ => none
def wCall (H : AH) (tm : TM) (f : Operand) (args : Array Operand) : AWs := match opv tm f, opvs tm args.toList with | some f, some args => (aCall P H f args).map fun n => [(n, H, [])] | _, _ => none
def wBuiltin (H : AH) (tm : TM) (b : Builtin) (ts : Array TypeId) (args : Array Operand) : AWs := match b with
  | .append => (opvs tm args.toList).bind (aAppend P H ts.toList)
  | .copy => (opvs tm args.toList).bind (aCopy P H ts.toList)
  | .delete => (opvs tm args.toList).bind (aDelete P H ts.toList)
  | _ => none
/-- The bytes of a string. -/
def wBytes (H : AH) (tm : TM) (s d : TypeId) (x : Operand) : AWs := match P.underlying s, P.underlying d, opv tm x with
  | some .string, some (.slice e), some (.str l) => (match P.underlying e with
    | some (.int .u8) => some [(.val (.eslice H.nx 0 l.length 1), H.new (.row (l.map fun b => .int .u8 (b.toNat : Nat)) e false (.own none)), [])]
    | _ => none)
  | _, _, _ => none
def aW (H : AH) (tm : TM) (op : Op) : AWs :=
  match op with
  | .alloc t => wAlloc P H t
  | .box t x => wBox H tm t x
  | .buildSlice t len parts => wBuildSlice P H tm t len parts
  | .makeMap t r => wMakeMap P H tm t r
  | .makeSlice t l c => wMakeSlice P H tm t l c
  | .store t a x => wStore P H tm t a x
  | .mapUpdate t m k x => wMapPut P H tm t m k x
  | .insert t m k x => wMapPut P H tm t m k x
  | .mapEntry t m k => wMapEntry P H tm t m k
  | .entryStore _ m s x => wEntryStore H tm m s x
  | .range t x => wRange P H tm t x
  | .next x false => (opv tm x).bind (aNext H)
  | .convert s d x => wBytes P H tm s d x
  | .call ⟨.value f, args, _⟩ => wCall P H tm f args
  | .call ⟨.builtin b, args, ts⟩ => wBuiltin P H tm b ts args
  | _ => none

/-! ### The machine -/
inductive AIt where
  | code (c : Code)
  | inBlock (id : Nat)
  | inLoop (c : Code)
  | reg (ops : Array Oper) (i : Nat) (rest : List Oper)
  | any (ops : Array Oper) (ok : Bool) (done pos : Nat) (pend : List (Nat × List Nat)) (cur : Option Nat)
  | inRange (l : Nat)
  | endRange (l : Nat)
  | beginRound
  deriving Inhabited
/-- A deferred call: what a loop's body has deferred, or a function and its arguments. -/
inductive ADef where
  | coll (n : Nat)
  | fn (f : FuncId) (args : List AV)
  deriving Inhabited
structure AFr where
  fn : FuncId
  tm : TM
  todo : List AIt
  defers : List ADef
  ret : Bool
  rnd : Option Nat
  dfr : Bool := false
  pan : Option (AV × Bool) := none
  deriving Inhabited
structure AM where
  top : AFr
  below : List AFr
  H : AH
  deriving Inhabited

def aPut (tm : TM) (d : Option Tmp) (v : AV) : TM := match d with | some t => tm.set t v | none => tm
def aWanted (pc : List (SB × Bool)) (ops : Array Oper) (tm : TM) (o : Oper) : Option Bool :=
  match o.guard with
  | none => some true
  | some (j, want) => match (opAt ops j).bind (·.dst) with
    | some d => (match tm.get d with | .bool b => some (b == want) | .opq _ => none | .symb s pos => (pcFind s pc).map fun v => (v == pos) == want | _ => some false)
    | none => some false
/-- What must be known ahead of an operation, and is not. -/
def unknownB (pc : List (SB × Bool)) (v : AV) : Option SB := match v with
  | .symb s _ => (match pcFind s pc with | none => some s | some _ => none)
  | _ => none
def opWants (pc : List (SB × Bool)) (ops : Array Oper) (tm : TM) (o : Oper) : Option SB :=
  match (match o.guard with
    | none => none
    | some (j, _) => ((opAt ops j).bind (·.dst)).bind fun d => unknownB pc (tm.get d)) with
  | some s => some s
  | none => match o.op with
    | .pick c _ _ => (opv tm c).bind (unknownB pc)
    | _ => none
def wantsAll (pc : List (SB × Bool)) (ops : Array Oper) (tm : TM) : List Nat → Option SB
  | [] => none
  | i :: r => match (opAt ops i).bind (opWants pc ops tm) with | some s => some s | none => wantsAll pc ops tm r
def AFr.finish (f : AFr) (v : AV) : Option AFr :=
  match f.todo with
  | .reg ops i (o :: r) :: k => some { f with tm := aPut f.tm o.dst v, todo := .reg ops (i + 1) r :: k }
  | .any ops ok done _ pend (some i) :: k => some { f with tm := aPut f.tm ((opAt ops i).bind (·.dst)) v, todo := .any ops ok (done ||| 2 ^ i) (i + 1) pend none :: k }
  | .inRange l :: k => some { f with todo := .endRange l :: k }
  | _ => none
def pendNames : List (Nat × List Nat) → List Nat
  | [] => []
  | p :: r => p.2 ++ pendNames r
def framePend (f : AFr) : List Nat := match f.todo with
  | .any _ _ _ _ pend _ :: _ => pendNames pend
  | _ => []
def stackPend : List AFr → List Nat
  | [] => []
  | f :: r => framePend f ++ stackPend r
/-- What was looked at ahead of its turn is not written. -/
def apartOk (H : AH) (pend : List Nat) (touched : List Nat) : Bool :=
  pend.isEmpty || (match touched with
    | [] => true
    | n :: _ => (match H.get n with
      | some o => !o.isView && (match o.old with | some m => touched.contains m | none => true)
      | none => false) && pend.all fun p => !touched.contains p && (H.get p).isSome)
def exitA (id : Nat) : List AIt → Option (List AIt)
  | .inBlock id' :: k => bif Nat.beq id' id then some k else exitA id k
  | _ :: k => exitA id k
  | [] => none
/-- The operations that one waits for, as a mask. -/
def depMask (o : Oper) : Nat := o.after.toList.foldl (fun s e => bif Region.binds .any e then s ||| 2 ^ e.on else s) 0
def depMasks (ops : Array Oper) : List Nat := ops.toList.map depMask
def readyFrom (done : Nat) : List Nat → Nat → Option Nat
  | [], _ => none
  | m :: r, i => bif !done.testBit i && Nat.beq (Nat.land m done) m then some i else readyFrom done r (i + 1)
def readyAll (done : Nat) : List Nat → Nat → List Nat
  | [], _ => []
  | m :: r, i => bif !done.testBit i && Nat.beq (Nat.land m done) m then i :: readyAll done r (i + 1) else readyAll done r (i + 1)
def edgeOn (o : Oper) (i : Nat) : Bool := o.after.toList.any fun e => Region.binds .any e && Nat.beq e.on i
def selOk (ops : Array Oper) : Bool := ops.toList.all fun o => match o.op with | .select _ _ => false | _ => true
/-- No two operations that do not wait for each other touch each other's temporaries. -/
def regOk (ops : Array Oper) : Bool :=
  (ops.toList.zipIdx.all fun x => (match x.1.op with | .select _ _ => false | _ => true) &&
    ops.toList.zipIdx.all fun y => Nat.beq x.2 y.2 || edgeOn x.1 y.2 || edgeOn y.1 x.2 || x.1.apart ops y.1)
/-- For each operation: those that must have come up ahead of it. -/
def ancs : List Oper → List Nat → List Nat
  | [], acc => acc
  | o :: r, acc => ancs r (acc ++ [o.after.toList.foldl (fun s e => bif Region.binds .any e then s ||| 2 ^ e.on ||| acc.getD e.on 0 else s) 0])
def ancOf (ops : Array Oper) (i : Nat) : Nat := (ancs ops.toList []).getD i 0
def setAll (tm : TM) : Nat → List AV → TM
  | _, [] => tm
  | i, a :: r => setAll (tm.set i a) (i + 1) r
def enterFr (f : FuncId) (args : List AV) : Option AFr :=
  match P.funcs[f]? with
  | some fn => (match fn.body with
    | some c => some { fn := f, tm := setAll ⟨.leaf, if args.length < fn.ntmps then fn.ntmps else args.length⟩ 0 args, todo := [.code c], defers := [], ret := false, rnd := none }
    | none => none)
  | none => none
/-- What an operation comes to, laid into the machine; 'fr' is the frame that waits, 'go' the frame that goes on. -/
def apply (wait : AFr) (below : List AFr) (pend : List Nat) (H0 : AH) (r : AR) : Option AM :=
  if apartOk H0 pend r.2.2 then
    match r.1 with
    | .val v => (wait.finish v).map fun f => ⟨f, below, r.2.1⟩
    | .skip => (wait.finish (.tuple [])).map fun f => ⟨f, below, r.2.1⟩
    | .enter g args => (enterFr P g args).map fun f => ⟨f, wait :: below, r.2.1⟩
    | .round l fn tm assign body => some ⟨{ fn := fn, tm := tm, todo := [.code assign, .beginRound, .code body], defers := [], ret := false, rnd := some l }, wait :: below, r.2.1⟩
  else none
def applyAll (wait : AFr) (below : List AFr) (pend : List Nat) (H0 : AH) : List AR → Option (List AM)
  | [] => some []
  | r :: rs => (apply P wait below pend H0 r).bind fun m => (applyAll wait below pend H0 rs).map fun ms => m :: ms
/-- A call is deferred. -/
def aDefer (wait : AFr) (below : List AFr) (H : AH) (f : Operand) (args : Array Operand) : Option (List AM) :=
  match wait.rnd, opv wait.tm f, opvs wait.tm args.toList with
  | none, some (.func g first captured), some as => if hasBody P g then (({ wait with defers := .fn g (first ++ as ++ captured) :: wait.defers } : AFr).finish (.tuple [])).map fun f => [⟨f, below, H⟩] else none
  | _, _, _ => none
/-- What is recovered, and the frames below. -/
def aRecover (wait : AFr) (below : List AFr) (H : AH) : Option (List AM) :=
  match wait.rnd with
  | some _ => none
  | none => if wait.dfr then (match below with
      | c :: cs => if c.ret then (match c.pan with
          | some (v, false) => (wait.finish v).map fun f => [⟨f, { c with pan := some (v, true) } :: cs, H⟩]
          | _ => (wait.finish .niface).map fun f => [⟨f, below, H⟩]) else none
      | [] => none)
    else (wait.finish .niface).map fun f => [⟨f, below, H⟩]
def aPanic (wait : AFr) (below : List AFr) (H : AH) (x : Operand) : Option (List AM) :=
  match wait.todo, opv wait.tm x with
  | .reg _ _ _ :: _, some (.iface t v) => some [⟨{ wait with ret := true, pan := some (.iface t v, false) }, below, H⟩]
  | _, _ => none
/-- Operation i of a region, 'wait' being the frame in which it stands next. -/
def aOper (wait : AFr) (below : List AFr) (H : AH) (ops : Array Oper) (o : Oper) : Option (List AM) :=
  match aWanted H.pc ops wait.tm o with
    | some false => (wait.finish (.tuple [])).map fun f => [⟨f, below, H⟩]
    | some true => (match aEarly P H wait.tm o.op with
      | some (v, _) => (wait.finish v).map fun f => [⟨f, below, H⟩]
      | none => (match o.op with
        | .defer ⟨.value f, args, _⟩ => aDefer P wait below H f args
        | .panic x => aPanic wait below H x
        | .call ⟨.builtin .recover, _, _⟩ => aRecover wait below H
        | _ => (aW P H wait.tm o.op).bind (applyAll P wait below (framePend wait ++ stackPend below) H)))
    | none => none
def catAll : List (Option (List AM)) → Option (List AM)
  | [] => some []
  | x :: r => x.bind fun a => (catAll r).map fun b => a ++ b
def aResult (H : AH) (tm : TM) : ResultVar → Option AV
  | .tmp t => some (tm.get t)
  | .cell a t => (match tm.get a with | .ptr n off => aLoad P H t n off | _ => none)
def aResults (H : AH) (tm : TM) : List ResultVar → Option (List AV)
  | [] => some []
  | r :: rs => (aResult P H tm r).bind fun a => (aResults H tm rs).map fun b => a :: b
def resultOf (H : AH) (f : AFr) : Option AV :=
  match P.funcs[f.fn]? with
  | some fn => (aResults P H f.tm fn.results.toList).map fun vs => match vs with | [v] => v | vs => .tuple vs
  | none => none
/-- The end of a round: what is left of the record; what yield tells. -/
def endRoundA (H : AH) (l : Nat) (jump : Option Code) : Option AH :=
  match H.get l with
  | some (.loop _ _ fn tm ps assign body d) => some (H.put l (.loop (if jump.isNone then .ready else .done) jump fn tm ps assign body d))
  | _ => none
def leave (A : AM) (jump : Option Code) : Option (List AM) :=
  match A.top.rnd with
  | none => (match jump with
    | none => some [⟨{ A.top with ret := true, pan := none }, A.below, A.H⟩]
    | some .ret => some [⟨{ A.top with ret := true, pan := none }, A.below, A.H⟩]
    | _ => none)
  | some l => (match A.below with
    | c :: cs => if A.top.dfr || c.ret then none else if !apartOk A.H (stackPend A.below) [l] then none else (endRoundA A.H l jump).bind fun H => (c.finish (.bool jump.isNone)).map fun c => [⟨c, cs, H⟩]
    | [] => none)
def setTodo (A : AM) (k : List AIt) : AM := { A with top := { A.top with todo := k } }
/-- Either way. -/
def fork (A : AM) (s : SB) : Option (List AM) := some [{ A with H := A.H.assume s true }, { A with H := A.H.assume s false }]
def stepRet (A : AM) : Option (List AM) :=
  match A.top.defers with
  | .coll d :: ds => if !apartOk A.H (stackPend A.below) [d] then none else (match A.H.get d with | some (.deferred true) => some [⟨{ A.top with defers := ds }, A.below, A.H.put d (.deferred false)⟩] | _ => none)
  | .fn f args :: ds => if hasBody P f then (enterFr P f args).map fun fr => [⟨{ fr with dfr := true }, { A.top with defers := ds } :: A.below, A.H⟩] else none
  | [] => (match A.below with
    | [] => none
    | c :: cs => (match A.top.pan with
      | none => (resultOf P A.H A.top).bind fun v =>
          if A.top.dfr then (if c.ret then some [⟨(match c.pan with | some (_, true) => { c with pan := none } | _ => c), cs, A.H⟩] else none)
          else if c.ret then none else (c.finish v).map fun c => [⟨c, cs, A.H⟩]
      | some (v, r) => if A.top.dfr || c.ret then none else (match P.funcs[A.top.fn]?, c.todo with
        | some _, .reg _ _ _ :: _ => some [⟨{ c with ret := true, pan := some (v, r) }, cs, A.H⟩]
        | _, _ => none)))
/-- A loop over a function begins: what it is told in, whose deferred calls. -/
def enterA (A : AM) (ps : Array Tmp) (assign body : Code) : Option (Nat × AH × List ADef) :=
  match A.top.rnd with
  | some l => (match A.H.get l with
    | some (.loop _ _ _ _ _ _ _ d) => some (A.H.nx, A.H.new (.loop .ready none A.top.fn A.top.tm ps assign body d), A.top.defers)
    | _ => none)
  | none => some (A.H.nx + 1, (A.H.new (.deferred true)).new (.loop .ready none A.top.fn A.top.tm ps assign body A.H.nx), .coll A.H.nx :: A.top.defers)
def stepRange (A : AM) (k : List AIt) (g : Operand) (ps : Array Tmp) (assign body : Code) : Option (List AM) :=
  match enterA A ps assign body, opv A.top.tm g with
  | some (l, H, dfs), some (.func h first captured) => if hasBody P h then
      (enterFr P h (first ++ [.yld l] ++ captured)).map fun fr => [⟨fr, { A.top with todo := .inRange l :: k, defers := dfs } :: A.below, H⟩] else none
  | _, _ => none
def stepCode (A : AM) (k : List AIt) (c : Code) : Option (List AM) :=
  match c with
  | .ret => leave A (some .ret)
  | .skip => some [setTodo A k]
  | .label _ => some [setTodo A k]
  | .seq a b => some [setTodo A (.code a :: .code b :: k)]
  | .cond c a b => (match opv A.top.tm c with
    | some (.bool t) => some [setTodo A (.code (if t then a else b) :: k)]
    | some (.symb s pos) => (match pcFind s A.H.pc with
      | some v => some [setTodo A (.code (if v == pos then a else b) :: k)]
      | none => fork A s)
    | _ => none)
  | .block id c => some [setTodo A (.code c :: .inBlock id :: k)]
  | .loop c => some [setTodo A (.code c :: .inLoop c :: k)]
  | .exit id => (match exitA id k with | some k' => some [setTodo A k'] | none => leave A (some (.exit id)))
  | .region _ ops draw => if draw then (if selOk ops then some [setTodo A (.any ops (regOk ops) 0 0 [] none :: k)] else none) else some [setTodo A (.reg ops 0 ops.toList :: k)]
  | .rangeFunc g ps assign body => stepRange P A k g ps assign body
  | _ => none
def addPend (i : Nat) (ns : List Nat) (pend : List (Nat × List Nat)) : List (Nat × List Nat) := match ns with | [] => pend | ns => (i, ns) :: pend
/-- Operation i is carried out ahead of its turn, if it writes nothing. -/
def ahead (A : AM) (k : List AIt) (ops : Array Oper) (done : Nat) (pend : List (Nat × List Nat)) (i : Nat) : Option (List AM) :=
  (opAt ops i).bind fun o => match aWanted A.H.pc ops A.top.tm o with
    | some false => some [⟨{ A.top with tm := aPut A.top.tm o.dst (.tuple []), todo := .any ops true (done ||| 2 ^ i) (i + 1) pend none :: k }, A.below, A.H⟩]
    | some true => (match aEarly P A.H A.top.tm o.op with
      | some (v, ns) => some [⟨{ A.top with tm := aPut A.top.tm o.dst v, todo := .any ops true (done ||| 2 ^ i) (i + 1) (addPend i ns pend) none :: k }, A.below, A.H⟩]
      | none => some [setTodo A (.any ops true done (i + 1) pend none :: k)])
    | none => none
/-- Whichever comes up next. -/
def anyNext (A : AM) (k : List AIt) (ops : Array Oper) (ok : Bool) (done pos : Nat) (pend : List (Nat × List Nat)) : Option (List AM) :=
  match readyAll done (depMasks ops) 0 with
  | [] => bif Nat.beq done (2 ^ ops.size - 1) then some [setTodo A k] else none
  | l => match wantsAll A.H.pc ops A.top.tm l with
    | some s => fork A s
    | none => catAll (l.map fun i => (opAt ops i).bind fun o => aOper P { A.top with todo := .any ops ok done pos (pend.filter fun p => !(ancOf ops i).testBit p.1) (some i) :: k } A.below A.H ops o)
def stepAny (A : AM) (k : List AIt) (ops : Array Oper) (ok : Bool) (done pos : Nat) (pend : List (Nat × List Nat)) : Option (List AM) :=
  bif Nat.beq done (2 ^ ops.size - 1) then some [setTodo A k] else
  bif ok then (match readyFrom done ((depMasks ops).drop pos) pos with
    | some i => (match (opAt ops i).bind (opWants A.H.pc ops A.top.tm) with
      | some s => fork A s
      | none => ahead P A k ops done pend i)
    | none => anyNext P A k ops ok done pos pend)
  else anyNext P A k ops ok done pos pend
def jumpTodo (jump : Option Code) (k : List AIt) : List AIt := match jump with | some c => .code c :: k | none => k
def stepEnd (A : AM) (k : List AIt) (l : Nat) : Option (List AM) :=
  if !apartOk A.H (stackPend A.below) [l] then none else match A.H.get l with
  | some (.loop st jump fn tm ps assign body d) => (match st with
    | .busy => none
    | _ => some [⟨{ A.top with todo := jumpTodo jump k }, A.below, A.H.put l (.loop .exhausted jump fn tm ps assign body d)⟩])
  | _ => none
def stepBegin (A : AM) (k : List AIt) : Option (List AM) :=
  match A.top.rnd with
  | some l => if !apartOk A.H (stackPend A.below) [l] then none else (match A.H.get l with
    | some (.loop .ready jump fn tm ps assign body d) => some [⟨{ A.top with todo := k }, A.below, A.H.put l (.loop .busy jump fn tm ps assign body d)⟩]
    | _ => none)
  | none => none
def astep (A : AM) : Option (List AM) :=
  bif A.top.ret then stepRet P A else
    match A.top.todo with
    | [] => leave A none
    | .code c :: k => stepCode P A k c
    | .inBlock _ :: k => some [setTodo A k]
    | .inLoop c :: k => some [setTodo A (.code c :: .inLoop c :: k)]
    | .reg _ _ [] :: k => some [setTodo A k]
    | .reg ops _ (o :: _) :: _ => (match opWants A.H.pc ops A.top.tm o with
      | some s => fork A s
      | none => aOper P A.top A.below A.H ops o)
    | .any ops ok done pos pend none :: k => stepAny P A k ops ok done pos pend
    | .any _ _ _ _ _ (some _) :: _ => none
    | .inRange _ :: _ => none
    | .endRange l :: k => stepEnd A k l
    | .beginRound :: k => stepBegin A k
def final (A : AM) : Bool := A.top.ret && A.top.defers.isEmpty && A.below.isEmpty && !A.top.dfr && A.top.pan.isNone
def arun : Nat → List AM → (AM → Bool) → Bool
  | _, [], _ => true
  | 0, _ :: _, _ => false
  | f + 1, A :: r, test => bif final A then (test A && arun f r test) else match astep P A with
    | some l => arun f (l ++ r) test
    | none => false
/-- It has returned true, out of function f. -/
def isTrue (f : FuncId) (A : AM) : Bool := Nat.beq A.top.fn f && (match resultOf P A.H A.top with | some (.bool true) => true | _ => false)
def start (f : FuncId) (args : List AV) : List AM := match enterFr P f args with | some fr => [⟨fr, [], ⟨.leaf, 0, []⟩⟩] | none => []
def runs (fuel : Nat) (f : FuncId) (args : List AV) : Bool := (enterFr P f args).isSome && arun P fuel (start P f args) (isTrue P f)
end Go.Sx
/- What a symbolic state says of a world: names stand for blocks; the laws of the store; what is said stays when names come to it. -/
namespace Go.Sx
open Go

/-! ### The store -/
theorem Tr.get_leaf {α : Type} (k : Nat) : (Tr.leaf : Tr α).get k = none := rfl
theorem Tr.get_node {α : Type} (v : Option α) (l r : Tr α) (k : Nat) : (Tr.node v l r).get k = if k = 0 then v else if k % 2 = 0 then r.get (k / 2 - 1) else l.get (k / 2) := by
  show (bif Nat.beq k 0 then v else bif Nat.beq (k % 2) 0 then r.get (k / 2 - 1) else l.get (k / 2)) = _
  by_cases h : k = 0
  · subst h; rfl
  · have : Nat.beq k 0 = false := by
      cases hb : Nat.beq k 0 with
      | false => rfl
      | true => exact absurd (Nat.eq_of_beq_eq_true hb) h
    rw [this, if_neg h]
    by_cases h2 : k % 2 = 0
    · rw [h2, if_pos rfl]; rfl
    · have : Nat.beq (k % 2) 0 = false := by
        cases hb : Nat.beq (k % 2) 0 with
        | false => rfl
        | true => exact absurd (Nat.eq_of_beq_eq_true hb) h2
      rw [this, if_neg h2]; rfl
theorem Tr.get_setF {α : Type} (v : Option α) : ∀ (f : Nat) (t : Tr α) (k j : Nat), k < f → (Tr.setF v f t k).get j = if j = k then v else t.get j
  | 0, _, _, _, h => absurd h (Nat.not_lt_zero _)
  | f + 1, t, k, j, h => by
    have key : ∀ (u : Option α) (l r : Tr α), (bif Nat.beq k 0 then Tr.node v l r else bif Nat.beq (k % 2) 0 then Tr.node u l (Tr.setF v f r (k / 2 - 1)) else Tr.node u (Tr.setF v f l (k / 2)) r).get j = if j = k then v else (Tr.node u l r).get j := by
      intro u l r
      by_cases hk : k = 0
      · subst hk
        show (Tr.node v l r).get j = _
        rw [Tr.get_node, Tr.get_node]
        by_cases hj : j = 0
        · simp [hj]
        · simp [hj]
      · have hb : Nat.beq k 0 = false := by
          cases hb : Nat.beq k 0 with
          | false => rfl
          | true => exact absurd (Nat.eq_of_beq_eq_true hb) hk
        rw [hb]
        by_cases h2 : k % 2 = 0
        · rw [h2]
          show (Tr.node u l (Tr.setF v f r (k / 2 - 1))).get j = _
          rw [Tr.get_node, Tr.get_node, Tr.get_setF v f r (k / 2 - 1) (j / 2 - 1) (by omega)]
          by_cases hj : j = 0
          · simp [hj, show ¬ 0 = k from fun e => hk e.symm]
          · by_cases hj2 : j % 2 = 0
            · by_cases e : j = k
              · simp [e, hk, h2]
              · have : ¬ (j / 2 - 1 = k / 2 - 1) := by omega
                simp [hj, hj2, e, this]
            · have : ¬ j = k := by omega
              simp [hj, hj2, this]
        · have hb2 : Nat.beq (k % 2) 0 = false := by
            cases hb : Nat.beq (k % 2) 0 with
            | false => rfl
            | true => exact absurd (Nat.eq_of_beq_eq_true hb) h2
          rw [hb2]
          show (Tr.node u (Tr.setF v f l (k / 2)) r).get j = _
          rw [Tr.get_node, Tr.get_node, Tr.get_setF v f l (k / 2) (j / 2) (by omega)]
          by_cases hj : j = 0
          · simp [hj, show ¬ 0 = k from fun e => hk e.symm]
          · by_cases hj2 : j % 2 = 0
            · have : ¬ j = k := by omega
              simp [hj, hj2, this]
            · by_cases e : j = k
              · simp [e, hk, h2]
              · have : ¬ (j / 2 = k / 2) := by omega
                simp [hj, hj2, e, this]
    cases t with
    | leaf =>
      have := key none .leaf .leaf
      show (bif Nat.beq k 0 then Tr.node v .leaf .leaf else _).get j = _
      rw [this, Tr.get_node]
      simp [Tr.get_leaf]
    | node u l r => exact key u l r
theorem Tr.get_set {α : Type} (t : Tr α) (k j : Nat) (v : Option α) : (t.set k v).get j = if j = k then v else t.get j := Tr.get_setF v (k + 1) t k j (by omega)
theorem AH.get_put (H : AH) (n m : Nat) (o : AObj) : (H.put n o).get m = if m = n then some o else H.get m := Tr.get_set _ _ _ _
theorem AH.get_del (H : AH) (n m : Nat) : (H.del n).get m = if m = n then none else H.get m := Tr.get_set _ _ _ _
theorem AH.get_new (H : AH) (m : Nat) (o : AObj) : (H.new o).get m = if m = H.nx then some o else H.get m := Tr.get_set _ _ _ _
@[simp] theorem AH.nx_put (H : AH) (n : Nat) (o : AObj) : (H.put n o).nx = H.nx := rfl
@[simp] theorem AH.nx_del (H : AH) (n : Nat) : (H.del n).nx = H.nx := rfl
@[simp] theorem AH.nx_new (H : AH) (o : AObj) : (H.new o).nx = H.nx + 1 := rfl
@[simp] theorem AH.pc_put (H : AH) (n : Nat) (o : AObj) : (H.put n o).pc = H.pc := rfl
@[simp] theorem AH.pc_del (H : AH) (n : Nat) : (H.del n).pc = H.pc := rfl
@[simp] theorem AH.pc_new (H : AH) (o : AObj) : (H.new o).pc = H.pc := rfl

/-! ### Numbers and truths that are not known -/
/-- What is not known: values, the entries of maps, the cells of rows. -/
structure Val where
  v : Nat → Value
  m : Nat → List MapEntry := fun _ => []
  r : Nat → List Value := fun _ => []
def opI (op : BinOp) (k : IntKind) (a b : Int) : Int := match op with
  | .add => k.wrap (a + b)
  | .sub => k.wrap (a - b)
  | .mul => k.wrap (a * b)
  | _ => 0
def opB (op : BinOp) (a b : Int) : Bool := match op with
  | .eql => a == b
  | .neq => a != b
  | .lss => a < b
  | .leq => a ≤ b
  | .gtr => a > b
  | .geq => a ≥ b
  | _ => false
def intOf : Value → Int
  | .int _ n => n
  | _ => 0
def truthOf : Value → Bool
  | .bool b => b
  | _ => false
def SE.den (ι : Val) : SE → Int
  | .lit n => n
  | .var i => intOf (ι.v i)
  | .bin op k a b => opI op k (a.den ι) (b.den ι)
  | .conv k a => k.wrap (a.den ι)
def SB.den (ι : Val) : SB → Bool
  | .cmp op a b => opB op (a.den ι) (b.den ι)
  | .var i => truthOf (ι.v i)

/-! ### Values -/
/-- Each name: its block, where it begins there, where it ends. -/
abbrev Env := List (Nat × Nat × Nat)
section
variable (E : Env) (ι : Val)
mutual
def cv : AV → Option Value
  | .bool b => some (.bool b)
  | .int k n => some (.int k n)
  | .str s => some (.string ⟨s.toArray⟩)
  | .nptr => some (.pointer none)
  | .ptr n off => (E[n]?).map fun e => .pointer (some ⟨e.1, e.2.1 + off, none⟩)
  | .nslice l c => some (.slice none l c)
  | .slice n off len cap => (E[n]?).map fun e => .slice (some ⟨e.1, e.2.1 + off, none⟩) len cap
  | .eslice n off len sz => (E[n]?).map fun e => .slice (some ⟨e.1, e.2.1 + off, none⟩) len ((e.2.2 - e.2.1 - off) / sz)
  | .zslice n off l sz => (E[n]?).map fun e => .slice (some ⟨e.1, if (e.2.2 - e.2.1 - off) / sz = l then e.2.1 + off else e.2.1 + off + l * sz, none⟩) 0 ((e.2.2 - e.2.1 - off) / sz - l)
  | .hslice a => some (.slice (some a) 0 0)
  | .nmap => some (.map none)
  | .map n => (E[n]?).map fun e => .map (some e.1)
  | .func f a b => (cvs a).bind fun a => (cvs b).map fun b => .func (.func f) a.toArray b.toArray
  | .yld n => (E[n]?).map fun e => .func (.yield e.1) #[] #[]
  | .nfunc => some .nilFunc
  | .iface t v => (cv v).map (.iface t)
  | .niface => some .nilIface
  | .agg l => (cvs l).map fun l => .agg l.toArray
  | .tuple l => (cvs l).map fun l => .tuple l.toArray
  | .opq i => some (ι.v i)
  | .sym k e => some (.int k (e.den ι))
  | .symb s pos => some (.bool (s.den ι == pos))
def cvs : List AV → Option (List Value)
  | [] => some []
  | v :: r => (cv v).bind fun a => (cvs r).map fun b => a :: b
end
end
theorem cvs_nil {E : Env} {ι : Val} : cvs E ι [] = some [] := by simp [cvs]
theorem cvs_cons {E : Env} {ι : Val} {v : AV} {r : List AV} {l : List Value} : cvs E ι (v :: r) = some l ↔ ∃ a b, cv E ι v = some a ∧ cvs E ι r = some b ∧ l = a :: b := by
  simp only [cvs, Option.bind_eq_some_iff, Option.map_eq_some_iff]
  constructor
  · rintro ⟨a, h1, b, h2, rfl⟩; exact ⟨a, b, h1, h2, rfl⟩
  · rintro ⟨a, b, h1, h2, rfl⟩; exact ⟨a, h1, b, h2, rfl⟩
theorem cvs_get {E : Env} {ι : Val} : ∀ {l : List AV} {c : List Value}, cvs E ι l = some c → c.length = l.length ∧ ∀ (i : Nat) (v : AV), l[i]? = some v → ∃ x, cv E ι v = some x ∧ c[i]? = some x
  | [], c, h => by
    rw [cvs_nil] at h
    injection h with h
    subst h
    exact ⟨rfl, by simp⟩
  | v :: r, c, h => by
    obtain ⟨a, b, h1, h2, rfl⟩ := cvs_cons.1 h
    obtain ⟨h3, h4⟩ := cvs_get h2
    refine ⟨by simp [h3], fun i w hw => ?_⟩
    cases i with
    | zero => simp at hw; subst hw; exact ⟨a, h1, rfl⟩
    | succ i => simp at hw; simpa using h4 i w hw
theorem cvs_of_get {E : Env} {ι : Val} : ∀ {l : List AV} {c : List Value}, c.length = l.length → (∀ (i : Nat) (v : AV), l[i]? = some v → ∃ x, cv E ι v = some x ∧ c[i]? = some x) → cvs E ι l = some c
  | [], c, h, _ => by
    have : c = [] := List.length_eq_zero_iff.1 h
    rw [this]; exact cvs_nil
  | v :: r, c, h, g => by
    cases c with
    | nil => simp at h
    | cons a b =>
      obtain ⟨x, hx, hx2⟩ := g 0 v rfl
      simp at hx2; subst hx2
      refine cvs_cons.2 ⟨a, b, hx, cvs_of_get (by simpa using h) (fun i w hw => ?_), rfl⟩
      simpa using g (i + 1) w (by simpa using hw)
theorem cvs_append {E : Env} {ι : Val} : ∀ {l m : List AV} {c d : List Value}, cvs E ι l = some c → cvs E ι m = some d → cvs E ι (l ++ m) = some (c ++ d)
  | [], m, c, d, h, g => by
    rw [cvs_nil] at h; injection h with h; subst h; exact g
  | v :: r, m, c, d, h, g => by
    obtain ⟨a, b, h1, h2, rfl⟩ := cvs_cons.1 h
    exact cvs_cons.2 ⟨a, b ++ d, h1, cvs_append h2 g, rfl⟩
theorem cvs_take {E : Env} {ι : Val} {l : List AV} {c : List Value} (h : cvs E ι l = some c) (n : Nat) : cvs E ι (l.take n) = some (c.take n) := by
  obtain ⟨h1, h2⟩ := cvs_get h
  refine cvs_of_get (by simp [h1]) fun i v hv => ?_
  rw [List.getElem?_take] at hv
  split at hv
  · rename_i hi
    obtain ⟨x, hx, hy⟩ := h2 i v hv
    exact ⟨x, hx, by rw [List.getElem?_take, if_pos hi]; exact hy⟩
  · cases hv
theorem cvs_drop {E : Env} {ι : Val} {l : List AV} {c : List Value} (h : cvs E ι l = some c) (n : Nat) : cvs E ι (l.drop n) = some (c.drop n) := by
  obtain ⟨h1, h2⟩ := cvs_get h
  refine cvs_of_get (by simp [h1]) fun i v hv => ?_
  rw [List.getElem?_drop] at hv ⊢
  exact h2 _ v hv

/-- More names: what was said is said. -/
def Ext (E E' : Env) : Prop := ∀ (n : Nat) e, E[n]? = some e → E'[n]? = some e
theorem Ext.refl (E : Env) : Ext E E := fun _ _ h => h
theorem Ext.trans {E E' E'' : Env} (h : Ext E E') (g : Ext E' E'') : Ext E E'' := fun n e x => g n e (h n e x)
theorem Ext.app (E : Env) (x : Nat × Nat × Nat) : Ext E (E ++ [x]) := fun n e h => by
  rw [List.getElem?_append_left (List.getElem?_eq_some_iff.1 h).1]; exact h
theorem map_ext {α : Type} {E E' : Env} (h : Ext E E') {n : Nat} {f : Nat × Nat × Nat → α} {c : α} (g : (E[n]?).map f = some c) : (E'[n]?).map f = some c := by
  obtain ⟨e, he, rfl⟩ := Option.map_eq_some_iff.1 g
  rw [h n e he]; rfl
mutual
theorem cv_ext {E E' : Env} {ι : Val} (h : Ext E E') : ∀ (v : AV) (c : Value), cv E ι v = some c → cv E' ι v = some c
  | .bool b, c, g => g
  | .int k n, c, g => g
  | .str s, c, g => g
  | .nptr, c, g => g
  | .ptr n off, c, g => by simp only [cv] at g ⊢; exact map_ext h g
  | .nslice l k, c, g => g
  | .slice n off len cap, c, g => by simp only [cv] at g ⊢; exact map_ext h g
  | .eslice n off len sz, c, g => by simp only [cv] at g ⊢; exact map_ext h g
  | .zslice n off l sz, c, g => by simp only [cv] at g ⊢; exact map_ext h g
  | .hslice a, c, g => g
  | .sym k e, c, g => g
  | .symb s pos, c, g => g
  | .nmap, c, g => g
  | .map n, c, g => by simp only [cv] at g ⊢; exact map_ext h g
  | .func f a b, c, g => by
    simp only [cv, Option.bind_eq_some_iff, Option.map_eq_some_iff] at g ⊢
    obtain ⟨x, hx, y, hy, rfl⟩ := g
    exact ⟨x, cvs_ext h a x hx, y, cvs_ext h b y hy, rfl⟩
  | .yld n, c, g => by simp only [cv] at g ⊢; exact map_ext h g
  | .nfunc, c, g => g
  | .iface t v, c, g => by
    simp only [cv, Option.map_eq_some_iff] at g ⊢
    obtain ⟨x, hx, rfl⟩ := g
    exact ⟨x, cv_ext h v x hx, rfl⟩
  | .niface, c, g => g
  | .agg l, c, g => by
    simp only [cv, Option.map_eq_some_iff] at g ⊢
    obtain ⟨x, hx, rfl⟩ := g
    exact ⟨x, cvs_ext h l x hx, rfl⟩
  | .tuple l, c, g => by
    simp only [cv, Option.map_eq_some_iff] at g ⊢
    obtain ⟨x, hx, rfl⟩ := g
    exact ⟨x, cvs_ext h l x hx, rfl⟩
  | .opq i, c, g => g
theorem cvs_ext {E E' : Env} {ι : Val} (h : Ext E E') : ∀ (l : List AV) (c : List Value), cvs E ι l = some c → cvs E' ι l = some c
  | [], c, g => g
  | v :: r, c, g => by
    obtain ⟨a, b, h1, h2, rfl⟩ := cvs_cons.1 g
    exact cvs_cons.2 ⟨a, b, cv_ext h v a h1, cvs_ext h r b h2, rfl⟩
end
mutual
theorem ofV_cv {E : Env} {ι : Val} : ∀ (v : Value) (a : AV), ofV v = some a → cv E ι a = some v
  | .bool b, a, h => by simp only [ofV, Option.some.injEq] at h; subst h; rfl
  | .int k n, a, h => by simp only [ofV, Option.some.injEq] at h; subst h; rfl
  | .float k n, a, h => by simp [ofV] at h
  | .complex k n m, a, h => by simp [ofV] at h
  | .string s, a, h => by simp only [ofV, Option.some.injEq] at h; subst h; simp [cv]
  | .pointer none, a, h => by simp only [ofV, Option.some.injEq] at h; subst h; rfl
  | .pointer (some x), a, h => by simp [ofV] at h
  | .slice none l c, a, h => by simp only [ofV, Option.some.injEq] at h; subst h; rfl
  | .slice (some x) l c, a, h => by simp [ofV] at h
  | .map none, a, h => by simp only [ofV, Option.some.injEq] at h; subst h; rfl
  | .map (some x), a, h => by simp [ofV] at h
  | .chan r, a, h => by simp [ofV] at h
  | .func fn x y, a, h => by
    cases fn with
    | func f =>
      simp only [ofV, Option.bind_eq_some_iff, Option.map_eq_some_iff] at h
      obtain ⟨p, hp, q, hq, rfl⟩ := h
      simp only [cv, Option.bind_eq_some_iff, Option.map_eq_some_iff]
      exact ⟨x.toList, ofVa_cv x p hp, y.toList, ofVa_cv y q hq, by simp⟩
    | _ => simp [ofV] at h
  | .nilFunc, a, h => by simp only [ofV, Option.some.injEq] at h; subst h; rfl
  | .iface t v, a, h => by
    simp only [ofV, Option.map_eq_some_iff] at h
    obtain ⟨x, hx, rfl⟩ := h
    simp only [cv, Option.map_eq_some_iff]
    exact ⟨v, ofV_cv v x hx, rfl⟩
  | .nilIface, a, h => by simp only [ofV, Option.some.injEq] at h; subst h; rfl
  | .agg cs, a, h => by
    simp only [ofV, Option.map_eq_some_iff] at h
    obtain ⟨x, hx, rfl⟩ := h
    simp only [cv, Option.map_eq_some_iff]
    exact ⟨cs.toList, ofVa_cv cs x hx, by simp⟩
  | .tuple cs, a, h => by
    simp only [ofV, Option.map_eq_some_iff] at h
    obtain ⟨x, hx, rfl⟩ := h
    simp only [cv, Option.map_eq_some_iff]
    exact ⟨cs.toList, ofVa_cv cs x hx, by simp⟩
theorem ofVa_cv {E : Env} {ι : Val} : ∀ (v : Array Value) (a : List AV), ofVa v = some a → cvs E ι a = some v.toList
  | ⟨l⟩, a, h => ofVs_cv l a (by simpa [ofVa] using h)
theorem ofVs_cv {E : Env} {ι : Val} : ∀ (v : List Value) (a : List AV), ofVs v = some a → cvs E ι a = some v
  | [], a, h => by simp only [ofVs, Option.some.injEq] at h; subst h; exact cvs_nil
  | v :: r, a, h => by
    simp only [ofVs, Option.bind_eq_some_iff, Option.map_eq_some_iff] at h
    obtain ⟨x, hx, y, hy, rfl⟩ := h
    exact cvs_cons.2 ⟨v, r, ofV_cv v x hx, ofVs_cv r y hy, rfl⟩
end
end Go.Sx
/- What a symbolic heap says of a world; what reads only: equality, fields, sizes. -/
namespace Go.Sx
open Go Go.RowKit

def undefA : AV := .tuple []
section
variable (E : Env) (ι : Val)
def TMR (tm : TM) (C : Array Value) : Prop := C.size = tm.n ∧ ∀ i, cv E ι (tm.get i) = some (C.getD i undef)
def cvE : List (AV × AV × Nat) → Option (List MapEntry)
  | [] => some []
  | e :: r => (cv E ι e.1).bind fun k => (cv E ι e.2.1).bind fun v => (cvE r).map fun b => ⟨k, v, e.2.2⟩ :: b
/-- A row's cells, as far as they are known. -/
structure RowR (cells : List AV) (t : TypeId) (ex : Bool) (e : Nat × Nat × Nat) (cs : Array Value) (fz : Nat × Nat) : Prop where
  at_ : ∀ (i : Nat) (v : AV), cells[i]? = some v → ∃ c, cv E ι v = some c ∧ cs[e.2.1 + i]? = some c
  len : e.2.1 + cells.length ≤ e.2.2
  fits : e.2.2 ≤ cs.size
  exact : ex = true → e.2.1 + cells.length = e.2.2
  free : ∀ i, e.2.1 ≤ i → i < e.2.2 → ¬ (fz.1 ≤ i ∧ i < fz.2)
inductive OR : AObj → Nat × Nat × Nat → Option Obj → Prop
  | row {cells t ex st e cs fz} : RowR E ι cells t ex e cs fz → OR (.row cells t ex st) e (some (.cells cs t fz))
  | map {es clock e ces} : cvE E ι es = some ces → OR (.map es clock) e (some (.map ces.toArray clock))
  | iter0 {s l k e s' l' k'} : e.2.1 = 0 → OR (.iter none s l k) e (some (.mapIter none s' l' k'))
  | iter {m s l k e em} : e.2.1 = 0 → E[m]? = some em → OR (.iter (some m) s l k) e (some (.mapIter (some em.1) s l.toArray k))
  | loop {st jump fn tm ps assign body d e ed C} : TMR E ι tm C → E[d]? = some ed →
      OR (.loop st jump fn tm ps assign body d) e (some (.loop { state := st, pending := jump, fn := fn, tmps := C, params := ps, assign := assign, body := body, defers := ed.1 }))
  | there {e} : OR (.deferred true) e (some (.deferred (some [])))
  | gone {e} : OR (.deferred false) e (some (.deferred none))
end
/-- Which blocks of what was there may be written; the names that were there. -/
structure Base where
  own : Nat → Prop
  env : Env
/-- Of what was there, only the blocks of B may have turned. -/
structure Stay (B : Base) (w w' : World) : Prop where
  os : w'.os = w.os
  tape : w'.tape = w.tape
  output : w'.output = w.output
  size : w.heap.size ≤ w'.heap.size
  block : ∀ k, k < w.heap.size → ¬ B.own k → w'.heap[k]? = w.heap[k]?
theorem Stay.refl (B : Base) (w : World) : Stay B w w := ⟨rfl, rfl, rfl, Nat.le_refl _, fun _ _ _ => rfl⟩
theorem Stay.then {B : Base} {a b c : World} (h : Stay B a b) (h1 : c.os = b.os) (h2 : c.tape = b.tape) (h3 : c.output = b.output) (h4 : b.heap.size ≤ c.heap.size) (h5 : ∀ k, k < a.heap.size → ¬ B.own k → c.heap[k]? = b.heap[k]?) : Stay B a c :=
  ⟨h1.trans h.os, h2.trans h.tape, h3.trans h.output, Nat.le_trans h.size h4, fun k hk hb => (h5 k hk hb).trans (h.block k hk hb)⟩
structure HR (B : Base) (w0 : World) (E : Env) (ι : Val) (H : AH) (w : World) : Prop where
  below : Stay B w0 w
  base : w0.heap.size ≤ w.heap.size
  nx : H.nx = E.length
  inb : ∀ (n : Nat) e, E[n]? = some e → e.1 < w.heap.size
  obj : ∀ (n : Nat) o, H.get n = some o → ∃ e, E[n]? = some e ∧ OR E ι o e w.heap[e.1]?
  sep : ∀ (n m : Nat) o p e d, H.get n = some o → H.get m = some p → n ≠ m → E[n]? = some e → E[m]? = some d → e.1 = d.1 → (o.isView = true ∨ p.isView = true) ∧ (o.isView = false → o.old = some m)
  pc : ∀ x ∈ H.pc, x.1.den ι = x.2
  own : ∀ (n : Nat) o e, H.get n = some o → o.isView = false → E[n]? = some e → B.own e.1 ∨ w0.heap.size ≤ e.1
  ext : Ext B.env E
/-- The blocks of these names are in w' as they are in w. -/
def Agree (E : Env) (ns : List Nat) (w w' : World) : Prop := ∀ n ∈ ns, ∀ e, E[n]? = some e → w'.heap[e.1]? = w.heap[e.1]?
theorem Agree.refl (E : Env) (ns : List Nat) (w : World) : Agree E ns w w := fun _ _ _ _ => rfl

/-! ### Cells -/
def Scalars (ι : Val) : Prop := ∀ i, (ι.v i).oneCell' = true
theorem cells_of_one {v : Value} (h : v.oneCell' = true) : v.cells = #[v] := by cases v <;> simp [Value.oneCell', Value.cells] at h ⊢
section
variable {E : Env} {ι : Val}
theorem cv_cells (hι : Scalars ι) {v : AV} {c : Value} (h : cv E ι v = some c) : cvs E ι v.cells = some c.cells.toList := by
  cases v with
  | agg l =>
    simp only [cv, Option.map_eq_some_iff] at h
    obtain ⟨x, hx, rfl⟩ := h
    simpa [AV.cells, Value.cells] using hx
  | opq i =>
    have h' := h
    simp only [cv, Option.some.injEq] at h
    subst h
    rw [cells_of_one (hι i)]
    exact cvs_cons.2 ⟨_, [], h', cvs_nil, rfl⟩
  | _ =>
    have h' := h
    have hc : c.cells = #[c] := by
      simp only [cv, Option.some.injEq, Option.map_eq_some_iff, Option.bind_eq_some_iff] at h
      first
        | (subst h; rfl)
        | (obtain ⟨_, _, rfl⟩ := h; rfl)
        | (obtain ⟨_, _, _, _, rfl⟩ := h; rfl)
    rw [hc]
    exact cvs_cons.2 ⟨_, [], h', cvs_nil, rfl⟩
theorem cv_single (hι : Scalars ι) {v : AV} {c : Value} (h : cv E ι v = some c) (hs : v.single = true) : c.oneCell' = true := by
  cases v with
  | agg l => simp [AV.single] at hs
  | tuple l => simp [AV.single] at hs
  | opq i => simp only [cv, Option.some.injEq] at h; subst h; exact hι i
  | _ =>
    simp only [cv, Option.some.injEq, Option.map_eq_some_iff, Option.bind_eq_some_iff] at h
    first
      | (subst h; rfl)
      | (obtain ⟨_, _, rfl⟩ := h; rfl)
      | (obtain ⟨_, _, _, _, rfl⟩ := h; rfl)

/-! ### Types -/
variable {P : Program} {w : World}
theorem run_undl {t : TypeId} {d : TypeDesc} (h : P.underlying t = some d) : (underlying t).run P w = .ok d w := by simp [underlying, h]
theorem run_szOf {t : TypeId} {n : Nat} (h : szOf P t = some n) : (sizeOf t).run P w = .ok n w := by
  unfold szOf at h
  obtain ⟨i, hi, rfl⟩ := Option.map_eq_some_iff.1 h
  simp [sizeOf, typeInfo, hi]
theorem run_aggT {t : TypeId} {b : Bool} (h : aggT P t = some b) : (isAgg t).run P w = .ok b w := by
  unfold aggT at h
  cases hu : P.underlying t with
  | none => simp [hu] at h
  | some d => cases d <;> simp [hu] at h <;> subst h <;> simp [isAgg, underlying, hu]
theorem run_zeroT {t : TypeId} {a : AV} (h : zeroT P t = some a) : ∃ z, (zeroValue t).run P w = .ok z w ∧ cv E ι a = some z := by
  unfold zeroT at h
  cases hi : P.info? t with
  | none => simp [hi] at h
  | some i =>
    simp only [hi] at h
    cases hz : i.zero with
    | none => simp [hz] at h
    | some z =>
      simp only [hz] at h
      exact ⟨z, by simp [zeroValue, typeInfo, hi, hz], ofV_cv z a h⟩
theorem run_aPart {t : TypeId} {l : List AV} {cs : List Value} (hl : cvs E ι l = some cs) {off : Nat} {v : AV} (h : aPart P t l off = some v) :
    ∃ c, (part t cs.toArray off).run P w = .ok c w ∧ cv E ι v = some c := by
  unfold aPart at h
  cases ha : aggT P t with
  | none => simp [ha] at h
  | some b =>
    cases b with
    | true =>
      cases hs : szOf P t with
      | none => simp [ha, hs] at h
      | some n =>
        simp only [ha, hs, Option.some.injEq] at h
        subst h
        refine ⟨.agg (cs.toArray.extract off (off + n)), by simp [part, run_aggT ha, run_szOf hs], ?_⟩
        simp only [cv, Option.map_eq_some_iff]
        refine ⟨_, cvs_take (cvs_drop hl off) n, ?_⟩
        simp
    | false =>
      simp only [ha] at h
      obtain ⟨c, hc, hg⟩ := (cvs_get hl).2 off v h
      exact ⟨c, by simp [part, run_aggT ha, hg], hc⟩

/-! ### Equality -/
theorem run_allB {f : Field → Option Bool} {d : Nat} {xs ys : List Value} (H : ∀ (g : Field) (b : Bool), f g = some b → ∃ a c, (part g.type xs.toArray g.offset).run P w = .ok a w ∧ (part g.type ys.toArray g.offset).run P w = .ok c w ∧ (Op.equalIn d g.type a c).run P w = .ok b w) :
    ∀ (fs : List Field) (b : Bool), allB f fs = some b → (Op.eqFields d xs.toArray ys.toArray fs).run P w = .ok b w
  | [], b, h => by simp only [allB, Option.some.injEq] at h; subst h; rfl
  | g :: r, b, h => by
    unfold allB at h
    unfold Op.eqFields
    by_cases hn : g.name ≠ "_"
    · rw [if_pos hn] at h ⊢
      cases hf : f g with
      | none => simp [hf] at h
      | some x =>
        obtain ⟨a, c, h1, h2, h3⟩ := H g x hf
        simp only [Sem.run_bind, h1, h2, h3, Result.andThen_ok]
        cases x with
        | true => simp only [hf] at h; simpa using run_allB H r b h
        | false => simp only [hf, Option.some.injEq] at h; subst h; simp
    · rw [if_neg hn] at h ⊢
      exact run_allB H r b h
theorem bytes_eq (a b : List UInt8) : ((⟨a.toArray⟩ : ByteArray) == ⟨b.toArray⟩) = (a == b) := by
  rw [beq_toListBytes, ByteArray.toList_eq, ByteArray.toList_eq]
set_option maxHeartbeats 1000000 in
theorem run_aEq (d : Nat) : ∀ (D : Nat) (t : TypeId) (x y : AV) (a b : Value) (r : Bool), d ≤ D → cv E ι x = some a → cv E ι y = some b → aEq P d t x y = some r → (Op.equalIn D t a b).run P w = .ok r w := by
  induction d with
  | zero => intro _ _ _ _ _ _ _ _ _ _ h; simp [aEq] at h
  | succ d ih =>
    intro D t x y a b r hD hx hy h
    obtain ⟨D, rfl⟩ : ∃ q, D = q + 1 := ⟨D - 1, by omega⟩
    unfold aEq at h
    split at h
    case h_1 u p q hu =>
      simp only [cv, Option.some.injEq] at hx hy h; subst hx hy h
      simp [Op.equalIn, run_undl hu]
    case h_2 u k p k' q hu =>
      simp only [cv, Option.some.injEq] at hx hy; subst hx hy
      split at h
      · rename_i hk; simp only [Option.some.injEq] at h; subst h hk
        simp [Op.equalIn, run_undl hu]
      · cases h
    case h_3 p q hu =>
      simp only [cv, Option.some.injEq] at hx hy h; subst hx hy h
      simp [Op.equalIn, run_undl hu, bytes_eq]
    case h_4 e hu =>
      simp only [cv, Option.some.injEq] at hx hy h; subst hx hy h
      simp [Op.equalIn, run_undl hu]
    case h_5 e n o hu =>
      simp only [cv, Option.some.injEq, Option.map_eq_some_iff] at hx hy h; subst hx h
      obtain ⟨_, _, rfl⟩ := hy
      simp [Op.equalIn, run_undl hu]
    case h_6 e n o hu =>
      simp only [cv, Option.some.injEq, Option.map_eq_some_iff] at hx hy h; subst hy h
      obtain ⟨_, _, rfl⟩ := hx
      simp [Op.equalIn, run_undl hu]
    case h_7 e n o m p hu =>
      simp only [cv, Option.map_eq_some_iff] at hx hy
      obtain ⟨e1, he1, rfl⟩ := hx
      obtain ⟨e2, he2, rfl⟩ := hy
      split at h
      · rename_i z hz
        split at h
        · rename_i hnm
          subst hnm
          rw [he1] at he2
          injection he2 with he2
          subst he2
          simp only [Option.some.injEq] at h
          subst h
          simp only [Op.equalIn, Sem.run_bind, run_undl hu, Result.andThen_ok, run_szOf hz]
          rw [if_pos (Nat.succ_ne_zero z)]
          simp only [sameAddr, beq_self_eq_true, if_true, Sem.run_pure]
          congr 1
          rw [Bool.eq_iff_iff]
          simp
        · cases h
      · cases h
    case h_8 ms hu =>
      simp only [cv, Option.some.injEq] at hx hy h; subst hx hy h
      simp [Op.equalIn, run_undl hu]
    case h_9 ms tv v hu =>
      simp only [cv, Option.some.injEq, Option.map_eq_some_iff] at hx hy h; subst hx h
      obtain ⟨_, _, rfl⟩ := hy
      simp [Op.equalIn, run_undl hu]
    case h_10 ms tv v hu =>
      simp only [cv, Option.some.injEq, Option.map_eq_some_iff] at hx hy h; subst hy h
      obtain ⟨_, _, rfl⟩ := hx
      simp [Op.equalIn, run_undl hu]
    case h_11 ms tx vx ty vy hu =>
      simp only [cv, Option.map_eq_some_iff] at hx hy
      obtain ⟨a', ha, rfl⟩ := hx
      obtain ⟨b', hb, rfl⟩ := hy
      split at h
      · rename_i hne
        simp only [Option.some.injEq] at h
        subst h
        simp [Op.equalIn, run_undl hu, hne]
      · rename_i heq
        have heq : tx = ty := Classical.not_not.1 heq
        subst heq
        split at h
        · rename_i i hi
          split at h
          · rename_i hc
            have := ih D tx vx vy a' b' r (by omega) ha hb h
            simp [Op.equalIn, run_undl hu, typeInfo, hi, hc, this]
          · cases h
        · cases h
    case h_12 fs xs ys hu =>
      simp only [cv, Option.map_eq_some_iff] at hx hy
      obtain ⟨a', ha, rfl⟩ := hx
      obtain ⟨b', hb, rfl⟩ := hy
      split at h
      · cases h
      · rename_i hp
        have hp : P.stoodInHeld t = false := by simpa using hp
        have hf : P.fieldsOf t = fs := by simp [Program.fieldsOf, hu]
        rw [run_equalIn_struct w D t _ _ (by rw [hf]; exact hu) hp, hf]
        refine run_allB (fun g q hg => ?_) fs.toList r h
        split at hg
        · rename_i u v h1 h2
          obtain ⟨c1, hc1, hv1⟩ := run_aPart (w := w) ha h1
          obtain ⟨c2, hc2, hv2⟩ := run_aPart (w := w) hb h2
          exact ⟨c1, c2, hc1, hc2, ih D g.type u v c1 c2 q (by omega) hv1 hv2 hg⟩
        · cases hg
    all_goals first | (cases h; done) | skip
    all_goals
      simp only [cv, Option.some.injEq, Option.map_eq_some_iff, Option.bind_eq_some_iff] at hx hy h
      subst h
      first
        | (subst hx hy; simp [Op.equalIn, run_undl (by assumption : P.underlying t = _)]; done)
        | (subst hx; obtain ⟨_, _, rfl⟩ := hy; simp [Op.equalIn, run_undl (by assumption : P.underlying t = _)]; done)
        | (subst hy; obtain ⟨_, _, rfl⟩ := hx; simp [Op.equalIn, run_undl (by assumption : P.underlying t = _)]; done)
        | (subst hx; obtain ⟨_, _, _, _, rfl⟩ := hy; simp [Op.equalIn, run_undl (by assumption : P.underlying t = _)]; done)
        | (subst hy; obtain ⟨_, _, _, _, rfl⟩ := hx; simp [Op.equalIn, run_undl (by assumption : P.underlying t = _)]; done)
theorem run_aEqual {t : TypeId} {x y : AV} {a b : Value} {r : Bool} (hx : cv E ι x = some a) (hy : cv E ι y = some b) (h : aEqual P t x y = some r) : (Op.equal t a b).run P w = .ok r w :=
  run_aEq 12 Op.maxDepth t x y a b r (by decide) hx hy h
end
end Go.Sx
