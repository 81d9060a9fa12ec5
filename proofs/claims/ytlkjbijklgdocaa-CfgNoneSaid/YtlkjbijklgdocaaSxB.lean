/- A symbolic run of the program: operations that write, one step of the machine, the run. No fact about it stands here. -/
import Derived.Test.YtlkjbijklgdocaaSxA
import Derived.Orders
namespace Go.Sx
open Go

inductive AN where
  | val (v : AV)
  | skip
  | enter (f : FuncId) (args : List AV)
  | round (l : Nat) (fn : FuncId) (tm : TM) (assign body : Code)
  deriving Inhabited
/-- What an operation comes to, the heap behind it, the names whose blocks it may have written. -/
abbrev AR := AN × AH × List Nat
variable (P : Program)

def AObj.isView : AObj → Bool
  | .row _ _ _ .view => true
  | _ => false
def AObj.old : AObj → Option Nat
  | .row _ _ _ (.own o) => o
  | _ => none
/-- The row, its elder name gone, when it is written. -/
def AH.write (H : AH) (n : Nat) (cells : List AV) (elem : TypeId) (exact : Bool) (old : Option Nat) : AH :=
  (match old with | some m => H.del m | none => H).put n (.row cells elem exact (.own none))
def aStore (H : AH) (t : TypeId) (n off : Nat) (v : AV) : Option AR :=
  match H.get n, szOf P t with
  | some (.row cells e ex (.own old)), some k =>
    if v.cells.length = k && off + k ≤ cells.length && v.cells.all AV.single then some (.skip, H.write n (setAt cells off v.cells) e ex old, n :: old.toList) else none
  | _, _ => none
/-- The cells that a slice, or a string, starts with. -/
def aFirst (H : AH) (size n : Nat) : AV → Option (List AV)
  | .nslice _ _ => some []
  | .slice m off _ _ => (match H.get m with | some (.row cs _ _ _) => if off + n * size ≤ cs.length then some ((cs.drop off).take (n * size)) else none | _ => none)
  | .eslice m off _ _ => (match H.get m with | some (.row cs _ _ _) => if off + n * size ≤ cs.length then some ((cs.drop off).take (n * size)) else none | _ => none)
  | .str s => some ((s.take n).map fun b => .int .u8 b.toNat)
  | _ => none
def aLenOf : AV → Option Nat
  | .nslice n _ => some n
  | .slice _ _ n _ => some n
  | .eslice _ _ n _ => some n
  | .str s => some s.length
  | _ => none
def reps (z : List AV) : Nat → List AV
  | 0 => []
  | n + 1 => z ++ reps z n
def bytesT (t : TypeId) : Nat := ((P.info? t).map (·.bytes)).getD 0
def roomy (e : TypeId) (need : Nat) : Bool := Nat.ble need 140737488355328 && Nat.ble ((8 * need + 8192) * bytesT P e) 140737488355328
def AH.unold (H : AH) (old : Option Nat) : AH := match old with | some m => H.del m | none => H
/-- How many elements come, and their cells. -/
def appN (H : AH) (e : TypeId) (size : Nat) (zv : AV) (made : Bool) (x : AV) : Option (Nat × List AV) :=
  if made then (match x with
    | .int _ l => if 0 ≤ l && l ≤ 1000000 && Nat.ble (l.toNat * bytesT P e) 140737488355328 then some (l.toNat, reps zv.cells l.toNat) else none
    | _ => none)
  else (aLenOf x).bind fun n => (aFirst H size n x).map fun l => (n, l)
def appSlice (H : AH) (e : TypeId) (size n : Nat) (new : List AV) (m off len cap : Nat) : Option (List AR) :=
  match H.get m with
  | some (.row cs e' ex st) =>
    if len + n ≤ cap then
      (if n = 0 then some [(.val (.slice m off len cap), H, [])] else
      match st with
      | .own old => if off + (len + n) * size ≤ cs.length && new.all AV.single then some [(.val (.slice m off (len + n) cap), H.write m (setAt cs (off + len * size) new) e' ex old, m :: old.toList)] else none
      | .view => none)
    else if off + len * size ≤ cs.length && roomy P e (len + n) then some [(.val (.eslice H.nx 0 (len + n) size), H.new (.row ((cs.drop off).take (len * size) ++ new) e false (.own none)), [])] else none
  | _ => none
def appEnd (H : AH) (e : TypeId) (size n : Nat) (new : List AV) (m off len sz : Nat) : Option (List AR) :=
  match H.get m with
  | some (.row cs e' false (.own old)) =>
    if sz = size && e' = e && n ≠ 0 && off + (len + n) * size ≤ cs.length && new.all AV.single then
      some [(.val (.eslice m off (len + n) sz), H.write m (setAt cs (off + len * size) new) e' false old, m :: old.toList)] else
    if sz = size && e' = e && off + len * size = cs.length && new.all AV.single then
      if n = 0 then some [(.val (.eslice m off len sz), H, [])] else
      if !roomy P e (len + n) then none else
      some [(.val (.eslice H.nx 0 (len + n) size), ((H.unold old).put m (.row cs e' false .view)).new (.row (cs.drop off ++ new) e false (.own (some m))), m :: old.toList)]
    else none
  | _ => none
def appTo (H : AH) (e : TypeId) (size n : Nat) (new : List AV) (s : AV) : Option (List AR) :=
  match s with
  | .nslice 0 0 => if n = 0 then some [(.val (.nslice 0 0), H, [])] else if roomy P e n then some [(.val (.eslice H.nx 0 n size), H.new (.row new e false (.own none)), [])] else none
  | .slice m off len cap => appSlice P H e size n new m off len cap
  | .eslice m off len sz => appEnd P H e size n new m off len sz
  | _ => none
def madeT (t : Option TypeId) : Bool := match t with
  | some u => (match P.underlying u with | some (.int _) => true | _ => false)
  | none => false
def aAppend (H : AH) (ts : List TypeId) (args : List AV) : Option (List AR) :=
  match ts, args with
  | t :: tr, s :: x :: _ => (match P.underlying t with
    | some (.slice e) => (match szOf P e, zeroT P e with
      | some (z + 1), some zv =>
        if zv.cells.length = z + 1 && (tr.all fun u => (P.underlying u).isSome) then
          (appN P H e (z + 1) zv (madeT P tr.head?) x).bind fun (n, new) => if new.length = n * (z + 1) then appTo P H e (z + 1) n new s else none
        else none
      | _, _ => none)
    | _ => none)
  | _, _ => none
def copyTo (H : AH) (size xl m off len : Nat) (x : AV) : Option (List AR) :=
  match aFirst H size (Nat.min xl len) x, H.get m with
  | some new, some (.row cs e ex (.own old)) =>
    if new.length = Nat.min xl len * size && off + Nat.min xl len * size ≤ cs.length && new.all AV.single then some [(.val (.int .i64 (Nat.min xl len : Nat)), H.write m (setAt cs off new) e ex old, m :: old.toList)] else none
  | _, _ => none
def aCopy (H : AH) (ts : List TypeId) (args : List AV) : Option (List AR) :=
  match ts, args with
  | t :: _, d :: x :: _ => (match P.underlying t with
    | some (.slice e) => (match szOf P e, aLenOf x with
      | some size, some xl => (match d with
        | .nslice 0 0 => (match aFirst H size 0 x with | some [] => some [(.val (.int .i64 0), H, [])] | _ => none)
        | .slice m off len _ => copyTo H size xl m off len x
        | .eslice m off len _ => copyTo H size xl m off len x
        | _ => none)
      | _, _ => none)
    | _ => none)
  | _, _ => none
mutual
def same : Nat → AV → AV → Bool
  | 0, _, _ => false
  | _ + 1, .bool a, .bool b => a == b
  | _ + 1, .int j a, .int k b => j == k && a == b
  | _ + 1, .str a, .str b => a == b
  | d + 1, .agg a, .agg b => sames d a b
  | _, _, _ => false
def sames : Nat → List AV → List AV → Bool
  | _, [], [] => true
  | d, x :: a, y :: b => same d x y && sames d a b
  | _, _, _ => false
end
def modAt {α : Type} (f : α → α) : List α → Nat → List α
  | [], _ => []
  | x :: r, 0 => f x :: r
  | x :: r, i + 1 => x :: modAt f r i
/-- The entry of a key is there: its number, what it holds; or it is laid. -/
def aMapPut (H : AH) (t : TypeId) (m k v : AV) : Option (List AR) :=
  match mapK P t, m with
  | some (kt, _), .map n =>
    (match H.get n with
    | some (.map es clock) => if keyOk P 9 kt k then
        (match aFind P kt k es 0 with
        | some (some (i, _)) => (match es[i]? with
          | some e => if same 9 e.1 k then some [(.skip, H.put n (.map (modAt (fun e => (k, v, e.2.2)) es i) clock), [n])] else none
          | none => none)
        | some none => some [(.skip, H.put n (.map (es ++ [(k, v, clock)]) (clock + 1)), [n])]
        | none => none) else none
    | _ => none)
  | _, _ => none
def aMapEntry (H : AH) (t : TypeId) (m k : AV) : Option (List AR) :=
  match mapK P t, m with
  | some (kt, et), .map n =>
    (match H.get n with
    | some (.map es clock) => if keyOk P 9 kt k then
        (match aFind P kt k es 0 with
        | some (some (i, v)) => (match es[i]? with
          | some e => if same 9 e.1 k then some [(.val (.tuple [v, .int .i64 e.2.2]), H.put n (.map (modAt (fun e => (k, e.2.1, e.2.2)) es i) clock), [n])] else none
          | none => none)
        | some none => (zeroT P et).map fun z => [(.val (.tuple [z, .int .i64 clock]), H.put n (.map (es ++ [(k, z, clock)]) (clock + 1)), [n])]
        | none => none) else none
    | _ => none)
  | _, _ => none
def aBorn (b : Int) : List (AV × AV × Nat) → Nat → Option Nat
  | [], _ => none
  | e :: r, i => if ((e.2.2 : Nat) : Int) == b then some i else aBorn b r (i + 1)
def aEntryStore (H : AH) (m s v : AV) : Option (List AR) :=
  match m, s with
  | .map n, .int _ b =>
    (match H.get n with
    | some (.map es clock) => (aBorn b es 0).map fun i => [(.skip, H.put n (.map (modAt (fun e => (e.1, v, e.2.2)) es i) clock), [n])]
    | _ => none)
  | _, _ => none
def aDelete (H : AH) (ts : List TypeId) (args : List AV) : Option (List AR) :=
  match ts, args with
  | t :: _, m :: k :: _ =>
    (match mapK P t, m with
    | some (kt, _), .nmap => if keyOk P 9 kt k then some [(.val (.tuple []), H, [])] else none
    | some (kt, _), .map n =>
      (match H.get n with
      | some (.map es clock) => if keyOk P 9 kt k then
          (match aFind P kt k es 0 with
          | some (some (i, _)) => some [(.val (.tuple []), H.put n (.map (es.eraseIdx i) clock), [n])]
          | some none => some [(.val (.tuple []), H.put n (.map es clock), [n])]
          | none => none) else none
      | _ => none)
    | _, _ => none)
  | _, _ => none
def aNext (H : AH) (it : AV) : Option (List AR) :=
  match it with
  | .ptr n 0 =>
    (match H.get n with
    | some (.iter none _ _ _) => some [(.val (.tuple [.bool false]), H, [])]
    | some (.iter (some m) since seen last) =>
      (match H.get m with
      | some (.map es clock) =>
        if !seen.isEmpty && !es.isEmpty && es.all (fun e => Nat.ble last e.2.2) then none else
        let left := es.filter fun e => !seen.contains e.2.2
        let old := left.filter fun e => Nat.blt e.2.2 since
        let new := left.filter fun e => !Nat.blt e.2.2 since
        some ((if old.isEmpty then [(.val (.tuple [.bool false]), H, [])] else []) ++ (old ++ new).map fun e => (.val (.tuple [.bool true, e.1, e.2.1]), H.put n (.iter (some m) since (seen ++ [e.2.2]) clock), [n]))
      | _ => none)
    | _ => none)
  | _ => none
def hasBody (f : FuncId) : Bool := match P.funcs[f]? with | some fn => fn.body.isSome | none => false
def setTmps (tm : TM) : List Tmp → List AV → TM
  | t :: ts, a :: as => setTmps (tm.set t a) ts as
  | _, _ => tm
def aCall (H : AH) (f : AV) (args : List AV) : Option AN :=
  match f with
  | .func g first captured => if hasBody P g then some (.enter g (first ++ args ++ captured)) else none
  | .yld l => (match H.get l with
    | some (.loop _ _ fn tm ps assign body _) => if args.length = ps.size then some (.round l fn (setTmps tm ps.toList args) assign body) else none
    | _ => none)
  | _ => none
abbrev AWs := Option (List AR)
def wAlloc (H : AH) (t : TypeId) : AWs := (zeroT P t).map fun z => [(.val (.ptr H.nx 0), H.new (.row z.cells t true (.own none)), [])]
def wBox (H : AH) (tm : TM) (t : TypeId) (x : Operand) : AWs := (opv tm x).map fun v => [(.val (.ptr H.nx 0), H.new (.row v.cells t true (.own none)), [])]
def wBuildSlice (H : AH) (tm : TM) (t : TypeId) (len : Nat) (parts : Array (Nat × Operand)) : AWs := match P.underlying t with
  | some (.slice e) => (match szOf P e, zeroT P e, opvp tm parts.toList with
    | some size, some z, some ps => if len * size ≤ 16777216 && z.cells.length = size && 0 < size then
        (aFill (fun i => some (i * size, size)) (reps z.cells len) ps).map fun cs => [(.val (.slice H.nx 0 len len), H.new (.row cs e true (.own none)), [])] else none
    | _, _, _ => none)
  | _ => none
def wMakeMap (H : AH) (tm : TM) (t : TypeId) (r : Option Operand) : AWs := match r with
  | none => some [(.val (.map H.nx), H.new (.map [] 0), [])]
  | some x => (match mapK P t, opv tm x with | some _, some (.int _ _) => some [(.val (.map H.nx), H.new (.map [] 0), [])] | _, _ => none)
def wMakeSlice (H : AH) (tm : TM) (t : TypeId) (l c : Operand) : AWs := match P.underlying t, opv tm l, opv tm c with
  | some (.slice e), some (.int _ l), some (.int _ c) => (match szOf P e, zeroT P e with
    | some size, some z => if 0 ≤ l && l ≤ c && c ≤ 1000000 && c.toNat * bytesT P e ≤ 140737488355328 && z.cells.length = size && 0 < size then
        some [(.val (.slice H.nx 0 l.toNat c.toNat), H.new (.row (reps z.cells c.toNat) e true (.own none)), [])] else none
    | _, _ => none)
  | _, _, _ => none
def wStore (H : AH) (tm : TM) (t : TypeId) (a x : Operand) : AWs := match opv tm a, opv tm x with
  | some (.ptr n off), some v => (aStore P H t n off v).map fun r => [r]
  | _, _ => none
def wMapPut (H : AH) (tm : TM) (t : TypeId) (m k x : Operand) : AWs := match opv tm m, opv tm k, opv tm x with | some m, some k, some v => aMapPut P H t m k v | _, _, _ => none
def wMapEntry (H : AH) (tm : TM) (t : TypeId) (m k : Operand) : AWs := match opv tm m, opv tm k with | some m, some k => aMapEntry P H t m k | _, _ => none
def wEntryStore (H : AH) (tm : TM) (m s x : Operand) : AWs := match opv tm m, opv tm s, opv tm x with | some m, some s, some v => aEntryStore H m s v | _, _, _ => none
def wRange (H : AH) (tm : TM) (t : TypeId) (x : Operand) : AWs := match mapK P t, opv tm x with
  | some _, some .nmap => some [(.val (.ptr H.nx 0), H.new (.iter none 0 [] 0), [])]
  | some _, some (.map n) => (match H.get n with | some (.map _ clock) => some [(.val (.ptr H.nx 0), H.new (.iter (some n) clock [] clock), [])] | _ => none)
  | _, _ => none
def wCall (H : AH) (tm : TM) (f : Operand) (args : Array Operand) : AWs := match opv tm f, opvs tm args.toList with | some f, some args => (aCall P H f args).map fun n => [(n, H, [])] | _, _ => none
def wBuiltin (H : AH) (tm : TM) (b : Builtin) (ts : Array TypeId) (args : Array Operand) : AWs := match b with
  | .append => (opvs tm args.toList).bind (aAppend P H ts.toList)
  | .copy => (opvs tm args.toList).bind (aCopy P H ts.toList)
  | .delete => (opvs tm args.toList).bind (aDelete P H ts.toList)
  | _ => none
def aW (H : AH) (tm : TM) (op : Op) : AWs :=
  match op with
  | .alloc t => wAlloc P H t
  | .box t x => wBox H tm t x
  | .buildSlice t len parts => wBuildSlice P H tm t len parts
  | .makeMap t r => wMakeMap P H tm t r
  | .makeSlice t l c => wMakeSlice P H tm t l c
  | .store t a x => wStore P H tm t a x
  | .mapUpdate t m k x => wMapPut P H tm t m k x
  | .insert t m k x => wMapPut P H tm t m k x
  | .mapEntry t m k => wMapEntry P H tm t m k
  | .entryStore _ m s x => wEntryStore H tm m s x
  | .range t x => wRange P H tm t x
  | .next x false => (opv tm x).bind (aNext H)
  | .call ⟨.value f, args, _⟩ => wCall P H tm f args
  | .call ⟨.builtin b, args, ts⟩ => wBuiltin P H tm b ts args
  | _ => none

/-! ### The machine -/
inductive AIt where
  | code (c : Code)
  | inBlock (id : Nat)
  | inLoop (c : Code)
  | reg (ops : Array Oper) (i : Nat) (rest : List Oper)
  | any (ops : Array Oper) (ok : Bool) (done pos : Nat) (pend : List (Nat × List Nat)) (cur : Option Nat)
  | inRange (l : Nat)
  | endRange (l : Nat)
  | beginRound
  deriving Inhabited
structure AFr where
  fn : FuncId
  tm : TM
  todo : List AIt
  defers : List Nat
  ret : Bool
  rnd : Option Nat
  deriving Inhabited
structure AM where
  top : AFr
  below : List AFr
  H : AH
  deriving Inhabited

def aPut (tm : TM) (d : Option Tmp) (v : AV) : TM := match d with | some t => tm.set t v | none => tm
def aWanted (ops : Array Oper) (tm : TM) (o : Oper) : Option Bool :=
  match o.guard with
  | none => some true
  | some (j, want) => match (opAt ops j).bind (·.dst) with
    | some d => (match tm.get d with | .bool b => some (b == want) | .opq _ => none | _ => some false)
    | none => some false
def AFr.finish (f : AFr) (v : AV) : Option AFr :=
  match f.todo with
  | .reg ops i (o :: r) :: k => some { f with tm := aPut f.tm o.dst v, todo := .reg ops (i + 1) r :: k }
  | .any ops ok done _ pend (some i) :: k => some { f with tm := aPut f.tm ((opAt ops i).bind (·.dst)) v, todo := .any ops ok (done ||| 2 ^ i) (i + 1) pend none :: k }
  | .inRange l :: k => some { f with todo := .endRange l :: k }
  | _ => none
def pendNames : List (Nat × List Nat) → List Nat
  | [] => []
  | p :: r => p.2 ++ pendNames r
def framePend (f : AFr) : List Nat := match f.todo with
  | .any _ _ _ _ pend _ :: _ => pendNames pend
  | _ => []
def stackPend : List AFr → List Nat
  | [] => []
  | f :: r => framePend f ++ stackPend r
/-- What was looked at ahead of its turn is not written. -/
def apartOk (H : AH) (pend : List Nat) (touched : List Nat) : Bool :=
  pend.isEmpty || (match touched with
    | [] => true
    | n :: _ => (match H.get n with
      | some o => !o.isView && (match o.old with | some m => touched.contains m | none => true)
      | none => false) && pend.all fun p => !touched.contains p && (H.get p).isSome)
def exitA (id : Nat) : List AIt → Option (List AIt)
  | .inBlock id' :: k => bif Nat.beq id' id then some k else exitA id k
  | _ :: k => exitA id k
  | [] => none
/-- The operations that one waits for, as a mask. -/
def depMask (o : Oper) : Nat := o.after.toList.foldl (fun s e => bif Region.binds .any e then s ||| 2 ^ e.on else s) 0
def depMasks (ops : Array Oper) : List Nat := ops.toList.map depMask
def readyFrom (done : Nat) : List Nat → Nat → Option Nat
  | [], _ => none
  | m :: r, i => bif !done.testBit i && Nat.beq (Nat.land m done) m then some i else readyFrom done r (i + 1)
def readyAll (done : Nat) : List Nat → Nat → List Nat
  | [], _ => []
  | m :: r, i => bif !done.testBit i && Nat.beq (Nat.land m done) m then i :: readyAll done r (i + 1) else readyAll done r (i + 1)
def edgeOn (o : Oper) (i : Nat) : Bool := o.after.toList.any fun e => Region.binds .any e && Nat.beq e.on i
def selOk (ops : Array Oper) : Bool := ops.toList.all fun o => match o.op with | .select _ _ => false | _ => true
/-- No two operations that do not wait for each other touch each other's temporaries. -/
def regOk (ops : Array Oper) : Bool :=
  (ops.toList.zipIdx.all fun x => (match x.1.op with | .select _ _ => false | _ => true) &&
    ops.toList.zipIdx.all fun y => Nat.beq x.2 y.2 || edgeOn x.1 y.2 || edgeOn y.1 x.2 || x.1.apart ops y.1)
/-- For each operation: those that must have come up ahead of it. -/
def ancs : List Oper → List Nat → List Nat
  | [], acc => acc
  | o :: r, acc => ancs r (acc ++ [o.after.toList.foldl (fun s e => bif Region.binds .any e then s ||| 2 ^ e.on ||| acc.getD e.on 0 else s) 0])
def ancOf (ops : Array Oper) (i : Nat) : Nat := (ancs ops.toList []).getD i 0
def setAll (tm : TM) : Nat → List AV → TM
  | _, [] => tm
  | i, a :: r => setAll (tm.set i a) (i + 1) r
def enterFr (f : FuncId) (args : List AV) : Option AFr :=
  match P.funcs[f]? with
  | some fn => (match fn.body with
    | some c => some { fn := f, tm := setAll ⟨.leaf, if args.length < fn.ntmps then fn.ntmps else args.length⟩ 0 args, todo := [.code c], defers := [], ret := false, rnd := none }
    | none => none)
  | none => none
/-- What an operation comes to, laid into the machine; 'fr' is the frame that waits, 'go' the frame that goes on. -/
def apply (wait : AFr) (below : List AFr) (pend : List Nat) (H0 : AH) (r : AR) : Option AM :=
  if apartOk H0 pend r.2.2 then
    match r.1 with
    | .val v => (wait.finish v).map fun f => ⟨f, below, r.2.1⟩
    | .skip => (wait.finish (.tuple [])).map fun f => ⟨f, below, r.2.1⟩
    | .enter g args => (enterFr P g args).map fun f => ⟨f, wait :: below, r.2.1⟩
    | .round l fn tm assign body => some ⟨{ fn := fn, tm := tm, todo := [.code assign, .beginRound, .code body], defers := [], ret := false, rnd := some l }, wait :: below, r.2.1⟩
  else none
def applyAll (wait : AFr) (below : List AFr) (pend : List Nat) (H0 : AH) : List AR → Option (List AM)
  | [] => some []
  | r :: rs => (apply P wait below pend H0 r).bind fun m => (applyAll wait below pend H0 rs).map fun ms => m :: ms
/-- Operation i of a region, 'wait' being the frame in which it stands next. -/
def aOper (wait : AFr) (below : List AFr) (H : AH) (ops : Array Oper) (o : Oper) : Option (List AM) :=
  match aWanted ops wait.tm o with
    | some false => (wait.finish (.tuple [])).map fun f => [⟨f, below, H⟩]
    | some true => (match aEarly P H wait.tm o.op with
      | some (v, _) => (wait.finish v).map fun f => [⟨f, below, H⟩]
      | none => (aW P H wait.tm o.op).bind (applyAll P wait below (framePend wait ++ stackPend below) H))
    | none => none
def catAll : List (Option (List AM)) → Option (List AM)
  | [] => some []
  | x :: r => x.bind fun a => (catAll r).map fun b => a ++ b
def aResult (H : AH) (tm : TM) : ResultVar → Option AV
  | .tmp t => some (tm.get t)
  | .cell a t => (match tm.get a with | .ptr n off => aLoad P H t n off | _ => none)
def aResults (H : AH) (tm : TM) : List ResultVar → Option (List AV)
  | [] => some []
  | r :: rs => (aResult P H tm r).bind fun a => (aResults H tm rs).map fun b => a :: b
def resultOf (H : AH) (f : AFr) : Option AV :=
  match P.funcs[f.fn]? with
  | some fn => (aResults P H f.tm fn.results.toList).map fun vs => match vs with | [v] => v | vs => .tuple vs
  | none => none
/-- The end of a round: what is left of the record; what yield tells. -/
def endRoundA (H : AH) (l : Nat) (jump : Option Code) : Option AH :=
  match H.get l with
  | some (.loop _ _ fn tm ps assign body d) => some (H.put l (.loop (if jump.isNone then .ready else .done) jump fn tm ps assign body d))
  | _ => none
def leave (A : AM) (jump : Option Code) : Option (List AM) :=
  match A.top.rnd with
  | none => (match jump with
    | none => some [⟨{ A.top with ret := true }, A.below, A.H⟩]
    | some .ret => some [⟨{ A.top with ret := true }, A.below, A.H⟩]
    | _ => none)
  | some l => (match A.below with
    | c :: cs => if !apartOk A.H (stackPend A.below) [l] then none else (endRoundA A.H l jump).bind fun H => (c.finish (.bool jump.isNone)).map fun c => [⟨c, cs, H⟩]
    | [] => none)
def setTodo (A : AM) (k : List AIt) : AM := { A with top := { A.top with todo := k } }
def stepRet (A : AM) : Option (List AM) :=
  match A.top.defers with
  | d :: ds => if !apartOk A.H (stackPend A.below) [d] then none else (match A.H.get d with | some (.deferred true) => some [⟨{ A.top with defers := ds }, A.below, A.H.put d (.deferred false)⟩] | _ => none)
  | [] => (match A.below with
    | [] => none
    | c :: cs => (resultOf P A.H A.top).bind fun v => (c.finish v).map fun c => [⟨c, cs, A.H⟩])
/-- A loop over a function begins: what it is told in, whose deferred calls. -/
def enterA (A : AM) (ps : Array Tmp) (assign body : Code) : Option (Nat × AH × List Nat) :=
  match A.top.rnd with
  | some l => (match A.H.get l with
    | some (.loop _ _ _ _ _ _ _ d) => some (A.H.nx, A.H.new (.loop .ready none A.top.fn A.top.tm ps assign body d), A.top.defers)
    | _ => none)
  | none => some (A.H.nx + 1, (A.H.new (.deferred true)).new (.loop .ready none A.top.fn A.top.tm ps assign body A.H.nx), A.H.nx :: A.top.defers)
def stepRange (A : AM) (k : List AIt) (g : Operand) (ps : Array Tmp) (assign body : Code) : Option (List AM) :=
  match enterA A ps assign body, opv A.top.tm g with
  | some (l, H, dfs), some (.func h first captured) => if hasBody P h then
      (enterFr P h (first ++ [.yld l] ++ captured)).map fun fr => [⟨fr, { A.top with todo := .inRange l :: k, defers := dfs } :: A.below, H⟩] else none
  | _, _ => none
def stepCode (A : AM) (k : List AIt) (c : Code) : Option (List AM) :=
  match c with
  | .ret => leave A (some .ret)
  | .skip => some [setTodo A k]
  | .label _ => some [setTodo A k]
  | .seq a b => some [setTodo A (.code a :: .code b :: k)]
  | .cond c a b => (match opv A.top.tm c with | some (.bool t) => some [setTodo A (.code (if t then a else b) :: k)] | _ => none)
  | .block id c => some [setTodo A (.code c :: .inBlock id :: k)]
  | .loop c => some [setTodo A (.code c :: .inLoop c :: k)]
  | .exit id => (match exitA id k with | some k' => some [setTodo A k'] | none => leave A (some (.exit id)))
  | .region _ ops draw => if draw then (if selOk ops then some [setTodo A (.any ops (regOk ops) 0 0 [] none :: k)] else none) else some [setTodo A (.reg ops 0 ops.toList :: k)]
  | .rangeFunc g ps assign body => stepRange P A k g ps assign body
  | _ => none
def addPend (i : Nat) (ns : List Nat) (pend : List (Nat × List Nat)) : List (Nat × List Nat) := match ns with | [] => pend | ns => (i, ns) :: pend
/-- Operation i is carried out ahead of its turn, if it writes nothing. -/
def ahead (A : AM) (k : List AIt) (ops : Array Oper) (done : Nat) (pend : List (Nat × List Nat)) (i : Nat) : Option (List AM) :=
  (opAt ops i).bind fun o => match aWanted ops A.top.tm o with
    | some false => some [⟨{ A.top with tm := aPut A.top.tm o.dst (.tuple []), todo := .any ops true (done ||| 2 ^ i) (i + 1) pend none :: k }, A.below, A.H⟩]
    | some true => (match aEarly P A.H A.top.tm o.op with
      | some (v, ns) => some [⟨{ A.top with tm := aPut A.top.tm o.dst v, todo := .any ops true (done ||| 2 ^ i) (i + 1) (addPend i ns pend) none :: k }, A.below, A.H⟩]
      | none => some [setTodo A (.any ops true done (i + 1) pend none :: k)])
    | none => none
/-- Whichever comes up next. -/
def anyNext (A : AM) (k : List AIt) (ops : Array Oper) (ok : Bool) (done pos : Nat) (pend : List (Nat × List Nat)) : Option (List AM) :=
  match readyAll done (depMasks ops) 0 with
  | [] => bif Nat.beq done (2 ^ ops.size - 1) then some [setTodo A k] else none
  | l => catAll (l.map fun i => (opAt ops i).bind fun o => aOper P { A.top with todo := .any ops ok done pos (pend.filter fun p => !(ancOf ops i).testBit p.1) (some i) :: k } A.below A.H ops o)
def stepAny (A : AM) (k : List AIt) (ops : Array Oper) (ok : Bool) (done pos : Nat) (pend : List (Nat × List Nat)) : Option (List AM) :=
  bif Nat.beq done (2 ^ ops.size - 1) then some [setTodo A k] else
  bif ok then (match readyFrom done ((depMasks ops).drop pos) pos with
    | some i => ahead P A k ops done pend i
    | none => anyNext P A k ops ok done pos pend)
  else anyNext P A k ops ok done pos pend
def jumpTodo (jump : Option Code) (k : List AIt) : List AIt := match jump with | some c => .code c :: k | none => k
def stepEnd (A : AM) (k : List AIt) (l : Nat) : Option (List AM) :=
  if !apartOk A.H (stackPend A.below) [l] then none else match A.H.get l with
  | some (.loop st jump fn tm ps assign body d) => (match st with
    | .busy => none
    | _ => some [⟨{ A.top with todo := jumpTodo jump k }, A.below, A.H.put l (.loop .exhausted jump fn tm ps assign body d)⟩])
  | _ => none
def stepBegin (A : AM) (k : List AIt) : Option (List AM) :=
  match A.top.rnd with
  | some l => if !apartOk A.H (stackPend A.below) [l] then none else (match A.H.get l with
    | some (.loop .ready jump fn tm ps assign body d) => some [⟨{ A.top with todo := k }, A.below, A.H.put l (.loop .busy jump fn tm ps assign body d)⟩]
    | _ => none)
  | none => none
def astep (A : AM) : Option (List AM) :=
  bif A.top.ret then stepRet P A else
    match A.top.todo with
    | [] => leave A none
    | .code c :: k => stepCode P A k c
    | .inBlock _ :: k => some [setTodo A k]
    | .inLoop c :: k => some [setTodo A (.code c :: .inLoop c :: k)]
    | .reg _ _ [] :: k => some [setTodo A k]
    | .reg ops _ (o :: _) :: _ => aOper P A.top A.below A.H ops o
    | .any ops ok done pos pend none :: k => stepAny P A k ops ok done pos pend
    | .any _ _ _ _ _ (some _) :: _ => none
    | .inRange _ :: _ => none
    | .endRange l :: k => stepEnd A k l
    | .beginRound :: k => stepBegin A k
def final (A : AM) : Bool := A.top.ret && A.top.defers.isEmpty && A.below.isEmpty
def arun : Nat → List AM → (AM → Bool) → Bool
  | _, [], _ => true
  | 0, _ :: _, _ => false
  | f + 1, A :: r, test => bif final A then (test A && arun f r test) else match astep P A with
    | some l => arun f (l ++ r) test
    | none => false
/-- It has returned true, out of function f. -/
def isTrue (f : FuncId) (A : AM) : Bool := Nat.beq A.top.fn f && (match resultOf P A.H A.top with | some (.bool true) => true | _ => false)
def start (f : FuncId) (args : List AV) : List AM := match enterFr P f args with | some fr => [⟨fr, [], ⟨.leaf, 0⟩⟩] | none => []
def runs (fuel : Nat) (f : FuncId) (args : List AV) : Bool := (enterFr P f args).isSome && arun P fuel (start P f args) (isTrue P f)
end Go.Sx
