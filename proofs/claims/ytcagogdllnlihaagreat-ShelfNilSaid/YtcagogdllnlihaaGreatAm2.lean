/- The abstract evaluator over the model's own code: operations, regions, control, calls. -/
import Derived.Test.YtcagogdllnlihaaGreatAm1
set_option linter.all false
namespace Go.Am

/-! ### types -/
def tAgg (P : Program) (t : TypeId) : Option Bool := match P.underlying t with
  | some (.struct _) => some true
  | some (.array _ _) => some true
  | some _ => some false
  | none => none
def tSize (P : Program) (t : TypeId) : Option Nat := match P.info? t with
  | some i => some i.size
  | none => none
def tBytes (P : Program) (t : TypeId) : Option Nat := match P.info? t with
  | some i => some i.bytes
  | none => none
def tZeroV (P : Program) (t : TypeId) : Option Value := match P.info? t with
  | some i => (match i.zero with
    | some v => bif constOk v then some v else none
    | none => none)
  | none => none
def tZero (P : Program) (t : TypeId) : Option (List Value) := match tZeroV P t with
  | some v => some (vlist v)
  | none => none
/-- the cells of a type, if all are bools, numbers and strings, one behind the other -/
def tiles (P : Program) (f : TypeId → Option (List Sh)) : List Field → Nat → Option (List Sh)
  | [], _ => some []
  | x :: r, off => match f x.type, tSize P x.type with
    | some s, some n => bif Nat.beq s.length n && Nat.beq x.offset off && x.name != "_" then (match tiles P f r (off + n) with
      | some l => some (s ++ l)
      | none => none) else none
    | _, _ => none
def plainS (P : Program) : Nat → TypeId → Option (List Sh)
  | 0, _ => none
  | d + 1, t => match P.underlying t with
    | some .bool => some [.bool]
    | some (.int _) => some [.int]
    | some .string => some [.str]
    | some (.array n e) => (match plainS P d e, tSize P e with
      | some s, some m => bif Nat.beq s.length m then some (List.replicate n s).flatten else none
      | _, _ => none)
    | some (.struct fs) => bif P.stoodInHeld t then none else tiles P (plainS P d) fs.toList 0
    | _ => none
/-- where parts lie -/
def fieldPlaces (P : Program) : List Field → Option (List (Nat × Nat))
  | [] => some []
  | f :: r => match tSize P f.type, fieldPlaces P r with
    | some n, some l => some ((f.offset, n) :: l)
    | _, _ => none
def partsOf (place : Nat → Option (Nat × Nat)) : List (Nat × Value) → Option (List (Nat × Nat × Value))
  | [] => some []
  | (i, v) :: r => match place i, partsOf place r with
    | some (o, n), some l => some ((o, n, v) :: l)
    | _, _ => none
def sliceElem (P : Program) (t : TypeId) : Option TypeId := match P.underlying t with
  | some (.slice e) => some e
  | _ => none

/-! ### operations -/
def ldT (P : Program) (t : TypeId) (p : Value) : M Value := match tAgg P t, tSize P t with
  | some a, some n => ld a n p
  | _, _ => M.fail
def stT (P : Program) (t : TypeId) (p x : Value) : M Value := match tSize P t with
  | some n => st n p x
  | none => M.fail
def isConstO : Operand → Bool
  | .const _ => true
  | _ => false
def binT (P : Program) (op : BinOp) (t : TypeId) (xo yo : Operand) (x y : Value) : M Value := match P.underlying t with
  | some (.struct _) | some (.array ..) => bif P.eqGuardType P.depth t then M.fail else (match plainS P 8 t with
    | some s => binA s op x y
    | none => M.fail)
  | some (.pointer e) => (match tSize P e with
    | some (_ + 1) => binP op x y
    | _ => M.fail)
  | some (.int _) => binI op x y
  | some .bool => binB op x y
  | some .string => binS op x y
  | some (.slice _) => binN .slice op x y
  | some (.map ..) => binN .map op x y
  | some (.func ..) => binN .func op x y
  | some (.interface _) => bif isConstO xo || isConstO yo then binN .iface op x y else M.fail
  | _ => M.fail
def lookT (P : Program) (t : TypeId) (m k : Value) (ok : Bool) : M Value := match P.underlying t with
  | some (.map kt e) => (match P.underlying kt, tZeroV P e with
    | some (.int _), some z => lkp z ok m k
    | _, _ => M.fail)
  | _ => M.fail
def mupdT (P : Program) (t : TypeId) (m k v : Value) : M Value := match P.underlying t with
  | some (.map kt _) => (match P.underlying kt with
    | some (.int _) => mupd m k v
    | _ => M.fail)
  | _ => M.fail
def evalBuiltin (P : Program) (b : Builtin) (ts : List TypeId) (xs : List Value) : M Value := match b, ts, xs with
  | .len, t :: [], [x] => (match P.underlying t with
    | some (.array n _) => M.pure (.int .i64 n)
    | some .string => lenT x
    | some (.slice _) => lenL x
    | some (.map ..) => lenM x
    | _ => M.fail)
  | .append, s :: t :: [], [x, y] => (match P.underlying s, P.underlying t with
    | some (.slice e), some (.slice _) | some (.slice e), some .string => (match tSize P e, tBytes P e, tZero P e with
      | some n, some b, some z => bif Nat.beq z.length n then app e n b x y else M.fail
      | _, _, _ => M.fail)
    | _, _ => M.fail)
  | .copy, s :: t2 :: [], [x, y] => (match P.underlying s with
    | some (.slice e) => (match tSize P e with
      | some n => cpy n x y
      | none => M.fail)
    | _ => M.fail)
  | .clear, s :: [], [x] => (match P.underlying s with
    | some (.slice e) => (match tZero P e with
      | some z => bif Nat.blt 0 z.length then clr z x else M.fail
      | none => M.fail)
    | _ => M.fail)
  | .delete, t :: t2 :: [], [m, k] => (match P.underlying t with
    | some (.map kt _) => (match P.underlying kt with
      | some (.int _) => mdel m k
      | _ => M.fail)
    | _ => M.fail)
  | .max, _, [x, y] => mx x y
  | .min, _, [x, y] => mn x y
  | _, _, _ => M.fail
def callV (cl : FuncId → List Value → M Value) (f : Value) (xs : List Value) : M Value := match f with
  | .func (.func g) first cap => cl g (first.toList ++ (xs ++ cap.toList))
  | _ => M.fail
def panicV : Value → M Value
  | .iface t v => M.panic (.iface t v)
  | _ => M.fail

def evalOp (P : Program) (call : FuncId → List Value → M Value) (e : Env) (o : Oper) : M Value := match o.op with
  | .move x => M.pure (ev e x)
  | .assign x => M.pure (ev e x)
  | .pick c a b => pck (ev e c) (ev e a) (ev e b)
  | .alloc t => (match tZero P t with
    | some z => alloc t z
    | none => M.fail)
  | .box t x => box t (ev e x)
  | .build t ps => (match tZero P t, P.underlying t with
    | some z, some (.struct fs) => (match fieldPlaces P fs.toList with
      | some pl => (match partsOf (fun i => pl[i]?) (ps.toList.map fun x => (x.1, ev e x.2)) with
        | some l => bld z l
        | none => M.fail)
      | none => M.fail)
    | some z, some (.array _ el) => (match tSize P el with
      | some s => (match partsOf (fun i => some (i * s, s)) (ps.toList.map fun x => (x.1, ev e x.2)) with
        | some l => bld z l
        | none => M.fail)
      | none => M.fail)
    | _, _ => M.fail)
  | .buildSlice t n ps => (match sliceElem P t with
    | some el => (match tSize P el, tZero P el with
      | some (s + 1), some z => bif Nat.ble (n * (s + 1)) (2 ^ 24) && Nat.beq z.length (s + 1) then
          (match partsOf (fun i => some (i * (s + 1), s + 1)) (ps.toList.map fun x => (x.1, ev e x.2)) with
          | some l => bldSlice el (s + 1) z n l
          | none => M.fail) else M.fail
      | _, _ => M.fail)
    | none => M.fail)
  | .load t a => ldT P t (ev e a)
  | .store t a x => stT P t (ev e a) (ev e x)
  | .nilCheck x => nilck (ev e x)
  | .binOp op t x y _ => binT P op t x y (ev e x) (ev e y)
  | .unOp op _ x => un op (ev e x)
  | .convert src dst x => (match P.underlying src, P.underlying dst with
    | some _, some (.int k) => cvt k (ev e x)
    | _, _ => M.fail)
  | .makeInterface t x => (match P.underlying t with
    | some (.interface _) => M.fail
    | some _ => M.pure (.iface t (ev e x))
    | none => M.fail)
  | .makeFunc fn first cap => M.pure (.func fn ⟨first.toList.map (ev e)⟩ ⟨cap.toList.map (ev e)⟩)
  | .makeMap _ none => mkMap
  | .makeSlice t l c => (match sliceElem P t with
    | some el => (match tSize P el, tBytes P el, tZero P el with
      | some (s + 1), some b, some z => bif Nat.beq z.length (s + 1) then mkSlice el (s + 1) b z (ev e l) (ev e c) else M.fail
      | _, _, _ => M.fail)
    | none => M.fail)
  | .slice t x lo hi mx => (match P.underlying t with
    | some (.array n el) => (match tSize P el with
      | some s => slcA n s (ev e x) (lo.map (ev e)) (hi.map (ev e)) (mx.map (ev e))
      | none => M.fail)
    | some (.slice el) => (match tSize P el with
      | some s => slcS s (ev e x) (lo.map (ev e)) (hi.map (ev e)) (mx.map (ev e))
      | none => M.fail)
    | some .string => (match mx with
      | none => slcB (ev e x) (lo.map (ev e)) (hi.map (ev e))
      | some _ => M.fail)
    | _ => M.fail)
  | .fieldAddr s x i => (match P.underlying s with
    | some (.struct fs) => (match fs.toList[i]? with
      | some f => (match tSize P f.type with
        | some (_ + 1) => fld f.offset (ev e x)
        | _ => M.fail)
      | none => M.fail)
    | _ => M.fail)
  | .field s x i => (match P.underlying s with
    | some (.struct fs) => (match fs.toList[i]? with
      | some f => (match tSize P f.type, tAgg P f.type with
        | some n, some a => fldV f.offset n a (ev e x)
        | _, _ => M.fail)
      | none => M.fail)
    | _ => M.fail)
  | .indexAddr t x i => (match P.underlying t with
    | some (.array n el) => (match tSize P el with
      | some s => idxP n s (ev e x) (ev e i)
      | none => M.fail)
    | some (.slice el) => (match tSize P el with
      | some s => idxS s (ev e x) (ev e i)
      | none => M.fail)
    | _ => M.fail)
  | .index t x i => (match P.underlying t with
    | some (.array n el) => (match tSize P el, tAgg P el with
      | some s, some a => idxV n s a (ev e x) (ev e i)
      | _, _ => M.fail)
    | some .string => idxB (ev e x) (ev e i)
    | _ => M.fail)
  | .lookup t m k ok => lookT P t (ev e m) (ev e k) ok
  | .mapUpdate t m k v => mupdT P t (ev e m) (ev e k) (ev e v)
  | .insert t m k v => mupdT P t (ev e m) (ev e k) (ev e v)
  | .range t x => (match P.underlying t with
    | some (.map ..) => mrange (ev e x)
    | _ => M.fail)
  | .next it false => mnext (ev e it)
  | .entry it => mentry (ev e it)
  | .extract t i => ext i (ev e t)
  | .call c => (match c.callee with
    | .builtin b => evalBuiltin P b c.argTypes.toList (c.args.toList.map (ev e))
    | .value f => callV call (ev e f) (c.args.toList.map (ev e))
    | .invoke .. => M.fail)
  | .panic x => panicV (ev e x)
  | _ => M.fail

/-! ### regions -/
inductive Kind where
  | quiet | read | make | act
  deriving DecidableEq
def kindOf (o : Oper) : Kind := match o.op with
  | .move _ | .assign _ | .pick .. | .build .. | .fieldAddr .. | .field .. | .unOp .. | .makeFunc .. | .makeInterface .. | .extract .. | .nilCheck _
  | .convert .. | .index .. | .indexAddr .. => .quiet
  | .load .. | .lookup .. | .binOp .. | .slice .. => .read
  | .alloc _ | .box .. | .buildSlice .. | .makeSlice .. | .makeMap .. => .make
  | .call { callee := .builtin .len, .. } => .read
  | .call { callee := .builtin .max, .. } | .call { callee := .builtin .min, .. } => .quiet
  | _ => .act
def moved : Op → Option Operand
  | .move x | .assign x => some x
  | _ => none
def operandsOk (o : Oper) : Bool := o.op.operands.toList.all fun x => match x with
  | .const v => constOk v
  | _ => true
def dstOk (nt : Nat) (o : Oper) : Bool := match o.dst with
  | some d => Nat.blt d nt
  | none => true
def opOk (nt : Nat) (o : Oper) : Bool := operandsOk o && dstOk nt o
def gv (ops : List Oper) (e : Env) (j : Nat) : Value := match ops[j]? with
  | some o => (match o.dst with
    | some t => e t
    | none => undef)
  | none => undef
def mOf (P : Program) (call : FuncId → List Value → M Value) (ops : List Oper) (e : Env) (o : Oper) : M Value := match o.guard with
  | none => evalOp P call e o
  | some (j, w) => guardM (gv ops e j) w (evalOp P call e o)
def evalOps (P : Program) (call : FuncId → List Value → M Value) (keep : List Nat) (ops : List Oper) : List Oper → Env → M R
  | [], e => M.pure (.normal, mk keep (keep.map e))
  | o :: r, e => match o.guard, moved o.op with
    | none, some x => evalOps P call keep ops r (upd e o.dst (ev e x))
    | _, _ => M.bind (mOf P call ops e o) fun v => evalOps P call keep ops r (upd e o.dst v)

/-- what lies ahead of each operation, by the edges that bind in every order -/
def befs (ops : List Oper) : List Nat := ops.foldl (fun acc o =>
  acc ++ [o.after.toList.foldl (fun s e => bif Region.binds .any e then s ||| 2 ^ e.on ||| acc.getD e.on 0 else s) 0]) []
def ahead (bs : List Nat) (j i : Nat) : Bool := (bs.getD i 0).testBit j
def chks : List (M Value × Value × Heap) → M R → M R
  | [], m => m
  | (c, v, h) :: r, m => M.bind (chk c v h) fun _ => chks r m
/-- the order in which a region that draws its order is gone through: what acts comes as late as may be -/
def readyNow (bs : List Nat) (done i : Nat) : Bool := Nat.beq (bs.getD i 0 &&& done) (bs.getD i 0)
def pickNext (ops : List Oper) (bs : List Nat) (done : Nat) (left : List Nat) : Option Nat :=
  match left.find? (fun i => readyNow bs done i && !(match ops[i]? with
    | some o => (match kindOf o with
      | .act => true
      | _ => false)
    | none => true)) with
  | some i => some i
  | none => left.find? (fun i => readyNow bs done i)
def greedy (ops : List Oper) (bs : List Nat) : Nat → Nat → List Nat → List Nat
  | 0, _, _ => []
  | n + 1, done, left => match pickNext ops bs done left with
    | some i => i :: greedy ops bs n (done ||| 2 ^ i) (left.filter fun j => !Nat.beq i j)
    | none => []
def isAct (ops : List Oper) (i : Nat) : Bool := match ops[i]? with
  | some o => (match kindOf o with
    | .act => true
    | _ => false)
  | none => false
def names (ops : List Oper) (o : Oper) : List Nat :=
  o.dst.toList ++ (o.op.operands.toList.filterMap (fun | .tmp t => some t | _ => none)) ++
  (match o.guard with
   | some (j, _) => (match ops[j]? with
     | some g => g.dst.toList
     | none => [])
   | none => [])
def clash (ops : List Oper) (i j : Nat) : Bool := match ops[i]?, ops[j]? with
  | some a, some b =>
    (match a.dst with
      | some d => (names ops b).contains d
      | none => false) ||
    (match b.dst with
      | some d => (names ops a).contains d
      | none => false)
  | _, _ => true
/-- what is gone through later hangs on what is gone through earlier as this order says -/
def ordOk (ops : List Oper) (bs : List Nat) : List Nat → Bool
  | [] => true
  | i :: r => (r.all fun j => ahead bs i j || (!isAct ops i && !clash ops i j)) && !r.contains i && ordOk ops bs r
def edgesOk (ops : List Oper) : Bool := ops.zipIdx.all fun (o, i) => o.after.toList.all fun e => !Region.binds .any e || Nat.blt e.on i
def drawOk (ops : List Oper) (bs : List Nat) (ord : List Nat) : Bool :=
  edgesOk ops && Nat.beq ord.length ops.length && ord.all (fun i => Nat.blt i ops.length) && ordOk ops bs ord
abbrev Read := Nat × M Value × Value
def evalDraw (P : Program) (call : FuncId → List Value → M Value) (keep : List Nat) (ops : List Oper) (bs : List Nat) : List Nat → Env → List Read → M R
  | [], e, _ => M.pure (.normal, mk keep (keep.map e))
  | i :: r, e, reads => match ops[i]? with
    | none => M.fail
    | some o => match kindOf o with
      | .quiet => (match o.guard, moved o.op with
        | none, some x => evalDraw P call keep ops bs r (upd e o.dst (ev e x)) reads
        | _, _ => M.bind (mOf P call ops e o) fun v => evalDraw P call keep ops bs r (upd e o.dst v) reads)
      | .read => M.bind (mOf P call ops e o) fun v => evalDraw P call keep ops bs r (upd e o.dst v) ((i, mOf P call ops e o, v) :: reads)
      | .make => M.bind (mOf P call ops e o) fun v => evalDraw P call keep ops bs r (upd e o.dst v) reads
      | .act => M.bind (mOf P call ops e o) fun v => match reads.filter fun x => !ahead bs x.1 i with
        | [] => evalDraw P call keep ops bs r (upd e o.dst v) []
        | x :: l => M.bind getH fun h => chks ((x :: l).map fun x => (x.2.1, x.2.2, h)) (evalDraw P call keep ops bs r (upd e o.dst v) (x :: l))

def region (P : Program) (call : FuncId → List Value → M Value) (keep : List Nat) (nt : Nat) (ops : List Oper) (draw : Bool) (e : Env) : M R :=
  bif ops.all (opOk nt) then
    (match draw with
    | false => evalOps P call keep ops ops e
    | true => bif drawOk ops (befs ops) (greedy ops (befs ops) ops.length 0 (List.range ops.length)) then
        evalDraw P call keep ops (befs ops) (greedy ops (befs ops) ops.length 0 (List.range ops.length)) e [] else M.fail)
  else M.fail

/-! ### code -/
/-- the first region's number: it names a loop -/
def firstRegion : Code → Nat
  | .region id _ _ => id
  | .seq a b => (match a with
    | .skip => firstRegion b
    | .label _ => firstRegion b
    | a => firstRegion a)
  | .cond _ a _ => firstRegion a
  | .block _ a => firstRegion a
  | .loop a => firstRegion a
  | .scope a => firstRegion a
  | _ => 0
def code (P : Program) (call : FuncId → List Value → M Value) (keep : Nat → List Nat) (head : Nat → List Nat) (nt : Nat) : Code → Env → M R
  | .skip, e => M.pure (.normal, e)
  | .label _, e => M.pure (.normal, e)
  | .region id ops draw, e => region P call (keep id) nt ops.toList draw e
  | .seq a b, e => seqM (code P call keep head nt a e) fun e' => code P call keep head nt b e'
  | .cond c a b, e => condM (ev e c) (code P call keep head nt a e) (code P call keep head nt b e)
  | .block id a, e => blockM id (code P call keep head nt a e)
  | .loop a, e => loopM (head (firstRegion a)) (fun e' => code P call keep head nt a e') ((head (firstRegion a)).map e)
  | .exit id, e => M.pure (.exit id, e)
  | .ret, e => M.pure (.ret, e)
  | .scope a, e => code P call keep head nt a e
  | _, _ => M.fail

/-! ### calls -/
structure Ann where
  keep : FuncId → Nat → List Nat
  head : FuncId → Nat → List Nat
def resultsM (P : Program) (e : Env) : List ResultVar → M (List Value)
  | [] => M.pure []
  | .tmp t :: r => M.bind (resultsM P e r) fun vs => M.pure (e t :: vs)
  | .cell a t :: r => M.bind (ldT P t (e a)) fun v => M.bind (resultsM P e r) fun vs => M.pure (v :: vs)
def tup : List Value → Value
  | [v] => v
  | vs => .tuple ⟨vs⟩
def body (P : Program) (call : FuncId → List Value → M Value) (A : Ann) (f : FuncId) (fn : Func) (c : Code) (args : List Value) : M Value :=
  M.bind (code P call (A.keep f) (A.head f) fn.ntmps c fun i => args.getD i undef) fun r => match r.1 with
    | .exit _ => M.fail
    | _ => M.bind (resultsM P r.2 fn.results.toList) fun vs => M.pure (tup vs)
/-- functions whose answer is taken from elsewhere -/
abbrev Exts := FuncId → Option (List Value → M Value)
def fun1 (P : Program) (X : Exts) (A : Ann) (call : FuncId → List Value → M Value) (f : FuncId) (args : List Value) : M Value :=
  match X f with
  | some m => m args
  | none => match P.funcs[f]? with
    | some fn => (match fn.body with
      | some c => bif Nat.ble args.length fn.ntmps then body P call A f fn c args else M.fail
      | none => M.fail)
    | none => M.fail
def func (P : Program) (X : Exts) (A : Ann) : Nat → FuncId → List Value → Heap → Out Value
  | 0, _, _, _ => .fail
  | k + 1, f, args, H => fun1 P X A (fun g xs _ H' => func P X A k g xs H') f args k H
/-- a call, at whatever fuel is left -/
def callP (P : Program) (X : Exts) (A : Ann) (f : FuncId) (args : List Value) : M Value := fun k H => func P X A k f args H

end Go.Am
