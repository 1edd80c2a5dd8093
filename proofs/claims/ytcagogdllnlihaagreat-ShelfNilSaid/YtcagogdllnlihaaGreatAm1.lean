/- The abstract evaluator: what the model's operations come to on the abstract heap. -/
import Derived.Test.YtcagogdllnlihaaGreatAm0
set_option linter.all false
namespace Go.Am

abbrev Env := Nat → Value
def upd (e : Env) (d : Option Nat) (v : Value) : Env := match d with
  | some d => fun i => bif Nat.beq i d then v else e i
  | none => e
def assoc : List Nat → List Value → Nat → Value
  | k :: ks, v :: vs, i => bif Nat.beq i k then v else assoc ks vs i
  | _, _, _ => poison
/-- the environment that knows the slots ks alone -/
def mk (ks : List Nat) (vs : List Value) : Env := assoc ks vs
def ev (e : Env) : Operand → Value
  | .tmp t => e t
  | .const v => v
  | .global g => .pointer (some ⟨g, 0, none⟩)
  | .func f => .func (.func f) #[] #[]

def scalar : Value → Bool
  | .agg _ => false
  | .tuple _ => false
  | .chan _ => false
  | _ => true
def plainB : Value → Bool
  | .bool _ | .int .. | .string _ | .nilFunc | .nilIface | .pointer none | .slice none _ _ | .map none => true
  | .pointer (some a) => a.spot.isNone
  | .slice (some a) _ _ => a.spot.isNone
  | _ => false
/-- a constant that is the same in both worlds -/
def constOk : Value → Bool
  | .agg cs => cs.toList.all plainB
  | v => plainB v

def new (i off : Nat) : Addr := ⟨i, off, some 0⟩
def mv (a : Addr) (n : Nat) : Addr := ⟨a.block, a.off + n, a.spot⟩

def baseCells (B : World) (b : Nat) : Nat → Nat → Option (List Value)
  | _, 0 => some []
  | off, n + 1 => match B.cell? ⟨b, off, none⟩ with
    | some v => bif plainB v then (baseCells B b (off + 1) n).map (v :: ·) else none
    | none => none

def Heap.cellsAt (H : Heap) (a : Addr) (n : Nat) : Option (List Value) :=
  match a.spot with
  | some _ => match H.get a.block with
    | some (.cells _ c) => bif Nat.ble (a.off + n) c.length then some ((c.drop a.off).take n) else none
    | _ => none
  | none => baseCells H.base a.block a.off n

def splice (c : List Value) (off : Nat) (xs : List Value) : List Value := c.take off ++ (xs ++ c.drop (off + xs.length))

def getH : M Heap := fun _ H => .ok H H
def putH (H : Heap) : M Unit := fun _ _ => .ok () H
def ofO {α : Type} : Option α → M α
  | some a => M.pure a
  | none => M.fail

def vlist : Value → List Value
  | .agg cs => cs.toList
  | v => [v]

/-! ### memory -/
def ld (agg : Bool) (n : Nat) (p : Value) : M Value := fun _ H =>
  match p with
  | .pointer (some a) => match H.cellsAt a n with
    | some l => match agg, l with
      | true, l => .ok (.agg ⟨l⟩) H
      | false, [x] => .ok x H
      | false, _ => .fail
    | none => .fail
  | _ => .fail
def putCells (H : Heap) (a : Addr) (xs : List Value) : Option Heap :=
  match a.spot, H.get a.block with
  | some _, some (.cells e c) =>
    bif Nat.ble (a.off + xs.length) c.length && xs.all scalar then some (H.set a.block (.cells e (splice c a.off xs))) else none
  | _, _ => none
def st (n : Nat) (p x : Value) : M Value := fun _ H =>
  match p with
  | .pointer (some a) => bif Nat.beq (vlist x).length n then
      match putCells H a (vlist x) with
      | some H' => .ok undef H'
      | none => .fail
    else .fail
  | _ => .fail
def newOb (o : Ob) : M Value := fun _ H => .ok (.pointer (some (new H.next 0))) (H.push o)
def alloc (e : TypeId) (zero : List Value) : M Value := newOb (.cells e zero)
/-- no cells of a variable -/
def bad : Value → Bool
  | .tuple _ => true
  | .chan _ => true
  | _ => false
def box (e : TypeId) (x : Value) : M Value := bif bad x then M.fail else newOb (.cells e (vlist x))

/-! ### values -/
def fld (n : Nat) : Value → M Value
  | .pointer (some a) => M.pure (.pointer (some (mv a n)))
  | _ => M.fail
def nilck : Value → M Value
  | .pointer (some a) => M.pure (.pointer (some a))
  | .func (.func f) x y => M.pure (.func (.func f) x y)
  | _ => M.fail
def pck : Value → Value → Value → M Value
  | .bool true, a, _ => M.pure a
  | .bool false, _, b => M.pure b
  | _, _, _ => M.fail
def ext (i : Nat) : Value → M Value
  | .tuple vs => match vs.toList[i]? with
    | some v => M.pure v
    | none => M.fail
  | _ => M.fail
/-- parts laid into cells: (offset, size, value) -/
def lay (cells : List Value) : List (Nat × Nat × Value) → Option (List Value)
  | [] => some cells
  | (off, size, v) :: r => bif !bad v && (Nat.beq (vlist v).length size && Nat.ble (off + size) cells.length) then lay (splice cells off (vlist v)) r else none
def bld (zero : List Value) (parts : List (Nat × Nat × Value)) : M Value := match lay zero parts with
  | some l => M.pure (.agg ⟨l⟩)
  | none => M.fail
def rep (n : Nat) (l : List Value) : List Value := (List.replicate n l).flatten
def bldSlice (e : TypeId) (size : Nat) (zero : List Value) (len : Nat) (parts : List (Nat × Nat × Value)) : M Value := fun _ H =>
  match lay (rep len zero) parts with
  | some l => .ok (.slice (some (new H.next 0)) len (size + 2)) (H.push (.cells e l))
  | none => .fail
def mkSlice (e : TypeId) (size bytes : Nat) (zero : List Value) (len cap : Value) : M Value := fun _ H =>
  match len, cap with
  | .int .i64 l, .int .i64 c =>
    bif decide (0 ≤ l) && decide (l ≤ c) && decide (bytes * c ≤ 2 ^ 47) && decide (c < 2 ^ 62) then
      .ok (.slice (some (new H.next 0)) l.toNat (size + 2)) (H.push (.cells e (rep l.toNat zero)))
    else .fail
  | _, _ => .fail

/-! ### numbers -/
def intOp (op : BinOp) (k : IntKind) (a b : Int) : Option Value := match op with
  | .add => some (.int k (k.wrap (a + b)))
  | .sub => some (.int k (k.wrap (a - b)))
  | .mul => some (.int k (k.wrap (a * b)))
  | .quo => bif decide (b = 0) then none else some (.int k (k.wrap (a.tdiv b)))
  | .rem => bif decide (b = 0) then none else some (.int k (a.tmod b))
  | .and => some (.int k (k.wrap (BitVec.ofInt k.bits a &&& BitVec.ofInt k.bits b).toNat))
  | .or => some (.int k (k.wrap (BitVec.ofInt k.bits a ||| BitVec.ofInt k.bits b).toNat))
  | .xor => some (.int k (k.wrap (BitVec.ofInt k.bits a ^^^ BitVec.ofInt k.bits b).toNat))
  | .andNot => some (.int k (k.wrap (BitVec.ofInt k.bits a &&& ~~~BitVec.ofInt k.bits b).toNat))
  | .eql => some (.bool (a == b))
  | .neq => some (.bool (a != b))
  | .lss => some (.bool (a < b))
  | .leq => some (.bool (a ≤ b))
  | .gtr => some (.bool (a > b))
  | .geq => some (.bool (a ≥ b))
  | _ => none
def shf (op : BinOp) (k : IntKind) (a b : Int) : Option Value :=
  bif decide (b < 0) then none else match op with
  | .shl => some (.int k (k.wrap (a * 2 ^ min b.toNat k.bits)))
  | .shr => some (.int k (a.fdiv (2 ^ min b.toNat k.bits)))
  | _ => none
def isShift : BinOp → Bool
  | .shl | .shr => true
  | _ => false
inductive Sh where
  | bool | int | str
/-- == between two cells that are bools, integers of one kind, strings -/
def cellEq : Sh → Value → Value → Option Bool
  | .bool, .bool a, .bool b => some (a == b)
  | .int, .int k a, .int k' b => bif decide (k = k') then some (a == b) else none
  | .str, .string a, .string b => some (a == b)
  | _, _, _ => none
def cellsEq : List Sh → List Value → List Value → Option Bool
  | [], [], [] => some true
  | s :: ss, x :: xs, y :: ys => match cellEq s x y, cellsEq ss xs ys with
    | some a, some b => some (a && b)
    | _, _ => none
  | _, _, _ => none
def live (H : Heap) (i : Nat) : Bool := match H.get i with
  | some (.cells ..) => true
  | _ => false
def ptrEqA (H : Heap) : Option Addr → Option Addr → Option Bool
  | none, none => some true
  | none, some _ => some false
  | some _, none => some false
  | some a, some b => match a.spot, b.spot with
    | some _, some _ => bif Nat.beq a.block b.block then some (Nat.beq a.off b.off) else bif live H a.block && live H b.block then some false else none
    | _, _ => none
def ptrEq (H : Heap) : Value → Value → Option Bool
  | .pointer a, .pointer b => ptrEqA H a b
  | _, _ => none
inductive NilK where
  | slice | map | func | iface
def nilEq : NilK → Value → Value → Option Bool
  | .slice, .slice none _ _, .slice none _ _ => some true
  | .slice, .slice none _ _, .slice (some _) _ _ => some false
  | .slice, .slice (some _) _ _, .slice none _ _ => some false
  | .map, .map none, .map none => some true
  | .map, .map none, .map (some _) => some false
  | .map, .map (some _), .map none => some false
  | .func, .nilFunc, .nilFunc => some true
  | .func, .nilFunc, .func .. => some false
  | .func, .func .., .nilFunc => some false
  | .iface, .nilIface, .iface .. => some false
  | .iface, .iface .., .nilIface => some false
  | _, _, _ => none
def eqRes (op : BinOp) (r : Option Bool) : Option Value := match op, r with
  | .eql, some r => some (.bool r)
  | .neq, some r => some (.bool (!r))
  | _, _ => none
def okO (r : Option Value) (H : Heap) : Out Value := match r with
  | some v => .ok v H
  | none => .fail
/-- == and != of structs and arrays of cells that are numbers, bools and strings -/
def binA (sh : List Sh) (op : BinOp) (x y : Value) : M Value := fun _ H => match x, y with
  | .agg a, .agg b => okO (eqRes op (cellsEq sh a.toList b.toList)) H
  | _, _ => .fail
/-- x op y of numbers; bools; strings; addresses; things that may be nil -/
def binI (op : BinOp) (x y : Value) : M Value := fun _ H =>
  match x, y with
  | .int k a, .int k' b => okO (match isShift op with
    | true => shf op k a b
    | false => bif decide (k = k') then intOp op k a b else none) H
  | _, _ => .fail
def binB (op : BinOp) (x y : Value) : M Value := fun _ H => match x, y with
  | .bool a, .bool b => okO (eqRes op (some (a == b))) H
  | _, _ => .fail
def binS (op : BinOp) (x y : Value) : M Value := fun _ H => match x, y with
  | .string a, .string b => okO (match op with
    | .add => bif Nat.ble (a.size + b.size) (2 ^ 48) then some (.string (a ++ b)) else none
    | op => eqRes op (some (a == b))) H
  | _, _ => .fail
def binP (op : BinOp) (x y : Value) : M Value := fun _ H => okO (eqRes op (ptrEq H x y)) H
def binN (kd : NilK) (op : BinOp) (x y : Value) : M Value := fun _ H => okO (eqRes op (nilEq kd x y)) H
def un (op : UnOp) (x : Value) : M Value := match op, x with
  | .not, .bool b => M.pure (.bool !b)
  | .neg, .int k n => M.pure (.int k (k.wrap (0 - n)))
  | .xor, .int k n => M.pure (.int k (k.wrap (BitVec.ofInt k.bits (if k.signed then -1 else k.max) ^^^ BitVec.ofInt k.bits n).toNat))
  | _, _ => M.fail
def cvt (k : IntKind) : Value → M Value
  | .int _ n => M.pure (.int k (k.wrap n))
  | _ => M.fail

/-! ### slices -/
/-- x[i]: of an array's address; of a slice; of an array's value; of a string -/
def idxP (len size : Nat) (x i : Value) : M Value := match x, i with
  | .pointer (some a), .int _ i => bif decide (0 ≤ i) && decide (i < (len : Int)) then M.pure (.pointer (some (mv a (i.toNat * size)))) else M.fail
  | _, _ => M.fail
def idxS (size : Nat) (x i : Value) : M Value := match x, i with
  | .slice (some a) len _, .int _ i => bif decide (0 ≤ i) && decide (i < (len : Int)) then M.pure (.pointer (some (mv a (i.toNat * size)))) else M.fail
  | _, _ => M.fail
def partV (n : Nat) (agg : Bool) (l : List Value) : M Value := match agg, l with
  | true, l => bif Nat.beq l.length n then M.pure (.agg ⟨l⟩) else M.fail
  | false, [v] => M.pure v
  | _, _ => M.fail
def idxV (len size : Nat) (agg : Bool) (x i : Value) : M Value := match x, i with
  | .agg cs, .int _ i => bif decide (0 ≤ i) && decide (i < (len : Int)) then partV size agg ((cs.toList.drop (i.toNat * size)).take size) else M.fail
  | _, _ => M.fail
def idxB (x i : Value) : M Value := match x, i with
  | .string s, .int _ i => bif decide (0 ≤ i) then (match s.data.toList[i.toNat]? with
      | some b => M.pure (.int .u8 b.toNat)
      | none => M.fail) else M.fail
  | _, _ => M.fail
def fldV (off size : Nat) (agg : Bool) : Value → M Value
  | .agg cs => partV size agg ((cs.toList.drop off).take size)
  | _ => M.fail
def bnd (d : Nat) : Option Value → Option Nat
  | none => some d
  | some (.int _ i) => bif decide (0 ≤ i) then some i.toNat else none
  | some _ => none
def bnds (len cap : Nat) (lo hi mx : Option Value) : Option (Nat × Nat × Nat) :=
  bif mx.isSome && hi.isNone then none else
  match bnd cap mx, bnd len hi, bnd 0 lo with
  | some m, some h, some l => bif Nat.ble l h && (Nat.ble h m && Nat.ble m cap) then some (l, h, m) else none
  | _, _, _ => none
/-- what is known of the room behind a slice: 0: there is none; 1: nothing; s + 2: it is the slice's own, of cells s wide -/
def tagOf (tag size : Nat) : Nat := bif Nat.beq tag (size + 2) then tag else 1
def behind (m l size : Nat) (a : Addr) : Addr := bif Nat.beq m l then a else mv a (l * size)
/-- x[lo:hi:mx] of an array's address; of a slice; of a string -/
def slcA (n size : Nat) (x : Value) (lo hi mx : Option Value) : M Value := fun _ H => match x with
  | .pointer (some a) => (match bnds n n lo hi mx with
    | some (l, h, m) => (match a.spot with
      | some _ => (match H.get a.block with
        | some (.cells _ c) => bif Nat.ble (a.off + n * size) c.length then .ok (.slice (some (behind m l size a)) (h - l) (bif Nat.beq m l then 0 else 1)) H else .fail
        | _ => .fail)
      | none => .ok (.slice (some (behind m l size a)) (h - l) (m - l)) H)
    | none => .fail)
  | _ => .fail
def slcS (size : Nat) (x : Value) (lo hi mx : Option Value) : M Value := fun _ H => match x with
  | .slice none 0 0 => (match bnds 0 0 lo hi mx with
    | some _ => .ok (.slice none 0 0) H
    | none => .fail)
  | .slice (some a) len cap => (match a.spot with
    | some _ => (match bnds len len lo hi mx with
      | some (l, h, m) => bif mx.isSome then .ok (.slice (some (behind m l size a)) (h - l) (bif Nat.beq m l then 0 else 1)) H
          else .ok (.slice (some (mv a (l * size))) (h - l) (tagOf cap size)) H
      | none => .fail)
    | none => (match bnds len cap lo hi mx with
      | some (l, h, m) => .ok (.slice (some (behind m l size a)) (h - l) (m - l)) H
      | none => .fail))
  | _ => .fail
def slcB (x : Value) (lo hi : Option Value) : M Value := fun _ H => match x with
  | .string s => (match bnds s.size s.size lo hi none with
    | some (l, h, _) => .ok (.string (s.extract l h)) H
    | none => .fail)
  | _ => .fail
/-- the cells that an appended or copied value holds -/
def Heap.cellsOf (H : Heap) (size n : Nat) : Value → Option (List Value)
  | .slice none _ _ => some []
  | .slice (some a) _ _ => H.cellsAt a (n * size)
  | .string s => some ((s.data.toList.take n).map fun b => .int .u8 b.toNat)
  | _ => none
def lenV : Value → Option Nat
  | .slice none 0 0 => some 0
  | .slice (some _) n _ => some n
  | .string s => some s.size
  | _ => none
/-- is it sure that what is appended needs new room? -/
def noRoomB : Value → Bool
  | .slice none _ _ => true
  | .slice (some a) l tag => Nat.beq tag 0 && Nat.beq l 0
  | _ => false
/-- a slice that is as long as its own room at most -/
def fitsB : Value → Bool
  | .slice (some a) l cap => (match a.spot with
    | some _ => true
    | none => Nat.ble l cap)
  | .slice none 0 _ => true
  | _ => false
def app (e : TypeId) (size bytes : Nat) (s x : Value) : M Value := fun _ H =>
  match lenV s, lenV x with
  | some l, some n =>
    bif Nat.beq n 0 then (bif fitsB s then .ok s H else .fail) else
    bif Nat.ble ((l + n) * bytes) (2 ^ 47) && Nat.blt 0 bytes && Nat.blt 0 size then
      (match s, H.cellsOf size l s, H.cellsOf size n x with
      | .slice b _ tag, some old, some more =>
        bif !(more.all scalar && (Nat.beq more.length (n * size) && Nat.beq old.length (l * size))) then .fail else
        bif noRoomB s then .ok (.slice (some (new H.next 0)) (l + n) (size + 2)) (H.push (.cells e (old ++ more)))
        else (match b with
        | some a => (match a.spot, H.get a.block with
          | some _, some (.cells e' _) => bif Nat.beq tag (size + 2) && Nat.beq e' e then
              .ok (.slice (some (new H.next 0)) (l + n) (size + 2)) ((H.set a.block .gone).push (.cells e (old ++ more))) else .fail
          | _, _ => .fail)
        | none => .fail)
      | _, _, _ => .fail)
    else .fail
  | _, _ => .fail
def cpy (size : Nat) (d x : Value) : M Value := fun _ H =>
  match d, lenV d, lenV x with
  | .slice b _ _, some l, some n => bif Nat.beq (min n l) 0 then .ok (.int .i64 0) H else (match b, H.cellsOf size (min n l) x with
    | some a, some more => bif Nat.beq more.length (min n l * size) then (match putCells H a more with
      | some H' => .ok (.int .i64 (min n l : Nat)) H'
      | none => .fail) else .fail
    | _, _ => .fail)
  | _, _, _ => .fail
def clr (zero : List Value) (x : Value) : M Value := fun _ H =>
  match x with
  | .slice (some a) n _ => bif Nat.beq n 0 then .ok undef H else (match putCells H a (rep n zero) with
    | some H' => .ok undef H'
    | none => .fail)
  | .slice none 0 0 => .ok undef H
  | _ => .fail

/-! ### maps with integer keys -/
def keyIs (k : IntKind) (n : Int) (e : MapEntry) : Option Bool := match e.key with
  | .int k' m => bif decide (k = k') then some (n == m) else none
  | _ => none
def mfind (k : IntKind) (n : Int) : List MapEntry → Nat → Option (Option (Nat × Value))
  | [], _ => some none
  | e :: es, i => match keyIs k n e with
    | some true => some (some (i, e.val))
    | some false => mfind k n es (i + 1)
    | none => none
def mkMap : M Value := fun _ H => .ok (.map (some H.next)) (H.push (.map [] 0))
def Heap.map? (H : Heap) : Value → Option (List MapEntry × Nat)
  | .map none => some ([], 0)
  | .map (some r) => match H.get r with
    | some (.map es c) => some (es, c)
    | _ => none
  | _ => none
def lkp (zero : Value) (ok : Bool) (m k : Value) : M Value := fun _ H =>
  match H.map? m, k with
  | some (es, _), .int kk n => match mfind kk n es 0 with
    | some (some (_, v)) => .ok (bif ok then .tuple #[v, .bool true] else v) H
    | some none => .ok (bif ok then .tuple #[zero, .bool false] else zero) H
    | none => .fail
  | _, _ => .fail
def mupd (m k v : Value) : M Value := fun _ H =>
  match m, k with
  | .map (some r), .int kk n => (match H.get r with
    | some (.map es c) => (match mfind kk n es 0 with
      | some (some (i, _)) => .ok undef (H.set r (.map (es.modify i fun e => { e with key := .int kk n, val := v }) c))
      | some none => .ok undef (H.set r (.map (es ++ [{ key := .int kk n, val := v, born := c }]) (c + 1)))
      | none => .fail)
    | _ => .fail)
  | _, _ => .fail
def mdel (m k : Value) : M Value := fun _ H =>
  match m, k with
  | .map (some r), .int kk n => (match H.get r with
    | some (.map es c) => (match mfind kk n es 0 with
      | some (some (i, _)) => .ok undef (H.set r (.map (es.eraseIdx i) c))
      | some none => .ok undef H
      | none => .fail)
    | _ => .fail)
  | .map none, .int _ _ => .ok undef H
  | _, _ => .fail
def mrange (m : Value) : M Value := fun _ H =>
  match m with
  | .map none => .ok (.pointer (some (new H.next 0))) (H.push (.iter none 0 #[] 0))
  | .map (some r) => (match H.get r with
    | some (.map _ c) => .ok (.pointer (some (new H.next 0))) (H.push (.iter (some r) c #[] c))
    | _ => .fail)
  | _ => .fail
def mnext (it : Value) : M Value := fun _ H =>
  match it with
  | .pointer (some ⟨r, 0, some 0⟩) => (match H.get r with
    | some (.iter none _ _ _) => .ok (.tuple #[.bool false]) H
    | some (.iter (some m) since seen last) => (match H.get m with
      | some (.map es clock) =>
        bif !seen.isEmpty && !es.isEmpty && es.all (fun e => decide (e.born ≥ last)) then .fail else
        let left := es.filter fun e => !seen.contains e.born
        let old := left.filter fun e => decide (e.born < since)
        let neu := left.filter fun e => decide (e.born ≥ since)
        let cands := (if old.isEmpty then [none] else []) ++ (old ++ neu).map some
        .pick cands.length fun i => match cands[i]? with
          | some (some e) => .ok (.tuple #[.bool true, e.key, e.val]) (H.set r (.iter (some m) since (seen.push e.born) clock))
          | some none => .ok (.tuple #[.bool false]) H
          | none => .fail
      | _ => .fail)
    | _ => .fail)
  | _ => .fail
def mentry (it : Value) : M Value := fun _ H =>
  match it with
  | .pointer (some ⟨r, 0, some 0⟩) => (match H.get r with
    | some (.iter (some m) _ seen stepped) => (match seen.back?, H.get m with
      | some stamp, some (.map es clock) => bif decide (clock = stepped) then (match es.find? (fun e => e.born == stamp) with
        | some e => .ok (.tuple #[e.key, e.val]) H
        | none => .fail) else .fail
      | _, _ => .fail)
    | _ => .fail)
  | _ => .fail
/-- len of a slice; of a string; of a map -/
def lenL (x : Value) : M Value := fun _ H =>
  match x with
  | .slice none 0 0 => .ok (.int .i64 0) H
  | .slice (some _) n _ => .ok (.int .i64 n) H
  | _ => .fail
def lenT (x : Value) : M Value := fun _ H =>
  match x with
  | .string s => .ok (.int .i64 s.size) H
  | _ => .fail
def lenM (x : Value) : M Value := fun _ H =>
  match x with
  | .map none => .ok (.int .i64 0) H
  | .map (some r) => (match H.get r with
    | some (.map es _) => .ok (.int .i64 es.length) H
    | _ => .fail)
  | _ => .fail
def mx (x y : Value) : M Value := match x, y with
  | .int k a, .int k' b => bif decide (k = k') then M.pure (.int k (if b > a then b else a)) else M.fail
  | _, _ => M.fail
def mn (x y : Value) : M Value := match x, y with
  | .int k a, .int k' b => bif decide (k = k') then M.pure (.int k (if b < a then b else a)) else M.fail
  | _, _ => M.fail

/-! ### control -/
inductive Ctl where
  | normal | exit (id : Nat) | ret
abbrev R := Ctl × Env
def seqM (m : M R) (f : Env → M R) : M R := M.bind m fun r => match r.1 with
  | .normal => f r.2
  | _ => M.pure r
def condM (v : Value) (x y : M R) : M R := match v with
  | .bool true => x
  | .bool false => y
  | _ => M.fail
def leaveB (id : Nat) : Ctl → Ctl
  | .exit i => bif Nat.beq i id then .normal else .exit i
  | c => c
def blockM (id : Nat) (m : M R) : M R := M.bind m fun r => M.pure (leaveB id r.1, r.2)
def loopF (ks : List Nat) (body : Env → M R) : Nat → List Value → Nat → Heap → Out R
  | 0, _, _, _ => .fail
  | n + 1, vs, k, H => (body (mk ks vs) k H).bind fun r H' => match r.1 with
    | .normal => loopF ks body n (ks.map r.2) k H'
    | _ => .ok r H'
def loopM (ks : List Nat) (body : Env → M R) (vs : List Value) : M R := fun k H => loopF ks body k vs k H
def guardM (g : Value) (want : Bool) (m : M Value) : M Value := match g with
  | .bool b => bif b == want then m else M.pure undef
  | .tuple ⟨[]⟩ => M.pure undef
  | _ => M.fail
/-- equality, as far as it is asked -/
def eqA (a b : Addr) : Bool := Nat.beq a.block b.block && Nat.beq a.off b.off && (match a.spot, b.spot with
  | none, none => true
  | some x, some y => Nat.beq x y
  | _, _ => false)
def eqK : IntKind → IntKind → Bool := fun a b => decide (a = b)
def eqL (f : Value → Value → Bool) : List Value → List Value → Bool
  | [], [] => true
  | x :: xs, y :: ys => f x y && eqL f xs ys
  | _, _ => false
def eqV : Nat → Value → Value → Bool
  | 0, _, _ => false
  | d + 1, a, b => match a, b with
    | .bool x, .bool y => x == y
    | .int k n, .int l m => eqK k l && decide (n = m)
    | .string s, .string t => decide (s.data.toList = t.data.toList)
    | .pointer none, .pointer none => true
    | .pointer (some x), .pointer (some y) => eqA x y
    | .slice none n m, .slice none n' m' => Nat.beq n n' && Nat.beq m m'
    | .slice (some x) n m, .slice (some y) n' m' => eqA x y && (Nat.beq n n' && Nat.beq m m')
    | .map none, .map none => true
    | .map (some x), .map (some y) => Nat.beq x y
    | .nilFunc, .nilFunc => true
    | .nilIface, .nilIface => true
    | .iface t x, .iface u y => Nat.beq t u && eqV d x y
    | .agg ⟨xs⟩, .agg ⟨ys⟩ => eqL (eqV d) xs ys
    | .tuple ⟨xs⟩, .tuple ⟨ys⟩ => eqL (eqV d) xs ys
    | .func (.func f) ⟨xs⟩ ⟨zs⟩, .func (.func g) ⟨ys⟩ ⟨us⟩ => Nat.beq f g && (eqL (eqV d) xs ys && eqL (eqV d) zs us)
    | _, _ => false
theorem eqA_sound {a b : Addr} (h : eqA a b = true) : a = b := by
  obtain ⟨x, y, z⟩ := a
  obtain ⟨x', y', z'⟩ := b
  simp only [eqA, Bool.and_eq_true] at h
  obtain ⟨⟨h1, h2⟩, h3⟩ := h
  have := Nat.eq_of_beq_eq_true h1
  have := Nat.eq_of_beq_eq_true h2
  cases z <;> cases z' <;> simp only at h3 <;> simp_all
theorem eqL_sound {f : Value → Value → Bool} (hf : ∀ x y, f x y = true → x = y) : ∀ {xs ys : List Value}, eqL f xs ys = true → xs = ys
  | [], [], _ => rfl
  | x :: xs, y :: ys, h => by
    simp only [eqL, Bool.and_eq_true] at h
    rw [hf _ _ h.1, eqL_sound hf h.2]
  | [], _ :: _, h => by cases h
  | _ :: _, [], h => by cases h
theorem eqV_sound : ∀ (d : Nat) (a b : Value), eqV d a b = true → a = b
  | 0, _, _, h => by cases h
  | d + 1, a, b, h => by
    have ih := eqV_sound d
    unfold eqV at h
    split at h <;> first
      | rfl
      | (cases h; done)
      | (simp only [Bool.and_eq_true, beq_iff_eq, decide_eq_true_eq, eqK] at h; simp_all; done)
      | skip
    all_goals first
      | (rename_i s t; have h1 := of_decide_eq_true h; obtain ⟨⟨s⟩⟩ := s; obtain ⟨⟨t⟩⟩ := t; simp only at h1; rw [h1]; done)
      | (rw [eqA_sound h]; done)
      | (rw [Nat.eq_of_beq_eq_true h]; done)
      | (rw [eqL_sound ih h]; done)
      | (simp only [Bool.and_eq_true] at h; rw [Nat.eq_of_beq_eq_true h.1, Nat.eq_of_beq_eq_true h.2]; done)
      | (simp only [Bool.and_eq_true] at h; rw [eqA_sound h.1, Nat.eq_of_beq_eq_true h.2.1, Nat.eq_of_beq_eq_true h.2.2]; done)
      | (simp only [Bool.and_eq_true] at h; rw [Nat.eq_of_beq_eq_true h.1, ih _ _ h.2]; done)
      | (simp only [Bool.and_eq_true] at h; rw [Nat.eq_of_beq_eq_true h.1, eqL_sound ih h.2.1, eqL_sound ih h.2.2]; done)
def sameR (r : Out Value) (v : Value) : Bool := match r with
  | .ok u _ => eqV 6 u v
  | _ => false
theorem sameR_sound {r : Out Value} {v : Value} (h : sameR r v = true) : ∃ H, r = .ok v H := by
  unfold sameR at h
  split at h
  · rename_i u H; rw [eqV_sound _ _ _ h]; exact ⟨H, rfl⟩
  · cases h
def chk (m : M Value) (v : Value) (h : Heap) : M Unit := fun k H => .need (sameR (m k h) v) (.ok () H)

end Go.Am
