/- The code, told by what comes behind it. -/
import Derived.Test.YtcagogdllnlihaaGreatAm26
set_option linter.all false
namespace Go.Am

theorem Out.bind_assoc {α β γ : Type} (f : α → Heap → Out β) (g : β → Heap → Out γ) : ∀ (o : Out α), (o.bind f).bind g = o.bind fun a H => (f a H).bind g
  | .ok _ _ => rfl
  | .panic _ _ => rfl
  | .pick n k => by simp only [Out.bind]; congr; funext i; exact Out.bind_assoc f g (k i)
  | .need b o => by simp only [Out.bind]; rw [Out.bind_assoc f g o]
  | .fail => rfl
theorem M.bind_assoc {α β γ : Type} (m : M α) (f : α → M β) (g : β → M γ) : M.bind (M.bind m f) g = M.bind m fun a => M.bind (f a) g := by
  funext k H; exact Out.bind_assoc _ _ _
theorem M.pure_bind {α β : Type} (a : α) (f : α → M β) : M.bind (M.pure a) f = f a := rfl
theorem M.fail_bind {α β : Type} (f : α → M β) : M.bind M.fail f = M.fail := rfl

abbrev K := Env → M Value
def condV (v : Value) (x y : M Value) : M Value := match v with
  | .bool true => x
  | .bool false => y
  | _ => M.fail
def loopVF (body : (List Value → M Value) → List Value → M Value) : Nat → List Value → M Value
  | 0, _ => M.fail
  | n + 1, vs => body (loopVF body n) vs
def loopV (body : (List Value → M Value) → List Value → M Value) (vs : List Value) : M Value := fun k H => loopVF body k vs k H

def evalOpsK (P : Program) (call : CallF) (keep : List Nat) (ops : List Oper) (kn : K) : List Oper → Env → M Value
  | [], e => kn (mk keep (keep.map e))
  | o :: r, e => match o.guard, moved o.op with
    | none, some x => evalOpsK P call keep ops kn r (upd e o.dst (ev e x))
    | _, _ => M.bind (mOf P call ops e o) fun v => evalOpsK P call keep ops kn r (upd e o.dst v)
theorem evalOpsK_eq (P : Program) (call : CallF) (keep : List Nat) (ops : List Oper) (k : R → M Value) : ∀ (r : List Oper) (e : Env),
    M.bind (evalOps P call keep ops r e) k = evalOpsK P call keep ops (fun e => k (.normal, e)) r e
  | [], e => rfl
  | o :: r, e => by
    unfold evalOps evalOpsK
    cases o.guard with
    | none =>
      cases moved o.op with
      | some x => exact evalOpsK_eq P call keep ops k r _
      | none => simp only; rw [M.bind_assoc]; congr; funext v; exact evalOpsK_eq P call keep ops k r _
    | some g => simp only; rw [M.bind_assoc]; congr; funext v; exact evalOpsK_eq P call keep ops k r _
def chksK : List (M Value × Value × Heap) → M Value → M Value
  | [], m => m
  | (c, v, h) :: r, m => M.bind (chk c v h) fun _ => chksK r m
theorem chksK_eq (k : R → M Value) (m : M R) : ∀ (l : List (M Value × Value × Heap)), M.bind (chks l m) k = chksK l (M.bind m k)
  | [] => rfl
  | (c, v, h) :: r => by unfold chks chksK; rw [M.bind_assoc]; congr; funext u; exact chksK_eq k m r
def evalDrawK (P : Program) (call : CallF) (keep : List Nat) (ops : List Oper) (bs : List Nat) (kn : K) : List Nat → Env → List Read → M Value
  | [], e, _ => kn (mk keep (keep.map e))
  | i :: r, e, reads => match ops[i]? with
    | none => M.fail
    | some o => match kindOf o with
      | .quiet => (match o.guard, moved o.op with
        | none, some x => evalDrawK P call keep ops bs kn r (upd e o.dst (ev e x)) reads
        | _, _ => M.bind (mOf P call ops e o) fun v => evalDrawK P call keep ops bs kn r (upd e o.dst v) reads)
      | .read => M.bind (mOf P call ops e o) fun v => evalDrawK P call keep ops bs kn r (upd e o.dst v) ((i, mOf P call ops e o, v) :: reads)
      | .make => M.bind (mOf P call ops e o) fun v => evalDrawK P call keep ops bs kn r (upd e o.dst v) reads
      | .act => M.bind (mOf P call ops e o) fun v => match reads.filter fun x => !ahead bs x.1 i with
        | [] => evalDrawK P call keep ops bs kn r (upd e o.dst v) []
        | x :: l => M.bind getH fun h => chksK ((x :: l).map fun x => (x.2.1, x.2.2, h)) (evalDrawK P call keep ops bs kn r (upd e o.dst v) (x :: l))
theorem evalDrawK_eq (P : Program) (call : CallF) (keep : List Nat) (ops : List Oper) (bs : List Nat) (k : R → M Value) : ∀ (r : List Nat) (e : Env) (reads : List Read),
    M.bind (evalDraw P call keep ops bs r e reads) k = evalDrawK P call keep ops bs (fun e => k (.normal, e)) r e reads
  | [], e, _ => rfl
  | i :: r, e, reads => by
    unfold evalDraw evalDrawK
    cases ops[i]? with
    | none => rfl
    | some o =>
      simp only
      cases kindOf o with
      | quiet =>
        simp only
        cases o.guard with
        | none =>
          cases moved o.op with
          | some x => exact evalDrawK_eq P call keep ops bs k r _ _
          | none => simp only; rw [M.bind_assoc]; congr; funext v; exact evalDrawK_eq P call keep ops bs k r _ _
        | some g => simp only; rw [M.bind_assoc]; congr; funext v; exact evalDrawK_eq P call keep ops bs k r _ _
      | read => simp only; rw [M.bind_assoc]; congr; funext v; exact evalDrawK_eq P call keep ops bs k r _ _
      | make => simp only; rw [M.bind_assoc]; congr; funext v; exact evalDrawK_eq P call keep ops bs k r _ _
      | act =>
        simp only; rw [M.bind_assoc]; congr; funext v
        cases (reads.filter fun x => !ahead bs x.1 i) with
        | nil => exact evalDrawK_eq P call keep ops bs k r _ _
        | cons x l =>
          simp only
          rw [M.bind_assoc]; congr; funext h
          rw [chksK_eq]; congr; exact evalDrawK_eq P call keep ops bs k r _ _
def regionK (P : Program) (call : CallF) (keep : List Nat) (nt : Nat) (ops : List Oper) (draw : Bool) (e : Env) (kn : K) : M Value :=
  bif ops.all (opOk nt) then
    (match draw with
    | false => evalOpsK P call keep ops kn ops e
    | true => bif drawOk ops (befs ops) (greedy ops (befs ops) ops.length 0 (List.range ops.length)) then
        evalDrawK P call keep ops (befs ops) kn (greedy ops (befs ops) ops.length 0 (List.range ops.length)) e [] else M.fail)
  else M.fail
def codeK (P : Program) (call : CallF) (keep : Nat → List Nat) (head : Nat → List Nat) (nt : Nat) : Code → Env → K → K → (Nat → K) → M Value
  | .skip, e, kn, _, _ => kn e
  | .label _, e, kn, _, _ => kn e
  | .region id ops draw, e, kn, _, _ => regionK P call (keep id) nt ops.toList draw e kn
  | .seq a b, e, kn, kr, kx => codeK P call keep head nt a e (fun e' => codeK P call keep head nt b e' kn kr kx) kr kx
  | .cond c a b, e, kn, kr, kx => condV (ev e c) (codeK P call keep head nt a e kn kr kx) (codeK P call keep head nt b e kn kr kx)
  | .block id a, e, kn, kr, kx => codeK P call keep head nt a e kn kr (fun i e' => bif Nat.beq i id then kn e' else kx i e')
  | .loop a, e, _, kr, kx => loopV (fun again vs => codeK P call keep head nt a (mk (head (firstRegion a)) vs) (fun e' => again ((head (firstRegion a)).map e')) kr kx) ((head (firstRegion a)).map e)
  | .exit id, e, _, _, kx => kx id e
  | .ret, e, _, kr, _ => kr e
  | .scope a, e, kn, kr, kx => codeK P call keep head nt a e kn kr kx
  | _, _, _, _, _ => M.fail

theorem regionK_eq (P : Program) (call : CallF) (keep : List Nat) (nt : Nat) (ops : List Oper) (draw : Bool) (e : Env) (k : R → M Value) :
    M.bind (region P call keep nt ops draw e) k = regionK P call keep nt ops draw e fun e => k (.normal, e) := by
  unfold region regionK
  cases ops.all (opOk nt) with
  | false => rfl
  | true =>
    simp only [cond_true]
    cases draw with
    | false => exact evalOpsK_eq P call keep ops k ops e
    | true =>
      simp only
      cases drawOk ops (befs ops) (greedy ops (befs ops) ops.length 0 (List.range ops.length)) with
      | false => rfl
      | true => exact evalDrawK_eq P call keep ops (befs ops) k _ e []
theorem loopV_eq (ks : List Nat) (body : Env → M R) (k : R → M Value) (bodyK : (List Value → M Value) → List Value → M Value)
    (h : ∀ (again : List Value → M Value) (vs : List Value), M.bind (body (mk ks vs)) (fun r => match r.1 with
      | .normal => again (ks.map r.2)
      | _ => k r) = bodyK again vs) (vs : List Value) : M.bind (loopM ks body vs) k = loopV bodyK vs := by
  funext f H
  have key : ∀ n vs H, (loopF ks body n vs f H).bind (fun r H' => k r f H') = loopVF bodyK n vs f H := by
    intro n
    induction n with
    | zero => intro vs H; rfl
    | succ n ih =>
      intro vs H
      unfold loopVF
      rw [← h]
      unfold loopF
      rw [Out.bind_assoc]
      show _ = (body (mk ks vs) f H).bind _
      congr; funext r H'
      obtain ⟨c, e⟩ := r
      cases c with
      | normal => exact ih _ _
      | exit i => rfl
      | ret => rfl
  exact key f vs H
theorem condV_eq (v : Value) (x y : M R) (k : R → M Value) : M.bind (condM v x y) k = condV v (M.bind x k) (M.bind y k) := by
  cases v <;> first | rfl | (rename_i b; cases b <;> rfl)
theorem codeK_eq (P : Program) (call : CallF) (keep : Nat → List Nat) (head : Nat → List Nat) (nt : Nat) : ∀ (c : Code) (e : Env) (k : R → M Value),
    M.bind (code P call keep head nt c e) k = codeK P call keep head nt c e (fun e => k (.normal, e)) (fun e => k (.ret, e)) (fun i e => k (.exit i, e)) := by
  intro c
  induction c with
  | skip => intro e k; rfl
  | label l => intro e k; rfl
  | region id ops draw => intro e k; exact regionK_eq ..
  | seq a b iha ihb =>
    intro e k
    unfold code codeK seqM
    rw [M.bind_assoc, iha]
    congr; funext e'
    exact ihb e' k
  | cond c a b iha ihb => intro e k; unfold code codeK; rw [condV_eq, iha, ihb]
  | block id a iha =>
    intro e k
    unfold code codeK blockM
    rw [M.bind_assoc, iha]
    congr; funext i e'
    simp only [leaveB, M.pure_bind]
    cases Nat.beq i id <;> rfl
  | loop a iha =>
    intro e k
    unfold code codeK
    exact loopV_eq _ _ k _ (fun again vs => iha _ _) _
  | exit id => intro e k; rfl
  | ret => intro e k; rfl
  | scope a iha => intro e k; unfold code codeK; exact iha e k
  | _ => intro e k; rfl

def resK (P : Program) (e : Env) : List ResultVar → (List Value → M Value) → M Value
  | [], k => k []
  | .tmp t :: r, k => resK P e r fun vs => k (e t :: vs)
  | .cell a t :: r, k => M.bind (ldT P t (e a)) fun v => resK P e r fun vs => k (v :: vs)
theorem resK_eq (P : Program) (e : Env) : ∀ (rs : List ResultVar) (k : List Value → M Value), M.bind (resultsM P e rs) k = resK P e rs k
  | [], k => rfl
  | .tmp t :: r, k => by unfold resultsM resK; rw [M.bind_assoc, ← resK_eq P e r]; rfl
  | .cell a t :: r, k => by
    unfold resultsM resK
    rw [M.bind_assoc]; congr; funext v
    rw [M.bind_assoc, ← resK_eq P e r]; rfl
def endK (P : Program) (rs : List ResultVar) (e : Env) : M Value := resK P e rs fun vs => M.pure (tup vs)
def bodyK (P : Program) (call : CallF) (A : Ann) (f : FuncId) (fn : Func) (c : Code) (args : List Value) : M Value :=
  codeK P call (A.keep f) (A.head f) fn.ntmps c (fun i => args.getD i undef) (endK P fn.results.toList) (endK P fn.results.toList) fun _ _ => M.fail
theorem bodyK_eq (P : Program) (call : CallF) (A : Ann) (f : FuncId) (fn : Func) (c : Code) (args : List Value) : body P call A f fn c args = bodyK P call A f fn c args := by
  unfold body bodyK
  rw [codeK_eq]
  have : endK P fn.results.toList = fun e => M.bind (resultsM P e fn.results.toList) fun vs => M.pure (tup vs) := by
    funext e; unfold endK; rw [resK_eq]
  rw [this]
def callF (P : Program) (X : Exts) (A : Ann) (n : Nat) : CallF := fun g xs _ H' => func P X A n g xs H'
theorem callF_ap (P : Program) (X : Exts) (A : Ann) (n : Nat) (g : FuncId) (xs : List Value) (k : Nat) (H : Heap) : callF P X A n g xs k H = func P X A n g xs H := rfl
/-- a function by its code in the form of bodyK -/
theorem func_succ {P : Program} {X : Exts} {A : Ann} {f : FuncId} {fn : Func} {c : Code} (hX : X f = none) (hf : P.funcs[f]? = some fn) (hc : fn.body = some c) (n : Nat) {args : List Value} (hl : Nat.ble args.length fn.ntmps = true) (H : Heap) :
    func P X A (n + 1) f args H = bodyK P (callF P X A n) A f fn c args n H := by
  show fun1 P X A _ f args n H = _
  unfold fun1
  rw [hX, hf]
  simp only [hc, hl, cond_true]
  exact congrFun (congrFun (bodyK_eq P (fun g xs _ H' => func P X A n g xs H') A f fn c args) n) H
theorem func_ext {P : Program} {X : Exts} {A : Ann} {f : FuncId} {m : List Value → M Value} (hX : X f = some m) (n : Nat) (args : List Value) (H : Heap) : func P X A (n + 1) f args H = m args n H := by
  show fun1 P X A _ f args n H = _
  unfold fun1
  rw [hX]
end Go.Am
