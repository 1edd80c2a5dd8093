/- What each operation of the model does to a world, an abstract heap does too: all of them. -/
import Derived.Test.YtcagogdllnlihaaGreatAm10
set_option linter.all false
namespace Go.Am

abbrev CallF := FuncId → List Value → M Value
def CallPost (π : Ren) (H : Heap) (w : World) (Q : Value → Heap → Prop) (E : Value → Heap → Prop) (en : Ending) (w' : World) : Prop :=
  (∃ v H' v' π', Q v H' ∧ en = .returned v' ∧ VRel π' v v' ∧ After π H w π' H' w') ∨
  (∃ v H' v' π', E v H' ∧ en = .panicked [{ v := v', recovered := false }] ∧ VRel π' v v' ∧ After π H w π' H' w')
/-- what a call answers abstractly, it does -/
def CallOk (P : Program) (call : CallF) (k : Nat) : Prop :=
  ∀ g args args' π H w Q E, Sim π H w → VRels π args args' → (call g args k H).Sat Q E →
    (∃ fn, P.funcs[g]? = some fn ∧ fn.body.isSome = true ∧ (fn.name == "runtime.NumGoroutine") = false) ∧ Calls P g ⟨args'⟩ w (CallPost π H w Q E)

structure EnvRel (π : Ren) (e : Env) (a : Act) : Prop where
  slot : ∀ t, VRel π (e t) (a.tmps.getD t undef)

theorem EnvRel.ev {π : Ren} {e : Env} {a : Act} (h : EnvRel π e a) {x : Operand} (hx : match x with | .const v => constOk v = true | _ => True) : VRel π (ev e x) (a.eval x) := by
  cases x with
  | tmp t => exact h.slot t
  | const v => exact .of_constOk hx
  | global g => exact .ptrB g 0
  | func f => exact .func _ [] [] [] [] .nil .nil

/-- the operation's run is met -/
def OpR (P : Program) (π : Ren) (H : Heap) (w : World) (call : CallF) (k : Nat) (o : Out Value) (r : Result Next) : Prop :=
  ∀ Q E, o.Sat Q E →
    (∃ v H' v' w' π', Q v H' ∧ (r = .ok (.value v') w' ∨ (r = .ok .skip w' ∧ v' = undef)) ∧ VRel π' v v' ∧ After π H w π' H' w') ∨
    (∃ v H' v' w' π', E v H' ∧ r = .halt (.panic v') w' ∧ VRel π' v v' ∧ After π H w π' H' w') ∨
    (∃ g args args', (call g args k H).Sat Q E ∧ r = .ok (.enter g ⟨args'⟩) w ∧ VRels π args args')

section
variable {P : Program} {π : Ren} {H : Heap} {w : World} {call : CallF} {k : Nat}

theorem OpR.v {o : Out Value} {s : Sem Value} (h : Gives π H w o (s.run P w)) : OpR P π H w call k o ((do pure (.value (← s)) : Sem Next).run P w) := by
  intro Q E hs
  obtain ⟨v, H', v', w', π', hq, hr, hv, ha⟩ := h Q E hs
  exact .inl ⟨v, H', v', w', π', hq, .inl (by simp [hr]), hv, ha⟩
theorem OpR.u {o : Out Value} {s : Sem Unit} (h : ∀ Q E, o.Sat Q E → ∃ H' w', Q undef H' ∧ s.run P w = .ok () w' ∧ After π H w π H' w') : OpR P π H w call k o ((do s; pure .skip : Sem Next).run P w) := by
  intro Q E hs
  obtain ⟨H', w', hq, hr, ha⟩ := h Q E hs
  exact .inl ⟨undef, H', undef, w', π, hq, .inr ⟨by simp [hr], rfl⟩, .undef, ha⟩
theorem OpR.no {o : Out Value} {r : Result Next} (h : o = .fail) : OpR P π H w call k o r := fun Q E hs => by subst h; exact hs.elim
theorem OpR.val {v v' : Value} (hs : Sim π H w) (hv : VRel π v v') : OpR P π H w call k (M.pure v k H) (.ok (.value v') w) := fun Q E hq => .inl ⟨v, H, v', w, π, hq, .inl rfl, hv, .refl hs⟩

theorem prel_of {e : Env} {a : Act} (he : EnvRel π e a) : ∀ (ps : List (Nat × Operand)), (∀ p ∈ ps, match p.2 with | .const v => constOk v = true | _ => True) →
    PRel π (ps.map fun x => (x.1, ev e x.2)) (ps.map fun x => (x.1, a.eval x.2))
  | [], _ => .nil
  | p :: ps, h => .cons _ _ _ _ _ (he.ev (h p (by simp))) (prel_of he ps fun q hq => h q (by simp [hq]))
theorem vrels_of {e : Env} {a : Act} (he : EnvRel π e a) : ∀ (xs : List Operand), (∀ x ∈ xs, match x with | .const v => constOk v = true | _ => True) → VRels π (xs.map (ev e)) (xs.map a.eval)
  | [], _ => .nil
  | x :: xs, h => .cons _ _ _ _ (he.ev (h x (by simp))) (vrels_of he xs fun q hq => h q (by simp [hq]))
theorem orel_of {e : Env} {a : Act} (he : EnvRel π e a) (x : Option Operand) (h : ∀ y, x = some y → match y with | .const v => constOk v = true | _ => True) : ORel π (x.map (ev e)) (x.map a.eval) := by
  cases x with
  | none => exact .none
  | some y => exact .some _ _ (he.ev (h y rfl))

theorem operandsOk_spec {o : Oper} (h : operandsOk o = true) : ∀ x ∈ o.op.operands.toList, match x with | .const v => constOk v = true | _ => True := by
  unfold operandsOk at h
  intro x hx
  have := (List.all_eq_true.1 h) x hx
  cases x <;> simpa using this

theorem builtin_ok (hs : Sim π H w) {b : Builtin} {ats : List TypeId} {ty : TypeId} {cs : Array Bool} {xs : List Value} {xs' : List Value} (hx : VRels π xs xs') :
    OpR P π H w call k (evalBuiltin P b ats xs k H) ((builtin b ⟨ats⟩ ty cs ⟨xs'⟩).run P w) := by
  unfold evalBuiltin
  split
  · -- len
    rename_i t x
    cases hx with
    | cons _ x' _ _ h1 h2 =>
      cases h2
      cases hu : P.underlying t with
      | none => exact OpR.no rfl
      | some d =>
        cases d <;> simp only <;> first
          | exact OpR.no rfl
          | exact OpR.v (gives_lenT hs h1 hu)
          | exact OpR.v (gives_lenL hs h1 hu)
          | exact OpR.v (gives_lenM hs h1 hu)
          | skip
        intro Q E hq
        refine .inl ⟨_, H, .int .i64 _, w, π, hq, .inl ?_, .int _ _, .refl hs⟩
        simp [builtin, Builtin.len_, run_underlying hu, goInt]
  · -- append
    rename_i s t x y
    cases hx with
    | cons _ x' _ _ h1 h2 =>
      cases h2 with
      | cons _ y' _ _ h3 h4 =>
        cases h4
        have fin : ∀ e, P.underlying s = some (.slice e) → ((∃ e', P.underlying t = some (.slice e')) ∨ P.underlying t = some .string) → OpR P π H w call k ((match tSize P e, tBytes P e, tZero P e with
            | some n, some b, some z => bif Nat.beq z.length n then app e n b x y else M.fail
            | _, _, _ => M.fail : M Value) k H) ((builtin .append ⟨[s, t]⟩ ty cs ⟨[x', y']⟩).run P w) := by
          intro e hu hk
          cases hsz : tSize P e with
          | none => exact OpR.no rfl
          | some n =>
            cases hb : tBytes P e with
            | none => exact OpR.no rfl
            | some b =>
              cases hz : tZero P e with
              | none => exact OpR.no rfl
              | some z =>
                simp only
                cases hl : Nat.beq z.length n with
                | false => exact OpR.no rfl
                | true => exact OpR.v (gives_app (k := k) hs h1 h3 hu hk hsz hb hz (Nat.eq_of_beq_eq_true hl))
        cases hu : P.underlying s with
        | none => exact OpR.no rfl
        | some d =>
          cases d <;> first
            | (cases P.underlying t <;> exact OpR.no rfl)
            | skip
          rename_i e
          cases hk : P.underlying t with
          | none => exact OpR.no rfl
          | some d2 =>
            cases d2 <;> first
              | exact OpR.no rfl
              | exact fin e hu (.inl ⟨_, hk⟩)
              | exact fin e hu (.inr hk)
  · -- copy
    rename_i s t x y
    cases hx with
    | cons _ x' _ _ h1 h2 =>
      cases h2 with
      | cons _ y' _ _ h3 h4 =>
        cases h4
        cases hu : P.underlying s with
        | none => exact OpR.no rfl
        | some d =>
          cases d <;> simp only <;> first
            | exact OpR.no rfl
            | skip
          rename_i e
          cases hsz : tSize P e with
          | none => exact OpR.no rfl
          | some n => exact OpR.v (gives_cpy hs h1 h3 hu hsz)
  · -- clear
    rename_i s x
    cases hx with
    | cons _ x' _ _ h1 h2 =>
      cases h2
      cases hu : P.underlying s with
      | none => exact OpR.no rfl
      | some d =>
        cases d <;> simp only <;> first
          | exact OpR.no rfl
          | skip
        rename_i e
        cases hz : tZero P e with
        | none => exact OpR.no rfl
        | some z =>
          simp only
          cases hl : Nat.blt 0 z.length with
          | false => exact OpR.no rfl
          | true => exact OpR.v (gives_clr (k := k) hs h1 hu hz (Nat.le_of_ble_eq_true hl))
  · -- delete
    rename_i t t2 m x
    cases hx with
    | cons _ x' _ _ h1 h2 =>
      cases h2 with
      | cons _ y' _ _ h3 h4 =>
        cases h4
        cases hu : P.underlying t with
        | none => exact OpR.no rfl
        | some d =>
          cases d <;> simp only <;> first
            | exact OpR.no rfl
            | skip
          rename_i kt e
          cases hk : P.underlying kt with
          | none => exact OpR.no rfl
          | some d2 =>
            cases d2 <;> simp only <;> first
              | exact OpR.no rfl
              | exact OpR.v (gives_mdel hs h1 h3 hu hk t2)
  · -- max
    cases hx with
    | cons _ x' _ _ h1 h2 =>
      cases h2 with
      | cons _ y' _ _ h3 h4 => cases h4; exact OpR.v (gives_mx hs h1 h3 _ _)
  · -- min
    cases hx with
    | cons _ x' _ _ h1 h2 =>
      cases h2 with
      | cons _ y' _ _ h3 h4 => cases h4; exact OpR.v (gives_mn hs h1 h3 _ _)
  · exact OpR.no rfl

theorem binRun_eq (op : BinOp) (t : TypeId) (xo yo : Operand) (x y : Value) : binRun P op t xo yo x y = (do eqGuard op t xo yo x y; binOp op t x y) := rfl

theorem run_callFunc {g : FuncId} {args : Array Value} {fn : Func} (hf : P.funcs[g]? = some fn) (hb : fn.body.isSome = true) (hn : (fn.name == "runtime.NumGoroutine") = false) : (callFunc g args).run P w = .ok (.enter g args) w := by
  have hb' : fn.body.isNone = false := by cases h : fn.body <;> simp_all
  unfold callFunc
  simp only [Sem.run_bind, run_program, Result.andThen_ok, hf, hn, hb', Bool.false_eq_true, if_false, Sem.run_pure]

theorem op_ok (hs : Sim π H w) (hcall : CallOk P call k) {e : Env} {a : Act} (he : EnvRel π e a) {o : Oper} (ho : operandsOk o = true) :
    OpR P π H w call k (evalOp P call e o k H) ((execOp a.eval o).run P w) := by
  have hop := operandsOk_spec ho
  obtain ⟨dst, op, type, pos, after, guard⟩ := o
  simp only at hop
  unfold evalOp execOp
  cases op <;> simp only [Op.operands, List.mem_cons, List.not_mem_nil, or_false, forall_eq] at hop <;> simp only
  case move x => exact OpR.val hs (he.ev hop)
  case assign x => exact OpR.val hs (he.ev hop)
  case pick c x y =>
    have h := OpR.v (call := call) (k := k) (gives_pck (P := P) (k := k) hs (he.ev (hop c (.inl rfl))) (he.ev (hop x (.inr (.inl rfl)))) (he.ev (hop y (.inr (.inr rfl)))))
    simpa using h
  case alloc t =>
    cases hz : tZero P t with
    | none => exact OpR.no rfl
    | some z => exact OpR.v (gives_alloc hs hz)
  case box t x => exact OpR.v (gives_box hs (he.ev hop))
  case build t ps =>
    have hp := prel_of he ps.toList (fun p hp => hop p.2 (by simpa using ⟨p.1, Array.mem_toList_iff.1 hp⟩))
    cases hz : tZero P t with
    | none => exact OpR.no rfl
    | some z =>
      cases hu : P.underlying t with
      | none => exact OpR.no rfl
      | some d =>
        have hps : (ps.map fun (x : Nat × Operand) => (x.1, a.eval x.2)) = ⟨ps.toList.map fun x => (x.1, a.eval x.2)⟩ := by apply Array.ext'; simp
        cases d <;> simp only <;> first
          | exact OpR.no rfl
          | skip
        case array n el =>
          cases hsz : tSize P el with
          | none => exact OpR.no rfl
          | some s =>
            simp only
            cases hl : partsOf (fun i => some (i * s, s)) (ps.toList.map fun x => (x.1, ev e x.2)) with
            | none => exact OpR.no rfl
            | some l =>
              refine OpR.v ?_
              rw [hps]
              exact gives_bldA hs hz hu hsz hp hl
        case struct fs =>
          cases hf : fieldPlaces P fs.toList with
          | none => exact OpR.no rfl
          | some pl =>
            simp only
            cases hl : partsOf (fun i => pl[i]?) (ps.toList.map fun x => (x.1, ev e x.2)) with
            | none => exact OpR.no rfl
            | some l =>
              refine OpR.v ?_
              rw [hps]
              exact gives_bldS hs hz hu hf hp hl
  case buildSlice t n ps =>
    have hp := prel_of he ps.toList (fun p hp => hop p.2 (by simpa using ⟨p.1, Array.mem_toList_iff.1 hp⟩))
    have hps : (ps.map fun (x : Nat × Operand) => (x.1, a.eval x.2)) = ⟨ps.toList.map fun x => (x.1, a.eval x.2)⟩ := by apply Array.ext'; simp
    unfold sliceElem
    cases hu : P.underlying t with
    | none => exact OpR.no rfl
    | some d =>
      cases d <;> simp only <;> first
        | exact OpR.no rfl
        | skip
      rename_i el
      cases hsz : tSize P el with
      | none => exact OpR.no rfl
      | some s =>
        cases s with
        | zero => exact OpR.no rfl
        | succ s =>
          cases hz : tZero P el with
          | none => exact OpR.no rfl
          | some z =>
            simp only
            cases hb : (Nat.ble (n * (s + 1)) (2 ^ 24) && Nat.beq z.length (s + 1)) with
            | false => exact OpR.no rfl
            | true =>
              simp only [cond_true]
              simp only [Bool.and_eq_true] at hb
              cases hl : partsOf (fun i => some (i * (s + 1), s + 1)) (ps.toList.map fun x => (x.1, ev e x.2)) with
              | none => exact OpR.no rfl
              | some l =>
                refine OpR.v ?_
                rw [hps]
                exact gives_bldSlice hs hz hu hsz (Nat.le_of_ble_eq_true hb.1) (Nat.eq_of_beq_eq_true hb.2) hp hl
  case load t x =>
    unfold ldT
    cases ha : tAgg P t with
    | none => exact OpR.no rfl
    | some b =>
      cases hn : tSize P t with
      | none => exact OpR.no rfl
      | some n => exact OpR.v (gives_ld hs (he.ev hop) ha hn)
  case store t x y =>
    unfold stT
    cases hn : tSize P t with
    | none => exact OpR.no rfl
    | some n => exact OpR.u (gives_st hs (he.ev (hop x (.inl rfl))) (he.ev (hop y (.inr rfl))) hn)
  case nilCheck x =>
    have hx := he.ev hop
    generalize ev e x = v at hx
    generalize a.eval x = v' at hx
    unfold nilck
    cases v <;> first
      | exact OpR.no rfl
      | skip
    · rename_i p
      cases p with
      | none => exact OpR.no rfl
      | some p =>
        obtain ⟨p', rfl, har⟩ := hx.arel
        exact OpR.val hs har.vrel
    · rename_i fn xs ys
      cases fn <;> first
        | exact OpR.no rfl
        | skip
      cases hx with
      | func _ _ _ xs' ys' h1 h2 => exact OpR.val hs (.func _ _ _ _ _ h1 h2)
  case binOp bop t x y yt => exact OpR.v (gives_binT hs (he.ev (hop x (.inl rfl))) (he.ev (hop y (.inr rfl))))
  case unOp uop t x => exact OpR.v (gives_un hs (he.ev hop))
  case convert src dst x =>
    cases h1 : P.underlying src with
    | none => exact OpR.no rfl
    | some d1 =>
      cases h2 : P.underlying dst with
      | none => exact OpR.no rfl
      | some d2 =>
        cases d2 <;> simp only <;> first
          | exact OpR.no rfl
          | exact OpR.v (gives_cvt hs (he.ev hop) h1 h2)
  case makeInterface t x =>
    cases hu : P.underlying t with
    | none => exact OpR.no rfl
    | some d =>
      have hx := he.ev hop
      cases d <;> simp only <;> first
        | exact OpR.no rfl
        | (intro Q E hq
           exact .inl ⟨_, H, .iface t (a.eval x), w, π, hq, .inl (by simp [Instr.makeInterface, run_underlying hu]), .iface _ _ _ hx, .refl hs⟩)
  case makeFunc fn xs ys =>
    refine OpR.val hs ?_
    have e1 : xs.map a.eval = ⟨xs.toList.map a.eval⟩ := by apply Array.ext'; simp
    have e2 : ys.map a.eval = ⟨ys.toList.map a.eval⟩ := by apply Array.ext'; simp
    rw [e1, e2]
    exact .func _ _ _ _ _ (vrels_of he _ fun x hx => hop x (by simp at hx ⊢; exact .inl hx)) (vrels_of he _ fun x hx => hop x (by simp at hx ⊢; exact .inr hx))
  case makeMap t r =>
    cases r with
    | some r => exact OpR.no rfl
    | none => exact OpR.v (gives_mkMap hs)
  case makeSlice t x y =>
    unfold sliceElem
    cases hu : P.underlying t with
    | none => exact OpR.no rfl
    | some d =>
      cases d <;> simp only <;> first
        | exact OpR.no rfl
        | skip
      rename_i el
      cases hsz : tSize P el with
      | none => exact OpR.no rfl
      | some s =>
        cases s with
        | zero => exact OpR.no rfl
        | succ s =>
          cases hb : tBytes P el with
          | none => exact OpR.no rfl
          | some b =>
            cases hz : tZero P el with
            | none => exact OpR.no rfl
            | some z =>
              simp only
              cases hl : Nat.beq z.length (s + 1) with
              | false => exact OpR.no rfl
              | true => exact OpR.v (gives_mkSlice (k := k) hs hz hu hsz hb (Nat.eq_of_beq_eq_true hl) (he.ev (hop x (.inl rfl))) (he.ev (hop y (.inr rfl))))
  case slice t x lo hi mx =>
    have hx := he.ev (hop x (by simp))
    have hlo := orel_of he lo (fun y hy => hop y (by simp [hy]))
    have hhi := orel_of he hi (fun y hy => hop y (by simp [hy]))
    have hmx := orel_of he mx (fun y hy => hop y (by simp [hy]))
    cases hu : P.underlying t with
    | none => exact OpR.no rfl
    | some d =>
      cases d <;> simp only <;> first
        | exact OpR.no rfl
        | skip
      case string =>
        cases mx with
        | some => exact OpR.no rfl
        | none => exact OpR.v (gives_slcB hs hx hlo hhi hu)
      case slice el =>
        cases hsz : tSize P el with
        | none => exact OpR.no rfl
        | some s => exact OpR.v (gives_slcS hs hx hlo hhi hmx hu hsz)
      case array n el =>
        cases hsz : tSize P el with
        | none => exact OpR.no rfl
        | some s => exact OpR.v (gives_slcA hs hx hlo hhi hmx hu hsz)
  case fieldAddr t x i =>
    cases hu : P.underlying t with
    | none => exact OpR.no rfl
    | some d =>
      cases d <;> simp only <;> first
        | exact OpR.no rfl
        | skip
      rename_i fs
      cases hf : fs.toList[i]? with
      | none => exact OpR.no rfl
      | some f =>
        simp only
        cases hm : tSize P f.type with
        | none => exact OpR.no rfl
        | some m =>
          cases m with
          | zero => exact OpR.no rfl
          | succ m => exact OpR.v (gives_fld hs (he.ev hop) hu hf hm)
  case field t x i =>
    cases hu : P.underlying t with
    | none => exact OpR.no rfl
    | some d =>
      cases d <;> simp only <;> first
        | exact OpR.no rfl
        | skip
      rename_i fs
      cases hf : fs.toList[i]? with
      | none => exact OpR.no rfl
      | some f =>
        simp only
        cases hm : tSize P f.type with
        | none => exact OpR.no rfl
        | some m =>
          cases ha : tAgg P f.type with
          | none => exact OpR.no rfl
          | some b => exact OpR.v (gives_fldV hs (he.ev hop) hu hf ha hm)
  case indexAddr t x i =>
    cases hu : P.underlying t with
    | none => exact OpR.no rfl
    | some d =>
      cases d <;> simp only <;> first
        | exact OpR.no rfl
        | skip
      case slice el =>
        cases hsz : tSize P el with
        | none => exact OpR.no rfl
        | some s => exact OpR.v (gives_idxS hs (he.ev (hop x (.inl rfl))) (he.ev (hop i (.inr rfl))) hu hsz)
      case array n el =>
        cases hsz : tSize P el with
        | none => exact OpR.no rfl
        | some s => exact OpR.v (gives_idxP hs (he.ev (hop x (.inl rfl))) (he.ev (hop i (.inr rfl))) hu hsz)
  case index t x i =>
    cases hu : P.underlying t with
    | none => exact OpR.no rfl
    | some d =>
      cases d <;> simp only <;> first
        | exact OpR.no rfl
        | skip
      case string => exact OpR.v (gives_idxB hs (he.ev (hop x (.inl rfl))) (he.ev (hop i (.inr rfl))) hu)
      case array n el =>
        cases hsz : tSize P el with
        | none => exact OpR.no rfl
        | some s =>
          cases ha : tAgg P el with
          | none => exact OpR.no rfl
          | some b => exact OpR.v (gives_idxV hs (he.ev (hop x (.inl rfl))) (he.ev (hop i (.inr rfl))) hu hsz ha)
  case lookup t x i ok =>
    unfold lookT
    cases hu : P.underlying t with
    | none => exact OpR.no rfl
    | some d =>
      cases d <;> simp only <;> first
        | exact OpR.no rfl
        | skip
      rename_i kt el
      cases hk : P.underlying kt with
      | none => exact OpR.no rfl
      | some d2 =>
        cases hz : tZeroV P el with
        | none => cases d2 <;> exact OpR.no rfl
        | some z =>
          cases d2 <;> simp only <;> first
            | exact OpR.no rfl
            | exact OpR.v (gives_lkp hs (he.ev (hop x (.inl rfl))) (he.ev (hop i (.inr rfl))) hu hk hz)
  case mapUpdate t m x y =>
    unfold mupdT
    cases hu : P.underlying t with
    | none => exact OpR.no rfl
    | some d =>
      cases d <;> simp only <;> first
        | exact OpR.no rfl
        | skip
      rename_i kt el
      cases hk : P.underlying kt with
      | none => exact OpR.no rfl
      | some d2 =>
        cases d2 <;> simp only <;> first
          | exact OpR.no rfl
          | exact OpR.u (gives_mupd hs (he.ev (hop m (.inl rfl))) (he.ev (hop x (.inr (.inl rfl)))) (he.ev (hop y (.inr (.inr rfl)))) hu hk)
  case insert t m x y =>
    unfold mupdT
    cases hu : P.underlying t with
    | none => exact OpR.no rfl
    | some d =>
      cases d <;> simp only <;> first
        | exact OpR.no rfl
        | skip
      rename_i kt el
      cases hk : P.underlying kt with
      | none => exact OpR.no rfl
      | some d2 =>
        cases d2 <;> simp only <;> first
          | exact OpR.no rfl
          | exact OpR.u (gives_mupd hs (he.ev (hop m (.inl rfl))) (he.ev (hop x (.inr (.inl rfl)))) (he.ev (hop y (.inr (.inr rfl)))) hu hk)
  case range t x =>
    cases hu : P.underlying t with
    | none => exact OpR.no rfl
    | some d =>
      cases d <;> simp only <;> first
        | exact OpR.no rfl
        | exact OpR.v (gives_mrange hs (he.ev hop) hu)
  case next it s =>
    cases s with
    | true => exact OpR.no rfl
    | false => exact OpR.v (gives_mnext hs (he.ev hop) _)
  case entry it => exact OpR.v (gives_mentry hs (he.ev hop))
  case extract t i => exact OpR.v (gives_ext hs (he.ev hop))
  case panic x =>
    have hx := he.ev hop
    generalize ev e x = v at hx
    generalize a.eval x = v' at hx
    cases v <;> first
      | exact OpR.no rfl
      | skip
    cases hx with
    | iface _ u u' hu =>
      intro Q E hq
      exact .inr (.inl ⟨_, H, .iface _ u', w, π, hq, by simp [Instr.panic], .iface _ _ _ hu, .refl hs⟩)
  case call c =>
    obtain ⟨callee, args, ats⟩ := c
    have hargs : VRels π (args.toList.map (ev e)) (args.toList.map a.eval) := vrels_of he _ fun x hx => hop x (by simp [Call.operands]; simp at hx; exact .inr hx)
    have e1 : args.map a.eval = ⟨args.toList.map a.eval⟩ := by apply Array.ext'; simp
    cases callee with
    | builtin b =>
      simp only [resolve, e1]
      exact builtin_ok hs hargs
    | invoke => exact OpR.no rfl
    | value f =>
      simp only [resolve, e1]
      have hf := he.ev (hop f (by simp [Call.operands]))
      generalize ev e f = v at hf
      generalize a.eval f = v' at hf
      cases v <;> first
        | exact OpR.no rfl
        | skip
      rename_i fn xs ys
      cases fn <;> first
        | exact OpR.no rfl
        | skip
      rename_i g
      cases hf with
      | func _ _ _ xs' ys' h1 h2 =>
        intro Q E hq
        have hrel := h1.append (hargs.append h2)
        obtain ⟨⟨fn, g1, g2, g3⟩, _⟩ := hcall g _ _ π H w Q E hs hrel hq
        refine .inr (.inr ⟨g, _, _, hq, ?_, hrel⟩)
        simp only [Deferred.ofValue, Sem.run_bind, Sem.run_pure, Result.andThen_ok, invoke]
        rw [run_callFunc g1 g2 g3]
        congr 2
        apply Array.ext'
        simp
  all_goals exact OpR.no rfl
end
end Go.Am
