/- Operations that do not act: what they answer hangs on little. -/
import Derived.Test.YtcagogdllnlihaaGreatAm13
set_option linter.all false
namespace Go.Am

section
variable {P : Program} {call : CallF}

theorem evalOp_congr {e e' : Env} {o : Oper} (h : ∀ x ∈ o.op.operands.toList, ev e x = ev e' x) : evalOp P call e o = evalOp P call e' o := by
  obtain ⟨dst, op, type, pos, after, guard⟩ := o
  simp only at h
  have pairs : ∀ ps : Array (Nat × Operand), (∀ x ∈ (ps.toList.map (·.2)), ev e x = ev e' x) → (ps.toList.map fun x => (x.1, ev e x.2)) = (ps.toList.map fun x => (x.1, ev e' x.2)) := fun ps hp =>
    List.map_congr_left fun p hm => by rw [hp p.2 (List.mem_map.2 ⟨p, hm, rfl⟩)]
  have lists : ∀ xs : Array Operand, (∀ x ∈ xs.toList, ev e x = ev e' x) → xs.toList.map (ev e) = xs.toList.map (ev e') := fun xs hx => List.map_congr_left fun x hm => hx x hm
  cases op <;> (try simp only [Op.operands, List.mem_cons, List.not_mem_nil, or_false, forall_eq, forall_eq_or_imp] at h) <;> (try simp only [evalOp])
  case makeMap t r => cases r <;> rfl
  case next it s => cases s <;> first | rfl | (simp only [h])
  case build t ps => rw [pairs ps (by simpa using h)]
  case buildSlice t n ps => rw [pairs ps (by simpa using h)]
  case makeFunc fn xs ys => rw [lists xs (fun x hx => h x (by simp at hx ⊢; exact .inl hx)), lists ys (fun x hx => h x (by simp at hx ⊢; exact .inr hx))]
  case slice t x lo hi mx =>
    have hx := h x (by simp)
    have hlo : lo.map (ev e) = lo.map (ev e') := by cases lo with | none => rfl | some y => simp [h y (by simp)]
    have hhi : hi.map (ev e) = hi.map (ev e') := by cases hi with | none => rfl | some y => simp [h y (by simp)]
    have hmx : mx.map (ev e) = mx.map (ev e') := by cases mx with | none => rfl | some y => simp [h y (by simp)]
    rw [hx, hlo, hhi, hmx]
  case call c =>
    obtain ⟨callee, args, ats⟩ := c
    have ha := lists args (fun x hx => h x (by simp [Call.operands]; simp at hx; exact .inr hx))
    cases callee with
    | builtin b => simp only [ha]
    | invoke => rfl
    | value f => simp only [ha, h f (by simp [Call.operands])]
  all_goals first
    | rfl
    | (simp_all; done)
    | (simp only [h]; done)

theorem mOf_congr {ops : List Oper} {e e' : Env} {o : Oper} (h : ∀ t ∈ names ops o, e t = e' t) : mOf P call ops e o = mOf P call ops e' o := by
  have h1 : evalOp P call e o = evalOp P call e' o := evalOp_congr fun x hx => by
    cases x <;> first
      | rfl
      | (rename_i t
         exact h t (by
          unfold names
          refine List.mem_append_left _ (List.mem_append_right _ ?_)
          exact List.mem_filterMap.2 ⟨.tmp t, hx, rfl⟩))
  unfold mOf
  cases hg : o.guard with
  | none => simp only [h1]
  | some jw =>
    obtain ⟨j, w⟩ := jw
    have h2 : gv ops e j = gv ops e' j := by
      unfold gv
      cases ho : ops[j]? with
      | none => rfl
      | some g =>
        simp only
        cases hd : g.dst with
        | none => rfl
        | some t =>
          simp only
          refine h t ?_
          unfold names
          refine List.mem_append_right _ ?_
          simp [hg, ho, hd]
    simp only [h1, h2]

def Quiet (m : M Value) : Prop := (∃ v, m = M.pure v) ∨ m = M.fail
theorem Quiet.pure (v : Value) : Quiet (M.pure v) := .inl ⟨v, rfl⟩
theorem Quiet.fail : Quiet M.fail := .inr rfl
theorem quiet_ite {c : Bool} {x y : M Value} (hx : Quiet x) (hy : Quiet y) : Quiet (bif c then x else y) := by cases c <;> assumption

theorem quiet_op {e : Env} {o : Oper} (hk : kindOf o = .quiet) : Quiet (evalOp P call e o) := by
  obtain ⟨dst, op, type, pos, after, guard⟩ := o
  have part : ∀ n a l, Quiet (partV n a l) := by
    intro n a l
    unfold partV
    cases a with
    | true => exact quiet_ite (.pure _) .fail
    | false =>
      cases l with
      | nil => exact .fail
      | cons v r => cases r with
        | nil => exact .pure _
        | cons => exact .fail
  cases op <;> simp only [kindOf, reduceCtorEq] at hk <;> simp only [evalOp]
  case move x => exact .pure _
  case assign x => exact .pure _
  case pick c x y => unfold pck; split <;> first | exact .pure _ | exact .fail
  case build t ps =>
    have : ∀ z l, Quiet (bld z l) := by intro z l; unfold bld; split <;> first | exact .pure _ | exact .fail
    (repeat' split) <;> first | exact this _ _ | exact .fail
  case fieldAddr t x i =>
    have : ∀ n v, Quiet (fld n v) := by intro n v; unfold fld; split <;> first | exact .pure _ | exact .fail
    (repeat' split) <;> first | exact this _ _ | exact .fail
  case field t x i =>
    have : ∀ off n a v, Quiet (fldV off n a v) := by intro off n a v; unfold fldV; split <;> first | exact part _ _ _ | exact .fail
    (repeat' split) <;> first | exact this _ _ _ _ | exact .fail
  case unOp uop t x => unfold un; split <;> first | exact .pure _ | exact .fail
  case convert s d x =>
    have : ∀ q v, Quiet (cvt q v) := by intro n v; unfold cvt; split <;> first | exact .pure _ | exact .fail
    (repeat' split) <;> first | exact this _ _ | exact .fail
  case makeInterface t x => (repeat' split) <;> first | exact .pure _ | exact .fail
  case makeFunc => exact .pure _
  case extract t i =>
    unfold ext
    split
    · split <;> first | exact .pure _ | exact .fail
    · exact .fail
  case nilCheck x => unfold nilck; split <;> first | exact .pure _ | exact .fail
  case index t x i =>
    have h1 : ∀ n s a x y, Quiet (idxV n s a x y) := by intro n s a x y; unfold idxV; split <;> first | exact quiet_ite (part _ _ _) .fail | exact .fail
    have h2 : ∀ x y, Quiet (idxB x y) := by
      intro x y; unfold idxB
      split
      · refine quiet_ite ?_ .fail
        split <;> first | exact .pure _ | exact .fail
      · exact .fail
    (repeat' split) <;> first | exact h1 _ _ _ _ _ | exact h2 _ _ | exact .fail
  case indexAddr t x i =>
    have h1 : ∀ n s x y, Quiet (idxP n s x y) := by intro n s x y; unfold idxP; split <;> first | exact quiet_ite (.pure _) .fail | exact .fail
    have h2 : ∀ s x y, Quiet (idxS s x y) := by intro s x y; unfold idxS; split <;> first | exact quiet_ite (.pure _) .fail | exact .fail
    (repeat' split) <;> first | exact h1 _ _ _ _ | exact h2 _ _ _ | exact .fail
  case call c =>
    obtain ⟨callee, args, ats⟩ := c
    cases callee with
    | value => simp at hk
    | invoke => simp at hk
    | builtin b =>
      cases b <;> simp at hk
      · simp only [evalBuiltin]
        split <;> first
          | exact .fail
          | (rename_i h1 _ _; cases h1; done)
          | (exact absurd ‹Builtin.max = Builtin.min› (by simp))
          | (unfold Am.mx; split <;> first | exact quiet_ite (.pure _) .fail | exact .fail)
          | (rename_i h1 _ _ _; cases h1; done)
      · simp only [evalBuiltin]
        split <;> first
          | exact .fail
          | (rename_i h1 _ _; cases h1; done)
          | (exact absurd ‹Builtin.min = Builtin.max› (by simp))
          | (unfold Am.mn; split <;> first | exact quiet_ite (.pure _) .fail | exact .fail)
          | (rename_i h1 _ _ _; cases h1; done)

/-- what reads leaves the heap alone, and answers the same behind a new thing -/
structure Reads (m : M Value) : Prop where
  same : ∀ k H, (∃ v, m k H = .ok v H) ∨ m k H = .fail
  push : ∀ k H v ob, (∀ i o, H.get i = some o → i < H.next) → m k H = .ok v H → m k (H.push ob) = .ok v (H.push ob)
theorem Reads.pure (v : Value) : Reads (M.pure v) := ⟨fun _ _ => .inl ⟨v, rfl⟩, fun k H u ob _ h => by cases h; rfl⟩
theorem Reads.fail : Reads M.fail := ⟨fun _ _ => .inr rfl, fun _ _ _ _ _ h => by cases h⟩
theorem reads_ite {c : Bool} {x y : M Value} (hx : Reads x) (hy : Reads y) : Reads (bif c then x else y) := by cases c <;> assumption

theorem get_push_of {H : Heap} {ob o : Ob} {i : Nat} (hf : ∀ i o, H.get i = some o → i < H.next) (h : H.get i = some o) : (H.push ob).get i = some o := by
  have := hf i o h
  rw [Heap.get_push, if_neg (by omega)]; exact h
theorem cellsAt_push {H : Heap} {ob : Ob} {a : Addr} {n : Nat} {l : List Value} (hf : ∀ i o, H.get i = some o → i < H.next) (h : H.cellsAt a n = some l) : (H.push ob).cellsAt a n = some l := by
  unfold Heap.cellsAt at h ⊢
  cases hsp : a.spot with
  | none => rw [hsp] at h; exact h
  | some s =>
    rw [hsp] at h
    simp only at h ⊢
    cases hg : H.get a.block with
    | none => rw [hg] at h; cases h
    | some o => rw [get_push_of hf hg]; rw [hg] at h; exact h
theorem map_push {H : Heap} {ob : Ob} {v : Value} {r : List MapEntry × Nat} (hf : ∀ i o, H.get i = some o → i < H.next) (h : H.map? v = some r) : (H.push ob).map? v = some r := by
  unfold Heap.map? at h ⊢
  split at h
  · exact h
  · rename_i i
    cases hg : H.get i with
    | none => rw [hg] at h; cases h
    | some o => simp only [get_push_of hf hg]; rw [hg] at h; exact h
  · cases h

theorem reads_ld {a : Bool} {n : Nat} {p : Value} : Reads (ld a n p) := by
  have key : ∀ k H v, ld a n p k H = .ok v H ↔ ∃ ad l, p = .pointer (some ad) ∧ H.cellsAt ad n = some l ∧ ((a = true ∧ v = .agg ⟨l⟩) ∨ (a = false ∧ l = [v])) := by
    intro k H v
    unfold ld
    split
    · rename_i ad
      cases hc : H.cellsAt ad n with
      | none => simp [hc]
      | some l =>
        simp only
        cases a with
        | true => simp [hc, eq_comm]
        | false =>
          cases l with
          | nil => simp [hc]
          | cons x r => cases r with
            | nil => simp [hc, eq_comm]
            | cons => simp [hc]
    · rename_i hno
      simp only [reduceCtorEq, false_iff]
      rintro ⟨ad, l, rfl, _⟩
      exact hno ad rfl
  refine ⟨fun k H => ?_, fun k H v ob hf h => ?_⟩
  · unfold ld
    split
    · split
      · split <;> first | exact .inl ⟨_, rfl⟩ | exact .inr rfl
      · exact .inr rfl
    · exact .inr rfl
  · obtain ⟨ad, l, h1, h2, h3⟩ := (key k H v).1 h
    exact (key k _ v).2 ⟨ad, l, h1, cellsAt_push hf h2, h3⟩
theorem okO_same {r : Option Value} (H : Heap) : (∃ v, okO r H = .ok v H) ∨ okO r H = .fail := by cases r with
  | none => exact .inr rfl
  | some v => exact .inl ⟨v, rfl⟩
/-- an answer that does not hang on the heap -/
theorem reads_okO {f : Option Value} : Reads (fun _ H => okO f H) := ⟨fun _ H => okO_same H, fun k H v ob _ h => by
  cases f with
  | none => cases h
  | some u => cases h; rfl⟩
theorem live_push {H : Heap} {ob : Ob} {i : Nat} (hf : ∀ i o, H.get i = some o → i < H.next) (h : live H i = true) : live (H.push ob) i = true := by
  unfold live at h ⊢
  cases hg : H.get i with
  | none => rw [hg] at h; cases h
  | some o => rw [get_push_of hf hg]; rw [hg] at h; exact h
theorem ptrEq_push {H : Heap} {ob : Ob} {x y : Value} {r : Bool} (hf : ∀ i o, H.get i = some o → i < H.next) (h : ptrEq H x y = some r) : ptrEq (H.push ob) x y = some r := by
  unfold ptrEq at h ⊢
  split at h
  · rename_i a b
    unfold ptrEqA at h ⊢
    split at h
    · exact h
    · exact h
    · exact h
    · split at h
      · rename_i a b _ _ s1 s2 h1 h2
        cases hb : Nat.beq a.block b.block with
        | true => rw [hb] at h; exact h
        | false =>
          rw [hb] at h
          simp only [cond_false] at h ⊢
          cases hl : (live H a.block && live H b.block) with
          | false => rw [hl] at h; cases h
          | true =>
            rw [hl] at h
            simp only [Bool.and_eq_true] at hl
            rw [live_push hf hl.1, live_push hf hl.2]; exact h
      · cases h
  · cases h
theorem reads_binP {op : BinOp} {x y : Value} : Reads (binP op x y) := by
  refine ⟨fun _ H => okO_same H, fun k H v ob hf h => ?_⟩
  unfold binP at h ⊢
  cases hp : ptrEq H x y with
  | none => rw [hp] at h; cases op <;> cases h
  | some r => rw [ptrEq_push hf hp]; rw [hp] at h; cases hq : eqRes op (some r) with
    | none => rw [hq] at h; cases h
    | some u => rw [hq] at h; cases h; rfl
theorem reads_binT {op : BinOp} {t : TypeId} {xo yo : Operand} {x y : Value} : Reads (binT P op t xo yo x y) := by
  have hA : ∀ s, Reads (binA s op x y) := by
    intro s; unfold binA
    cases x <;> first
      | (cases y <;> first | exact reads_okO | exact Reads.fail)
      | exact Reads.fail
  have hI : Reads (binI op x y) := by
    unfold binI
    cases x <;> first
      | (cases y <;> first | exact reads_okO | exact Reads.fail)
      | exact Reads.fail
  have hB : Reads (binB op x y) := by
    unfold binB
    cases x <;> first
      | (cases y <;> first | exact reads_okO | exact Reads.fail)
      | exact Reads.fail
  have hS : Reads (binS op x y) := by
    unfold binS
    cases x <;> first
      | (cases y <;> first | exact reads_okO | exact Reads.fail)
      | exact Reads.fail
  have hN : ∀ kd, Reads (binN kd op x y) := fun kd => reads_okO
  unfold binT
  (repeat' split) <;> first
    | exact hA _
    | exact hI
    | exact hB
    | exact hS
    | exact hN _
    | exact reads_binP
    | exact Reads.fail
    | (refine reads_ite ?_ ?_ <;> ((repeat' split) <;> first | exact hA _ | exact hN _ | exact Reads.fail))
theorem reads_lkp {z : Value} {ok : Bool} {m x : Value} : Reads (lkp z ok m x) := by
  refine ⟨fun k H => ?_, fun k H v ob hf h => ?_⟩
  · unfold lkp
    (repeat' split) <;> first | exact .inl ⟨_, rfl⟩ | exact .inr rfl
  · unfold lkp at h ⊢
    cases hm : H.map? m with
    | none => rw [hm] at h; cases h
    | some p =>
      obtain ⟨es, c⟩ := p
      rw [map_push hf hm]
      rw [hm] at h
      cases x <;> simp only at h ⊢ <;> first
        | (cases h; done)
        | skip
      rename_i kk n
      cases hq : mfind kk n es 0 with
      | none => rw [hq] at h; cases h
      | some r =>
        rw [hq] at h
        cases r with
        | none => cases h; rfl
        | some p => cases h; rfl
theorem reads_slcA {n s : Nat} {x : Value} {lo hi mx : Option Value} : Reads (slcA n s x lo hi mx) := by
  refine ⟨fun k H => ?_, fun k H v ob hf h => ?_⟩
  · unfold slcA
    cases x <;> first
      | exact .inr rfl
      | skip
    rename_i p
    cases p with
    | none => exact .inr rfl
    | some a =>
      simp only
      cases bnds n n lo hi mx with
      | none => exact .inr rfl
      | some r =>
        obtain ⟨l, hh, m⟩ := r
        simp only
        cases a.spot with
        | none => exact .inl ⟨_, rfl⟩
        | some q =>
          simp only
          cases H.get a.block with
          | none => exact .inr rfl
          | some o =>
            cases o <;> first
              | exact .inr rfl
              | skip
            rename_i e c
            simp only
            cases Nat.ble (a.off + n * s) c.length <;> first | exact .inl ⟨_, rfl⟩ | exact .inr rfl
  · unfold slcA at h ⊢
    cases x <;> first
      | (cases h; done)
      | skip
    rename_i p
    cases p with
    | none => cases h
    | some a =>
      simp only at h ⊢
      cases hb : bnds n n lo hi mx with
      | none => rw [hb] at h; cases h
      | some r =>
        obtain ⟨l, hh, m⟩ := r
        rw [hb] at h
        simp only at h ⊢
        cases hsp : a.spot with
        | none => rw [hsp] at h; cases h; rfl
        | some q =>
          rw [hsp] at h
          simp only at h ⊢
          cases hg : H.get a.block with
          | none => rw [hg] at h; cases h
          | some o =>
            rw [hg] at h
            rw [get_push_of hf hg]
            cases o <;> simp only at h ⊢ <;> first
              | (cases h; done)
              | skip
            rename_i e c
            cases hle : Nat.ble (a.off + n * s) c.length with
            | false => rw [hle] at h; cases h
            | true => rw [hle] at h; cases h; rfl
theorem reads_slcS {s : Nat} {x : Value} {lo hi mx : Option Value} : Reads (slcS s x lo hi mx) := by
  have key : ∀ k H H', (∃ v, slcS s x lo hi mx k H = .ok v H ∧ slcS s x lo hi mx k H' = .ok v H') ∨ (slcS s x lo hi mx k H = .fail ∧ slcS s x lo hi mx k H' = .fail) := by
    intro k H H'
    unfold slcS
    split
    · split <;> first | exact .inl ⟨_, rfl, rfl⟩ | exact .inr ⟨rfl, rfl⟩
    · split
      · split
        · cases mx.isSome <;> exact .inl ⟨_, rfl, rfl⟩
        · exact .inr ⟨rfl, rfl⟩
      · split <;> first | exact .inl ⟨_, rfl, rfl⟩ | exact .inr ⟨rfl, rfl⟩
    · exact .inr ⟨rfl, rfl⟩
  refine ⟨fun k H => ?_, fun k H v ob hf h => ?_⟩
  · rcases key k H H with ⟨v, h, _⟩ | ⟨h, _⟩
    · exact .inl ⟨v, h⟩
    · exact .inr h
  · rcases key k H (H.push ob) with ⟨u, h1, h2⟩ | ⟨h1, _⟩
    · rw [h] at h1; cases h1; exact h2
    · rw [h] at h1; cases h1
theorem reads_slcB {x : Value} {lo hi : Option Value} : Reads (slcB x lo hi) := by
  have key : ∀ k H H', (∃ v, slcB x lo hi k H = .ok v H ∧ slcB x lo hi k H' = .ok v H') ∨ (slcB x lo hi k H = .fail ∧ slcB x lo hi k H' = .fail) := by
    intro k H H'
    unfold slcB
    (repeat' split) <;> first | exact .inl ⟨_, rfl, rfl⟩ | exact .inr ⟨rfl, rfl⟩
  refine ⟨fun k H => ?_, fun k H v ob hf h => ?_⟩
  · rcases key k H H with ⟨v, h, _⟩ | ⟨h, _⟩
    · exact .inl ⟨v, h⟩
    · exact .inr h
  · rcases key k H (H.push ob) with ⟨u, h1, h2⟩ | ⟨h1, _⟩
    · rw [h] at h1; cases h1; exact h2
    · rw [h] at h1; cases h1
theorem reads_lenL {x : Value} : Reads (lenL x) := by
  unfold lenL
  cases x <;> first
    | exact Reads.fail
    | skip
  rename_i a n c
  cases a with
  | some a => exact ⟨fun _ H => .inl ⟨_, rfl⟩, fun k H v ob _ h => by cases h; rfl⟩
  | none => cases n <;> cases c <;> first | exact Reads.fail | exact ⟨fun _ H => .inl ⟨_, rfl⟩, fun k H v ob _ h => by cases h; rfl⟩
theorem reads_lenT {x : Value} : Reads (lenT x) := by
  unfold lenT
  cases x <;> first
    | exact Reads.fail
    | exact ⟨fun _ H => .inl ⟨_, rfl⟩, fun k H v ob _ h => by cases h; rfl⟩
theorem reads_lenM {x : Value} : Reads (lenM x) := by
  refine ⟨fun k H => ?_, fun k H v ob hf h => ?_⟩
  · unfold lenM
    (repeat' split) <;> first | exact .inl ⟨_, rfl⟩ | exact .inr rfl
  · unfold lenM at h ⊢
    cases x <;> first
      | (cases h; done)
      | skip
    rename_i r
    cases r with
    | none => cases h; rfl
    | some i =>
      simp only at h ⊢
      cases hg : H.get i with
      | none => rw [hg] at h; cases h
      | some o =>
        rw [hg] at h
        rw [get_push_of hf hg]
        cases o <;> simp only at h ⊢ <;> first
          | (cases h; done)
          | (cases h; rfl)

theorem read_op {e : Env} {o : Oper} (hk : kindOf o = .read) : Reads (evalOp P call e o) := by
  obtain ⟨dst, op, type, pos, after, guard⟩ := o
  cases op <;> simp only [kindOf, reduceCtorEq] at hk <;> simp only [evalOp]
  case load t x => unfold ldT; (repeat' split) <;> first | exact reads_ld | exact Reads.fail
  case binOp => exact reads_binT
  case slice => (repeat' split) <;> first | exact reads_slcA | exact reads_slcS | exact reads_slcB | exact Reads.fail
  case lookup => unfold lookT; (repeat' split) <;> first | exact reads_lkp | exact Reads.fail
  case call c =>
    obtain ⟨callee, args, ats⟩ := c
    cases callee with
    | value => simp at hk
    | invoke => simp at hk
    | builtin b =>
      cases b <;> simp at hk
      simp only [evalBuiltin]
      split <;> first
        | exact Reads.fail
        | (rename_i h1 _ _; cases h1; done)
        | (exact absurd ‹Builtin.len = Builtin.max› (by simp))
        | (exact absurd ‹Builtin.len = Builtin.min› (by simp))
        | ((repeat' split) <;> first | exact reads_lenT | exact reads_lenL | exact reads_lenM | exact Reads.pure _ | exact Reads.fail)

theorem Quiet.reads {m : M Value} (h : Quiet m) : Reads m := by
  rcases h with ⟨v, rfl⟩ | rfl
  · exact Reads.pure v
  · exact Reads.fail
theorem quiet_guard {g : Value} {w : Bool} {m : M Value} (h : Quiet m) : Quiet (guardM g w m) := by
  unfold guardM
  split
  · exact quiet_ite h (.pure _)
  · exact .pure _
  · exact .fail
theorem reads_guard {g : Value} {w : Bool} {m : M Value} (h : Reads m) : Reads (guardM g w m) := by
  unfold guardM
  split
  · exact reads_ite h (Reads.pure _)
  · exact Reads.pure _
  · exact Reads.fail
theorem quiet_mOf {ops : List Oper} {e : Env} {o : Oper} (hk : kindOf o = .quiet) : Quiet (mOf P call ops e o) := by
  unfold mOf
  cases o.guard with
  | none => exact quiet_op hk
  | some p => exact quiet_guard (quiet_op hk)
theorem reads_mOf {ops : List Oper} {e : Env} {o : Oper} (hk : kindOf o = .read) : Reads (mOf P call ops e o) := by
  unfold mOf
  cases o.guard with
  | none => exact read_op hk
  | some p => exact reads_guard (read_op hk)
end
end Go.Am
