/- Regions that draw their order, 3. -/
import Derived.Test.YtcagogdllnlihaaGreatAm16
set_option linter.all false
namespace Go.Am

section
variable {P : Program} {call : CallF} {k : Nat}

structure Inv (P : Program) (call : CallF) (k : Nat) (ops : Array Oper) (keep : List Nat) (nt : Nat) (d : List Deferred) (Q : R → Heap → Prop) (E : Value → Heap → Prop)
    (π₀ : Ren) (H₀ : Heap) (w₀ : World) (e₀ : Env) (ord : List Nat) (D : Nat → Bool) (who : Nat → Nat) (tr : List (Nat × Value)) (rest : List Nat) (reads : List Read) (π : Ren) (H : Heap) (w : World) (a : Act) : Prop where
  ord : ord = tr.map (·.1) ++ rest
  sub : ∀ i, D i = true → i ∈ tr.map (·.1)
  closed : ∀ i o, D i = true → ops[i]? = some o → ∀ e ∈ o.after, Region.binds .any e = true → D e.on = true
  env : EnvRel π (envT ops.toList D e₀ tr) a
  size : a.tmps.size = nt
  defers : a.defers = d
  sat : (evalDraw P call keep ops.toList (befs ops.toList) rest (envT ops.toList (fun _ => true) e₀ tr) reads k H).Sat Q E
  after : After π₀ H₀ w₀ π H w
  late : ∀ t1 i v t2, tr = t1 ++ (i, v) :: t2 → D i = false → ∃ o, ops.toList[i]? = some o ∧ Late P call k ops.toList who H₀.next reads π H i o (envT ops.toList (fun _ => true) e₀ t1) v

variable {ops : Array Oper} {keep : List Nat} {nt : Nat} {d : List Deferred} {Q : R → Heap → Prop} {E : Value → Heap → Prop} {π₀ : Ren} {H₀ : Heap} {w₀ : World} {e₀ : Env} {ord : List Nat} {D : Nat → Bool} {who : Nat → Nat} {tr : List (Nat × Value)} {rest : List Nat} {reads : List Read} {π : Ren} {H : Heap} {w : World} {a : Act}

theorem late_snoc {ops : List Oper} {D : Nat → Bool} {X : List (Nat × Value) → Nat → Value → Prop} {tr : List (Nat × Value)} {i : Nat} {v : Value}
    (h : ∀ t1 j u t2, tr = t1 ++ (j, u) :: t2 → D j = false → X t1 j u) (hn : D i = false → X tr i v) : ∀ t1 j u t2, tr ++ [(i, v)] = t1 ++ (j, u) :: t2 → D j = false → X t1 j u := by
  intro t1 j u t2 he hd
  rcases List.eq_nil_or_concat t2 with rfl | ⟨t3, x, rfl⟩
  · have h1 := congrArg List.reverse he
    simp only [List.reverse_append, List.reverse_cons, List.reverse_nil, List.nil_append, List.singleton_append, List.cons.injEq, Prod.mk.injEq, List.reverse_inj] at h1
    obtain ⟨⟨rfl, rfl⟩, rfl⟩ := h1
    exact hn hd
  · have h1 := congrArg List.reverse he
    simp only [List.concat_eq_append, List.reverse_append, List.reverse_cons, List.reverse_nil, List.nil_append, List.singleton_append, List.cons_append, List.cons.injEq] at h1
    obtain ⟨rfl, h2⟩ := h1
    have h3 := congrArg List.reverse h2
    simp only [List.reverse_reverse, List.reverse_append, List.append_assoc, List.reverse_cons, List.reverse_nil, List.nil_append, List.singleton_append] at h3
    exact h t1 j u t3 h3 hd

theorem Late.read_mono {ops : List Oper} {n0 : Nat} {reads reads' : List Read} {i : Nat} {o : Oper} {e : Env} {v : Value} (h : Late P call k ops who n0 reads π H i o e v) (hr : ∀ x ∈ reads, x ∈ reads') : Late P call k ops who n0 reads' π H i o e v := by
  cases h with
  | still h => exact .still h
  | read h hk hm => exact .read h hk (hr _ hm)
  | make Hx ob h hk hw hn hg hp => exact .make Hx ob h hk hw hn hg hp
theorem Late.push {ops : List Oper} {n0 : Nat} {i : Nat} {o : Oper} {e : Env} {v : Value} {q : Nat} (h : Late P call k ops who n0 reads π H i o e v) (hf : ∀ i o, H.get i = some o → i < H.next) (ob : Ob) : Late P call k ops (fun x => bif Nat.beq x H.next then q else who x) n0 reads π (H.push ob) i o e v := by
  cases h with
  | still h => exact .still h
  | read h hk hm => exact .read ((reads_mOf hk).push _ _ _ _ hf h) hk hm
  | make Hx ob' h hk hw hn hg hp =>
    have : Hx.next ≠ H.next := by have := hf _ _ hg; omega
    exact .make Hx ob' h hk (by simp only [beqF this, cond_false]; exact hw) hn (get_push_of hf hg) hp

/-- what does not act is gone through -/
theorem advance (hD : drawOk ops.toList (befs ops.toList) ord = true) : ∀ {rest : List Nat} {tr : List (Nat × Value)} {reads : List Read} {H : Heap} {who : Nat → Nat}, Inv P call k ops keep nt d Q E π₀ H₀ w₀ e₀ ord D who tr rest reads π H w a →
    ∃ who' tr' rest' reads' H', Inv P call k ops keep nt d Q E π₀ H₀ w₀ e₀ ord D who' tr' rest' reads' π H' w a ∧ (rest' = [] ∨ ∃ i r, rest' = i :: r ∧ isAct ops.toList i = true) := by
  intro rest
  induction rest with
  | nil => intro tr reads H who h; exact ⟨_, _, _, _, _, h, .inl rfl⟩
  | cons i r ih =>
    intro tr reads H who h
    have hil : i ∈ ord := by rw [h.ord]; simp
    have hlt : i < ops.toList.length := by
      unfold drawOk at hD
      simp only [Bool.and_eq_true, List.all_eq_true] at hD
      exact Nat.le_of_ble_eq_true (hD.1.2 i hil)
    obtain ⟨o, ho⟩ : ∃ o, ops.toList[i]? = some o := ⟨_, List.getElem?_eq_getElem hlt⟩
    have hoo : ordOk ops.toList (befs ops.toList) (tr.map (·.1) ++ i :: r) = true := by
      unfold drawOk at hD
      simp only [Bool.and_eq_true] at hD
      rw [← h.ord]; exact hD.2
    have hni : D i = false := by
      cases hd : D i with
      | false => rfl
      | true =>
        obtain ⟨_, _, h3⟩ := ordOk_split hoo
        exact absurd rfl (h3 i (h.sub i hd)).2
    have fresh := h.after.sim.fresh
    have step : ∀ (v : Value) (H' : Heap) (reads' : List Read) (who' : Nat → Nat), After π₀ H₀ w₀ π H' w →
        (evalDraw P call keep ops.toList (befs ops.toList) r (upd (envT ops.toList (fun _ => true) e₀ tr) o.dst v) reads' k H').Sat Q E →
        (∀ j p e u, Late P call k ops.toList who H₀.next reads π H j p e u → Late P call k ops.toList who' H₀.next reads' π H' j p e u) →
        Late P call k ops.toList who' H₀.next reads' π H' i o (envT ops.toList (fun _ => true) e₀ tr) v →
        ∃ who' tr' rest' reads' H', Inv P call k ops keep nt d Q E π₀ H₀ w₀ e₀ ord D who' tr' rest' reads' π H' w a ∧ (rest' = [] ∨ ∃ i r, rest' = i :: r ∧ isAct ops.toList i = true) := by
      intro v H' reads' who' ha hsat hold hnew
      refine ih (tr := tr ++ [(i, v)]) (reads := reads') (H := H') (who := who') ⟨by rw [h.ord]; simp, fun j hj => ?_, h.closed, ?_, h.size, h.defers, ?_, ha, ?_⟩
      · have := h.sub j hj; simp only [List.map_append, List.mem_append]; exact .inl this
      · rw [envT_append]
        simp only [envT, hni, cond_false]
        exact h.env
      · rw [envT_append]
        simp only [envT, cond_true, dstAt_of ho]
        exact hsat
      · refine late_snoc (ops := ops.toList) (X := fun t1 j u => ∃ o, ops.toList[j]? = some o ∧ Late P call k ops.toList who' H₀.next reads' π H' j o (envT ops.toList (fun _ => true) e₀ t1) u) ?_ ?_
        · intro t1 j u t2 he hd
          obtain ⟨p, hp, hl⟩ := h.late t1 j u t2 he hd
          exact ⟨p, hp, hold _ _ _ _ hl⟩
        · intro _; exact ⟨o, ho, hnew⟩
    have hsat := h.sat
    unfold evalDraw at hsat
    rw [ho] at hsat
    simp only at hsat
    have keepRead : ∀ j p e u, Late P call k ops.toList who H₀.next reads π H j p e u → Late P call k ops.toList who H₀.next reads π H j p e u := fun _ _ _ _ h => h
    cases hk : kindOf o with
    | quiet =>
      rw [hk] at hsat
      have hb : ((M.bind (mOf P call ops.toList (envT ops.toList (fun _ => true) e₀ tr) o) fun v => evalDraw P call keep ops.toList (befs ops.toList) r (upd (envT ops.toList (fun _ => true) e₀ tr) o.dst v) reads) k H).Sat Q E := by
        simp only at hsat
        cases hg : o.guard with
        | some p => rw [hg] at hsat; exact hsat
        | none =>
          cases hm : moved o.op with
          | none => rw [hg, hm] at hsat; exact hsat
          | some x =>
            rw [hg, hm] at hsat
            simp only at hsat
            have : mOf P call ops.toList (envT ops.toList (fun _ => true) e₀ tr) o = M.pure (ev (envT ops.toList (fun _ => true) e₀ tr) x) := by
              unfold mOf; rw [hg]
              unfold moved at hm
              obtain ⟨dst, op, type, pos, after, guard⟩ := o
              cases op <;> simp only at hm <;> first
                | (cases hm; done)
                | (obtain rfl := Option.some.inj hm; rfl)
            rw [this]; exact hsat
      rcases quiet_mOf (P := P) (call := call) (ops := ops.toList) (e := envT ops.toList (fun _ => true) e₀ tr) hk with ⟨v, hv⟩ | hv
      · rw [hv] at hb
        exact step v H reads who h.after hb keepRead (.still hv)
      · rw [hv] at hb; exact hb.elim
    | read =>
      rw [hk] at hsat
      have hb := Out.Sat.of_bind (o := mOf P call ops.toList (envT ops.toList (fun _ => true) e₀ tr) o k H) hsat
      rcases (reads_mOf (P := P) (call := call) (ops := ops.toList) (e := envT ops.toList (fun _ => true) e₀ tr) hk).same k H with ⟨v, hv⟩ | hv
      · rw [hv] at hb
        exact step v H _ who h.after hb (fun j p e u hl => hl.read_mono fun x hx => List.mem_cons_of_mem _ hx) (.read hv hk List.mem_cons_self)
      · rw [hv] at hb; exact hb.elim
    | make =>
      rw [hk] at hsat
      have hb := Out.Sat.of_bind (o := mOf P call ops.toList (envT ops.toList (fun _ => true) e₀ tr) o k H) hsat
      rcases makeA_mOf (P := P) (call := call) (ops := ops.toList) (e := envT ops.toList (fun _ => true) e₀ tr) hk with (hv | ⟨ob, mv, hao, hv⟩) | hv
      · rw [hv] at hb; exact hb.elim
      · rw [hv] at hb
        obtain ⟨hu1, hu2⟩ := h.after.sim.unborn ob hao
        refine step (mv H.next) (H.push ob) reads (fun x => bif Nat.beq x H.next then i else who x) (h.after.trans hu1) hb (fun j p e u hl => hl.push fresh ob) (.make H ob (by rw [hv]) hk (by simp) ?_ ?_ hu2)
        · exact h.after.next
        · rw [Heap.get_push, if_pos rfl]
      · rw [hv] at hb
        exact step undef H reads who h.after hb keepRead (.still hv)
    | act => exact ⟨_, _, _, _, _, h, .inr ⟨i, r, rfl, by unfold isAct; rw [ho]; simp only [hk]⟩⟩

/-- the environment that an operation finds -/
theorem env_names (hord : ordOk ops.toList (befs ops.toList) ord = true) {t1 t2 : List (Nat × Value)} {i : Nat} {o : Oper} {more : List Nat} (ho : ops.toList[i]? = some o) (he : ord = t1.map (·.1) ++ i :: (t2.map (·.1) ++ more))
    (hall : ∀ j, j ∈ ord → ∃ o, ops.toList[j]? = some o)
    (hbef : ∀ j, ahead (befs ops.toList) j i = true → D j = true) (haft : ∀ p ∈ t2, D p.1 = true → ahead (befs ops.toList) i p.1 = false) {t : Nat} (ht : t ∈ names ops.toList o) :
    envT ops.toList D e₀ (t1 ++ t2) t = envT ops.toList (fun _ => true) e₀ t1 t := by
  rw [he] at hord
  obtain ⟨h1, _, h3⟩ := ordOk_split hord
  rw [envT_append, envT_idle]
  · refine envT_all _ _ _ _ _ fun p hp hd => ?_
    obtain ⟨hj, _⟩ := h3 p.1 (List.mem_map.2 ⟨p, hp, rfl⟩)
    rcases hj with hj | ⟨_, hj⟩
    · exact hbef _ hj
    · obtain ⟨q, hq⟩ := hall p.1 (by rw [he]; simp only [List.mem_append, List.mem_map]; exact .inl ⟨p, hp, rfl⟩)
      rw [dstAt_of hq] at hd
      exact absurd ht ((clash_spec hq ho hj).1 t hd)
  · intro p hp hDp hd
    rcases h1 p.1 (by simp only [List.mem_append, List.mem_map]; exact .inl ⟨p, hp, rfl⟩) with hj | ⟨_, hj⟩
    · rw [haft p hp hDp] at hj; cases hj
    · obtain ⟨q, hq⟩ := hall p.1 (by rw [he]; simp only [List.mem_append, List.mem_map, List.mem_cons]; exact .inr (.inr (.inl ⟨p, hp, rfl⟩)))
      rw [dstAt_of hq] at hd
      exact (clash_spec ho hq hj).2 t hd ht
end
end Go.Am
