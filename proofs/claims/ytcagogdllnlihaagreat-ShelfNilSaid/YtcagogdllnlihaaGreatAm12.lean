/- Regions in the order of their text. -/
import Derived.Test.YtcagogdllnlihaaGreatAm11
set_option linter.all false
namespace Go.Am

theorem undef_eq : undef = .tuple ⟨[]⟩ := rfl
theorem EnvRel.put {π : Ren} {e : Env} {a : Act} (h : EnvRel π e a) {d : Option Nat} {v v' : Value} (hv : VRel π v v') (hd : ∀ t, d = some t → t < a.tmps.size) : EnvRel π (upd e d v) (a.put d v') := by
  cases d with
  | none => exact h
  | some t =>
    refine ⟨fun s => ?_⟩
    simp only [upd, Act.put]
    by_cases hst : s = t
    · subst hst
      rw [beqT rfl]
      simp only [cond_true]
      have := hd s rfl
      simpa [this] using hv
    · rw [beqF hst]
      simp only [cond_false]
      have := h.slot s
      simpa [Array.getElem?_setIfInBounds_ne (Ne.symm hst)] using this
theorem EnvRel.mono {π π' : Ren} {e : Env} {a : Act} (h : EnvRel π e a) (he : Ext π π') : EnvRel π' e a := ⟨fun t => (h.slot t).mono he⟩
theorem EnvRel.defers {π : Ren} {e : Env} {a b : Act} (h : EnvRel π e a) (ht : b.tmps = a.tmps) : EnvRel π e b := ⟨fun t => by rw [ht]; exact h.slot t⟩
theorem put_size {a : Act} {d : Option Nat} {v : Value} : (a.put d v).tmps.size = a.tmps.size := by cases d <;> simp [Act.put]
theorem put_defers {a : Act} {d : Option Nat} {v : Value} : (a.put d v).defers = a.defers := by cases d <;> rfl

theorem gv_spec {π : Ren} {e : Env} {a : Act} (h : EnvRel π e a) (ops : Array Oper) (j : Nat) :
    (∀ b, gv ops.toList e j = .bool b → yielded ops a.tmps j = some b) ∧ (gv ops.toList e j = .tuple ⟨[]⟩ → yielded ops a.tmps j = none) := by
  unfold gv yielded
  rw [Array.getElem?_toList]
  cases ho : ops[j]? with
  | none => exact ⟨fun b h => (by cases h), fun _ => rfl⟩
  | some o =>
    simp only [Option.bind_some]
    cases hd : o.dst with
    | none => exact ⟨fun b h => (by cases h), fun _ => rfl⟩
    | some t =>
      simp only [Option.bind_some]
      have hs := h.slot t
      refine ⟨fun b hb => ?_, fun hb => ?_⟩
      · rw [hb] at hs
        generalize hg : a.tmps.getD t undef = q at hs
        cases hs
        rw [Array.getD_eq_getD_getElem?] at hg
        cases hx : a.tmps[t]? with
        | none => rw [hx] at hg; cases hg
        | some v => rw [hx] at hg; simp only [Option.getD_some] at hg; subst hg; rfl
      · rw [hb] at hs
        generalize hg : a.tmps.getD t undef = q at hs
        cases hs with
        | tuple _ xs' hx =>
          cases hx
          rw [Array.getD_eq_getD_getElem?] at hg
          cases hx : a.tmps[t]? with
          | none => rfl
          | some v => rw [hx] at hg; simp only [Option.getD_some] at hg; subst hg; rfl

section
variable {P : Program} {π : Ren} {H : Heap} {w : World} {call : CallF} {k : Nat}

theorem wpOp_ok (hs : Sim π H w) (hcall : CallOk P call k) {e : Env} {a : Act} (he : EnvRel π e a) {ops : Array Oper} {i : Nat} {o : Oper} (hi : ops[i]? = some o) (ho : operandsOk o = true) {Q : Value → Heap → Prop} {E : Value → Heap → Prop}
    {K : Act → World → Prop} {Qc : Exit → Act → World → Prop} (hsat : (mOf P call ops.toList e o k H).Sat Q E)
    (hK : ∀ v H' v' w' π', Q v H' → VRel π' v v' → After π H w π' H' w' → K (a.put o.dst v') w')
    (hE : ∀ v H' v' w' π', E v H' → VRel π' v v' → After π H w π' H' w' → Qc (.panic [{ v := v', recovered := false }]) a w') : wpOp P ops Qc i K a w := by
  have run : (evalOp P call e o k H).Sat Q E → o.wp P a w K Qc := by
    intro hq
    unfold Oper.wp
    rcases op_ok hs hcall he ho Q E hq with ⟨v, H', v', w', π', h1, h2 | ⟨h2, rfl⟩, h3, h4⟩ | ⟨v, H', v', w', π', h1, h2, h3, h4⟩ | ⟨g, args, args', h1, h2, h3⟩
    · rw [h2]; exact hK _ _ _ _ _ h1 h3 h4
    · rw [h2]; exact hK _ _ _ _ _ h1 h3 h4
    · rw [h2]; exact hE _ _ _ _ _ h1 h3 h4
    · rw [h2, Oper.upon_enter]
      refine (hcall g args args' π H w Q E hs h3 h1).2.mono fun en w' hp => ?_
      rcases hp with ⟨v, H', v', π', q1, rfl, q2, q3⟩ | ⟨v, H', v', π', q1, rfl, q2, q3⟩
      · exact hK _ _ _ _ _ q1 q2 q3
      · exact hE _ _ _ _ _ q1 q2 q3
  unfold wpOp
  simp only [hi]
  unfold mOf at hsat
  cases hg : o.guard with
  | none =>
    rw [hg] at hsat
    have : Region.wanted o (yielded ops a.tmps) = true := by simp [Region.wanted, hg]
    rw [if_pos this]
    exact .inl (run hsat)
  | some jw =>
    obtain ⟨j, want⟩ := jw
    rw [hg] at hsat
    obtain ⟨g1, g2⟩ := gv_spec he ops j
    simp only at hsat
    generalize gv ops.toList e j = gval at hsat g1 g2
    have skip : yielded ops a.tmps j ≠ some want → (M.pure undef k H : Out Value).Sat Q E → (if Region.wanted o (yielded ops a.tmps) = true then o.wp P a w K Qc ∨ (o.asks P a w ∧ LetsOut Qc) else K (a.put o.dst undef) w) := by
      intro hne hq
      have : Region.wanted o (yielded ops a.tmps) = false := by simp [Region.wanted, hg, hne]
      rw [this]
      exact hK undef H undef w π hq .undef (.refl hs)
    unfold guardM at hsat
    split at hsat
    · rename_i b
      have hy := g1 b rfl
      cases hbw : b == want with
      | true =>
        simp only [hbw, cond_true] at hsat
        have : Region.wanted o (yielded ops a.tmps) = true := by simp [Region.wanted, hg, hy]; simpa using hbw
        rw [if_pos this]
        exact .inl (run hsat)
      | false =>
        simp only [hbw, cond_false] at hsat
        exact skip (by rw [hy]; simpa using hbw) hsat
    · exact skip (by rw [g2 rfl]; simp) hsat
    · exact hsat.elim

/-- what stands behind a piece of code -/
def Behind (π : Ren) (H : Heap) (w : World) (d : List Deferred) (nt : Nat) (Q : R → Heap → Prop) (c : Ctl) (a' : Act) (w' : World) : Prop :=
  ∃ e' H' π', Q (c, e') H' ∧ EnvRel π' e' a' ∧ After π H w π' H' w' ∧ a'.defers = d ∧ a'.tmps.size = nt
def CodePost (π : Ren) (H : Heap) (w : World) (d : List Deferred) (nt : Nat) (Q : R → Heap → Prop) (E : Value → Heap → Prop) : Exit → Act → World → Prop
  | .normal, a', w' => Behind π H w d nt Q .normal a' w'
  | .exit id, a', w' => Behind π H w d nt Q (.exit id) a' w'
  | .ret, a', w' => Behind π H w d nt Q .ret a' w'
  | .panic ch, a', w' => ∃ v H' v' π', E v H' ∧ ch = [{ v := v', recovered := false }] ∧ VRel π' v v' ∧ After π H w π' H' w' ∧ a'.defers = d
  | _, _, _ => False

theorem Behind.after {π₀ : Ren} {H₀ : Heap} {w₀ : World} (h : After π₀ H₀ w₀ π H w) {d : List Deferred} {nt : Nat} {Q : R → Heap → Prop} {c : Ctl} {a' : Act} {w' : World} (hb : Behind π H w d nt Q c a' w') : Behind π₀ H₀ w₀ d nt Q c a' w' := by
  obtain ⟨e', H', π', h1, h2, h3, h4, h5⟩ := hb
  exact ⟨e', H', π', h1, h2, h.trans h3, h4, h5⟩
theorem CodePost.after {π₀ : Ren} {H₀ : Heap} {w₀ : World} (h : After π₀ H₀ w₀ π H w) {d : List Deferred} {nt : Nat} {Q : R → Heap → Prop} {E : Value → Heap → Prop} {x : Exit} {a' : Act} {w' : World} (hb : CodePost π H w d nt Q E x a' w') : CodePost π₀ H₀ w₀ d nt Q E x a' w' := by
  cases x with
  | normal => exact Behind.after h hb
  | exit id => exact Behind.after h hb
  | ret => exact Behind.after h hb
  | panic ch =>
    obtain ⟨v, H', v', π', h1, h2, h3, h4, h5⟩ := hb
    exact ⟨v, H', v', π', h1, h2, h3, h.trans h4, h5⟩
  | goto l => exact hb
  | outgrown => exact hb

theorem mk_rel {e : Env} {a : Act} (he : EnvRel π e a) (ks : List Nat) : EnvRel π (mk ks (ks.map e)) a := by
  refine ⟨fun t => ?_⟩
  unfold mk
  induction ks with
  | nil => exact .poison _
  | cons q ks ih =>
    simp only [List.map_cons, assoc]
    by_cases h : t = q
    · subst h; rw [beqT rfl]; exact he.slot t
    · rw [beqF h]; exact ih

theorem dstOk_spec {nt : Nat} {o : Oper} (h : dstOk nt o = true) {a : Act} (hn : a.tmps.size = nt) : ∀ t, o.dst = some t → t < a.tmps.size := by
  intro t ht
  unfold dstOk at h
  rw [ht] at h
  rw [hn]
  exact Nat.le_of_ble_eq_true h

theorem evalOps_ok (hcall : CallOk P call k) {ops : Array Oper} {keep : List Nat} {nt : Nat} {Q : R → Heap → Prop} {E : Value → Heap → Prop} : ∀ (l : List Oper) (i : Nat) (e : Env) (a : Act) (π : Ren) (H : Heap) (w : World),
    (∀ j, l[j]? = ops[i + j]?) → (∀ o ∈ l, opOk nt o = true) → Sim π H w → EnvRel π e a → a.tmps.size = nt → (evalOps P call keep ops.toList l e k H).Sat Q E →
    wpOps P ops (CodePost π H w a.defers nt Q E) (List.range' i l.length) a w
  | [], i, e, a, π, H, w, _, _, hs, he, hn, hsat => by
    simp only [List.length_nil, List.range'_zero, wpOps]
    exact ⟨_, H, π, hsat, mk_rel he keep, .refl hs, rfl, hn⟩
  | o :: l, i, e, a, π, H, w, hl, hok, hs, he, hn, hsat => by
    have hi : ops[i]? = some o := by have := hl 0; simpa using this.symm
    have hoo := hok o (by simp)
    unfold opOk at hoo
    simp only [Bool.and_eq_true] at hoo
    rw [List.length_cons, List.range'_succ, wpOps_cons]
    have hbind : (mOf P call ops.toList e o k H).Sat (fun v H' => (evalOps P call keep ops.toList l (upd e o.dst v) k H').Sat Q E) E := by
      have gen : (M.bind (mOf P call ops.toList e o) fun v => evalOps P call keep ops.toList l (upd e o.dst v)) k H = ((mOf P call ops.toList e o k H).bind fun v H' => evalOps P call keep ops.toList l (upd e o.dst v) k H') := rfl
      unfold evalOps at hsat
      cases hg : o.guard with
      | some p => rw [hg] at hsat; simp only at hsat; rw [gen] at hsat; exact Out.Sat.of_bind hsat
      | none =>
        cases hm : moved o.op with
        | none => rw [hg, hm] at hsat; simp only at hsat; rw [gen] at hsat; exact Out.Sat.of_bind hsat
        | some x =>
          rw [hg, hm] at hsat
          simp only at hsat
          have : mOf P call ops.toList e o = M.pure (ev e x) := by
            unfold mOf; rw [hg]
            unfold moved at hm
            obtain ⟨dst, op, type, pos, after, guard⟩ := o
            cases op <;> simp only at hm <;> first
              | (cases hm; done)
              | (obtain rfl := Option.some.inj hm; rfl)
          rw [this]; exact hsat
    refine wpOp_ok hs hcall he hi hoo.1 hbind ?_ ?_
    · intro v H' v' w' π' hq hv ha
      have hd := dstOk_spec hoo.2 hn
      have h2 := evalOps_ok hcall l (i + 1) (upd e o.dst v) (a.put o.dst v') π' H' w' (fun j => by rw [show i + 1 + j = i + (j + 1) by omega, ← hl (j + 1)]; rfl)
        (fun x hx => hok x (by simp [hx])) ha.sim ((he.mono ha.ext).put hv hd) (by rw [put_size]; exact hn) hq
      rw [put_defers] at h2
      exact wpOps_mono h2 fun x a2 w2 h => CodePost.after ha h
    · intro v H' v' w' π' hq hv ha
      exact ⟨v, H', v', π', hq, rfl, hv, ha, rfl⟩
where
  wpOps_mono {P : Program} {ops : Array Oper} {Q Q' : Exit → Act → World → Prop} : ∀ {l : List Nat} {a : Act} {w : World}, wpOps P ops Q l a w → (∀ x a w, Q x a w → Q' x a w) → wpOps P ops Q' l a w := by
    intro l
    induction l with
    | nil => intro a w h hq; exact hq _ _ _ h
    | cons i l ih =>
      intro a w h hq
      rw [wpOps_cons] at h ⊢
      unfold wpOp at h ⊢
      split
      · rename_i ho; simp only [ho] at h; exact ih h hq
      · rename_i o ho
        simp only [ho] at h
        split
        · rename_i hw
          rw [if_pos hw] at h
          rcases h with h | ⟨h1, a0, w0, h2⟩
          · refine .inl ?_
            unfold Oper.wp at h ⊢
            generalize (execOp a.eval o).run P w = r at h ⊢
            cases r with
            | ok n w' =>
              cases n <;> simp only [Oper.upon] at h ⊢ <;> first
                | exact ih h hq
                | exact Calls.mono h (fun e w'' he => by
                    cases e with
                    | returned v => exact ih he hq
                    | panicked ch => exact hq _ _ _ he
                    | outgrown => obtain ⟨a1, w1, h1⟩ := he; exact ⟨a1, w1, hq _ _ _ h1⟩)
                | exact Rows.mono h (fun v w'' he => ih he hq)
                | exact h
            | halt x w' => cases x <;> simp only [Oper.upon] at h ⊢ <;> first | exact hq _ _ _ h | exact h
          · exact .inr ⟨h1, a0, w0, hq _ _ _ h2⟩
        · rename_i hw
          rw [if_neg hw] at h
          exact ih h hq
end
end Go.Am
