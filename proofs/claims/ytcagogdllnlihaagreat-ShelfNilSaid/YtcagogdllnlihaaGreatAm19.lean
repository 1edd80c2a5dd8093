/- Code: what it answers abstractly, it does. -/
import Derived.Test.YtcagogdllnlihaaGreatAm18
import Derived.Scope
set_option linter.all false
namespace Go.Am

section
variable {P : Program}
/-- behind a round of a loop -/
def LoopAt (P : Program) (c : Code) (Q : Exit → Act → World → Prop) (a : Act) (w : World) : Prop :=
  ∀ (b : Frame) (k : List Item) (cs : List Frame), ∃ e a' w', Q e a' w' ∧ Arrives P (lone (b.at a (.inLoop c :: k)) cs w) b k cs e a' w'
theorem loop_round {c : Code} {Q : Exit → Act → World → Prop} {a : Act} {w : World} (h : c.wp P (Exit.then (LoopAt P c Q) Q) a w) (b : Frame) (k : List Item) (cs : List Frame) :
    ∃ e a' w', Q e a' w' ∧ Arrives P (lone (b.at a (.code c :: .inLoop c :: k)) cs w) b k cs e a' w' := by
  obtain ⟨e, a₁, w₁, hq, harr⟩ := h b (.inLoop c :: k) cs
  cases e with
  | normal =>
    obtain ⟨e₂, a₂, w₂, hq₂, harr₂⟩ := hq b k cs
    exact ⟨e₂, a₂, w₂, hq₂, .of_steps harr harr₂⟩
  | exit id => exact ⟨_, a₁, w₁, hq, .pass (x := .inLoop c) rfl (fun _ _ => .inl (by simp)) harr⟩
  | goto l => exact ⟨_, a₁, w₁, hq, .pass (x := .inLoop c) rfl (fun _ _ => .inl (by simp)) harr⟩
  | ret => exact ⟨_, a₁, w₁, hq, .pass (x := .inLoop c) rfl (fun _ _ => .inl (by simp)) harr⟩
  | panic ch => exact ⟨_, a₁, w₁, hq, .pass (x := .inLoop c) rfl (fun _ _ => .inl (by simp)) harr⟩
  | outgrown => exact ⟨_, a₁, w₁, hq, .pass (x := .inLoop c) rfl (fun _ _ => .inl (by simp)) harr⟩
theorem loopAt_round {c : Code} {Q : Exit → Act → World → Prop} {a : Act} {w : World} (h : c.wp P (Exit.then (LoopAt P c Q) Q) a w) : LoopAt P c Q a w := fun b k cs =>
  let ⟨e, a', w', hq, harr⟩ := loop_round h b k cs
  ⟨e, a', w', hq, .of_steps (.one step_inLoop) harr⟩
theorem loop_first {c : Code} {Q : Exit → Act → World → Prop} {a : Act} {w : World} (h : c.wp P (Exit.then (LoopAt P c Q) Q) a w) : (Code.loop c).wp P Q a w := fun b k cs =>
  let ⟨e, a', w', hq, harr⟩ := loop_round h b k cs
  ⟨e, a', w', hq, .of_steps (.one step_loop) harr⟩

variable {call : CallF} {k : Nat} {keep head : Nat → List Nat} {nt : Nat}

theorem region_ok (hfol : P.follows .mixedOrders = true) (hcall : CallOk P call k) {id : Nat} {ops : Array Oper} {draw : Bool} {kp : List Nat} {e : Env} {a : Act} {π : Ren} {H : Heap} {w : World} {Q : R → Heap → Prop} {E : Value → Heap → Prop}
    (hs : Sim π H w) (he : EnvRel π e a) (hn : a.tmps.size = nt) (hsat : (region P call kp nt ops.toList draw e k H).Sat Q E) : (Code.region id ops draw).wp P (CodePost π H w a.defers nt Q E) a w := by
  unfold region at hsat
  cases hall : ops.toList.all (opOk nt) with
  | false => rw [hall] at hsat; exact hsat.elim
  | true =>
    rw [hall] at hsat
    simp only [cond_true] at hsat
    have hok : ∀ o ∈ ops.toList, opOk nt o = true := List.all_eq_true.1 hall
    cases draw with
    | false =>
      refine wp_region ?_
      rw [List.range_eq_range', ← Array.length_toList]
      exact evalOps_ok hcall ops.toList 0 e a π H w (fun j => by simp) hok hs he hn hsat
    | true =>
      simp only at hsat
      generalize hord : greedy ops.toList (befs ops.toList) ops.toList.length 0 (List.range ops.toList.length) = ord at hsat
      cases hD : drawOk ops.toList (befs ops.toList) ord with
      | false => rw [hD] at hsat; exact hsat.elim
      | true =>
        rw [hD] at hsat
        simp only [cond_true] at hsat
        refine wp_region_any hfol ?_
        have hs' : Sim π H { w with drawn := w.drawn + 1 } := hs.heap_eq rfl
        have ha : After π H w π H { w with drawn := w.drawn + 1 } := ⟨Ext.refl _, hs', rfl, Nat.le_refl _, Nat.le_refl _, fun _ _ _ => rfl, fun _ h => .inl h, fun _ _ h h' => ⟨h, h'⟩⟩
        have hD0 : ∀ i, (Array.replicate ops.size false).getD i false = false := fun i => by
          simp only [Array.getD_eq_getD_getElem?, Array.getElem?_replicate]; split <;> rfl
        have inv : Inv P call k ops kp nt a.defers Q E π H w e ord (fun i => (Array.replicate ops.size false).getD i false) (fun _ => 0) [] ord [] π H { w with drawn := w.drawn + 1 } a :=
          ⟨by simp, fun i hi => by rw [hD0] at hi; exact absurd hi Bool.false_ne_true, fun i o hi => by rw [hD0] at hi; exact absurd hi Bool.false_ne_true, he, hn, rfl, hsat, ha, fun t1 i v t2 h => by simp at h⟩
        obtain ⟨who, tr, rest, reads, H', inv', hh⟩ := advance hD inv
        exact draw_ok hs.fresh hcall hD hok ops.size (List.range ops.size) _ a _ who tr rest reads π H' (by simp) (by simp) (fun j hj _ => List.mem_range.2 hj) inv' hh

theorem code_ok (hfol : P.follows .mixedOrders = true) (hcall : CallOk P call k) : ∀ (c : Code) {Q : R → Heap → Prop} {E : Value → Heap → Prop} {e : Env} {a : Act} {π : Ren} {H : Heap} {w : World}, Sim π H w → EnvRel π e a → a.tmps.size = nt →
    (code P call keep head nt c e k H).Sat Q E → c.wp P (CodePost π H w a.defers nt Q E) a w := by
  intro c
  induction c with
  | skip =>
    intro Q E e a π H w hs he hn hsat
    exact wp_skip ⟨e, H, π, hsat, he, .refl hs, rfl, hn⟩
  | label l =>
    intro Q E e a π H w hs he hn hsat
    exact wp_label ⟨e, H, π, hsat, he, .refl hs, rfl, hn⟩
  | region id ops draw =>
    intro Q E e a π H w hs he hn hsat
    exact region_ok hfol hcall hs he hn hsat
  | seq x y ihx ihy =>
    intro Q E e a π H w hs he hn hsat
    have hb := Out.Sat.of_bind (o := code P call keep head nt x e k H) hsat
    refine wp_seq (wp_mono (ihx hs he hn hb) fun en a' w' hp => ?_)
    cases en with
    | normal =>
      obtain ⟨e', H', π', h1, h2, h3, h4, h5⟩ := hp
      refine wp_mono (ihy h3.sim h2 h5 h1) fun en2 a2 w2 hp2 => ?_
      rw [h4] at hp2
      exact hp2.after h3
    | exit id => exact hp
    | ret => exact hp
    | panic ch => exact hp
    | goto l => exact hp
    | outgrown => exact hp
  | cond c x y ihx ihy =>
    intro Q E e a π H w hs he hn hsat
    have hc : ∀ t, ev e c = .bool t → a.eval c = .bool t := by
      intro t ht
      cases c with
      | tmp s =>
        have := he.slot s
        have ht' : e s = .bool t := ht
        rw [ht'] at this
        show a.tmps.getD s undef = _
        generalize a.tmps.getD s undef = q at this
        cases this; rfl
      | const v => exact ht
      | global g => cases ht
      | func f => cases ht
    have hsat' : (condM (ev e c) (code P call keep head nt x e) (code P call keep head nt y e) k H).Sat Q E := hsat
    generalize ev e c = v at hsat' hc
    cases v <;> first
      | exact hsat'.elim
      | skip
    rename_i b
    cases b with
    | true => exact wp_cond_true (hc _ rfl) (ihx hs he hn hsat')
    | false => exact wp_cond_false (hc _ rfl) (ihy hs he hn hsat')
  | block id x ih =>
    intro Q E e a π H w hs he hn hsat
    have hb := Out.Sat.of_bind (o := code P call keep head nt x e k H) hsat
    refine wp_block (wp_mono (ih hs he hn hb) fun en a' w' hp => ?_)
    cases en with
    | normal => exact hp
    | exit id' =>
      obtain ⟨e', H', π', h1, h2⟩ := hp
      simp only [Exit.inBlock]
      by_cases hid : id' = id
      · rw [if_pos hid]
        refine ⟨e', H', π', ?_, h2⟩
        have h1' : Q (leaveB id (.exit id'), e') H' := h1
        simp only [leaveB, beqT hid, cond_true] at h1'
        exact h1'
      · rw [if_neg hid]
        refine ⟨e', H', π', ?_, h2⟩
        have h1' : Q (leaveB id (.exit id'), e') H' := h1
        simp only [leaveB, beqF hid, cond_false] at h1'
        exact h1'
    | ret => exact hp
    | panic ch => exact hp
    | goto l => exact hp
    | outgrown => exact hp
  | loop x ih =>
    intro Q E e a π H w hs he hn hsat
    have key : ∀ (n : Nat) (e' : Env) (a' : Act) (π' : Ren) (H' : Heap) (w' : World), After π H w π' H' w' → EnvRel π' e' a' → a'.tmps.size = nt → a'.defers = a.defers →
        (loopF (head (firstRegion x)) (fun e' => code P call keep head nt x e') n ((head (firstRegion x)).map e') k H').Sat Q E → x.wp P (Exit.then (LoopAt P x (CodePost π H w a.defers nt Q E)) (CodePost π H w a.defers nt Q E)) a' w' := by
      intro n
      induction n with
      | zero => intro e' a' π' H' w' _ _ _ _ h; exact h.elim
      | succ n ihn =>
        intro e' a' π' H' w' ha he' hn' hd' h
        have hb := Out.Sat.of_bind (o := code P call keep head nt x (mk (head (firstRegion x)) ((head (firstRegion x)).map e')) k H') h
        refine wp_mono (ih ha.sim (mk_rel he' _) hn' hb) fun en a2 w2 hp => ?_
        rw [hd'] at hp
        cases en with
        | normal =>
          obtain ⟨e2, H2, π2, h1, h2, h3, h4, h5⟩ := hp
          exact loopAt_round (ihn e2 a2 π2 H2 w2 (ha.trans h3) h2 h5 h4 h1)
        | exit id =>
          obtain ⟨e2, H2, π2, h1, h2, h3, h4⟩ := hp
          exact ⟨e2, H2, π2, h1, h2, ha.trans h3, h4⟩
        | ret =>
          obtain ⟨e2, H2, π2, h1, h2, h3, h4⟩ := hp
          exact ⟨e2, H2, π2, h1, h2, ha.trans h3, h4⟩
        | panic ch => exact CodePost.after (x := .panic ch) ha hp
        | goto l => exact hp
        | outgrown => exact hp
    exact loop_first (key k e a π H w (.refl hs) he hn rfl hsat)
  | exit id =>
    intro Q E e a π H w hs he hn hsat
    exact wp_exit ⟨e, H, π, hsat, he, .refl hs, rfl, hn⟩
  | ret =>
    intro Q E e a π H w hs he hn hsat
    exact wp_ret ⟨e, H, π, hsat, he, .refl hs, rfl, hn⟩
  | scope x ih =>
    intro Q E e a π H w hs he hn hsat
    refine wp_scope_straight (wp_mono (ih hs he hn hsat) fun en a' w' hp => ?_)
    cases en with
    | goto l => exact hp
    | normal => exact hp
    | exit id => exact hp
    | ret => exact hp
    | panic ch => exact hp
    | outgrown => exact hp
  | rangeFunc => intro Q E e a π H w hs he hn hsat; exact hsat.elim
  | goto => intro Q E e a π H w hs he hn hsat; exact hsat.elim
  | refuse => intro Q E e a π H w hs he hn hsat; exact hsat.elim
end
end Go.Am
