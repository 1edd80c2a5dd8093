/- Regions that draw their order, 1: what hangs on what; things that are born late. -/
import Derived.Test.YtcagogdllnlihaaGreatAm14
set_option linter.all false
namespace Go.Am

/-- a making operation, by the abstract heap alone -/
def MakeA (m : M Value) : Prop := m = M.fail ∨ ∃ (ob : Ob) (mv : Nat → Value), alive ob = true ∧ m = fun _ H => .ok (mv H.next) (H.push ob)
section
variable {P : Program} {call : CallF}
theorem makeA_op {e : Env} {o : Oper} (hk : kindOf o = .make) : MakeA (evalOp P call e o) := by
  obtain ⟨dst, op, type, pos, after, guard⟩ := o
  have hnew : ∀ t c, MakeA (newOb (.cells t c)) := fun t c => .inr ⟨.cells t c, fun i => .pointer (some (new i 0)), rfl, rfl⟩
  cases op <;> simp only [kindOf, reduceCtorEq] at hk <;> simp only [evalOp]
  case alloc t => split <;> first | exact hnew _ _ | exact .inl rfl
  case box t x => unfold box; cases bad (ev e x) <;> first | exact .inl rfl | exact hnew _ _
  case makeMap t r => cases r <;> first | exact .inl rfl | exact .inr ⟨.map [] 0, fun i => .map (some i), rfl, rfl⟩
  case buildSlice t n ps =>
    have hb : ∀ el s z n l, MakeA (bldSlice el s z n l) := by
      intro el s z n l
      unfold bldSlice
      cases hl : lay (rep n z) l with
      | none => exact .inl rfl
      | some r => exact .inr ⟨.cells el r, fun i => .slice (some (new i 0)) n (s + 2), rfl, rfl⟩
    split
    · split
      · rename_i el s z _ _
        cases (Nat.ble (n * (s + 1)) (2 ^ 24) && Nat.beq z.length (s + 1)) with
        | false => exact .inl rfl
        | true => simp only [cond_true]; split <;> first | exact hb _ _ _ _ _ | exact .inl rfl
      · exact .inl rfl
    · exact .inl rfl
  case makeSlice t x y =>
    have hb : ∀ el s b z x y, MakeA (mkSlice el s b z x y) := by
      intro el s b z x y
      by_cases hint : ∃ l c : Int, x = .int .i64 l ∧ y = .int .i64 c
      · obtain ⟨l, c, rfl, rfl⟩ := hint
        cases hc : (decide (0 ≤ l) && decide (l ≤ c) && decide ((b : Int) * c ≤ 2 ^ 47) && decide (c < 2 ^ 62)) with
        | false => exact .inl (by funext k H; simp only [mkSlice, hc, cond_false]; rfl)
        | true => exact .inr ⟨.cells el (rep l.toNat z), fun i => .slice (some (new i 0)) l.toNat (s + 2), rfl, by funext k H; simp only [mkSlice, hc, cond_true]⟩
      · refine .inl ?_
        funext k H
        unfold mkSlice
        split
        · exact absurd ⟨_, _, rfl, rfl⟩ hint
        · rfl
    split
    · split
      · rename_i el s b z _ _ _
        cases Nat.beq z.length (s + 1) <;> first | exact .inl rfl | exact hb _ _ _ _ _ _
      · exact .inl rfl
    · exact .inl rfl
  case call c =>
    obtain ⟨callee, args, ats⟩ := c
    cases callee with
    | value => simp at hk
    | invoke => simp at hk
    | builtin b => cases b <;> simp at hk
theorem makeA_mOf {ops : List Oper} {e : Env} {o : Oper} (hk : kindOf o = .make) : MakeA (mOf P call ops e o) ∨ mOf P call ops e o = M.pure undef := by
  unfold mOf
  cases o.guard with
  | none => exact .inl (makeA_op hk)
  | some jw =>
    simp only
    unfold guardM
    split
    · rename_i b _
      cases hq : (b == jw.2) <;> first | exact .inr rfl | exact .inl (makeA_op hk)
    · exact .inr rfl
    · exact .inl (.inl rfl)
end

theorem push_ne {H : Heap} {ob : Ob} : H ≠ H.push ob := fun h => by
  have := congrArg Heap.next h
  simp at this
theorem push_inj {H : Heap} {a b : Ob} (h : H.push a = H.push b) : a = b := by
  have h1 : (H.push a).get H.next = some a := by rw [Heap.get_push, if_pos rfl]
  have h2 : (H.push b).get H.next = some b := by rw [Heap.get_push, if_pos rfl]
  rw [h, h2] at h1; exact (Option.some.inj h1).symm

/-- a thing that no world's block stands for -/
theorem Sim.unborn {π : Ren} {H : Heap} {w : World} (h : Sim π H w) (ob : Ob) (hao : alive ob = true) : After π H w π (H.push ob) w ∧ π H.next = none := by
  have hn : π H.next = none := by
    cases hp : π H.next with
    | none => rfl
    | some m => exact absurd (h.dom _ _ hp) (Nat.lt_irrefl _)
  have hget : ∀ i o l, (H.push ob).get i = some o → π i = some l → H.get i = some o := fun i o l hi hl => by
    rw [Heap.get_push] at hi
    split at hi
    · rename_i he; rw [← he, hn] at hl; cases hl
    · exact hi
  have hgh : ∀ i g, (H.push ob).get i = some (.ghost g) → H.get i = some (.ghost g) := fun i g hi => by
    rw [Heap.get_push] at hi
    split at hi
    · obtain rfl := Option.some.inj hi; cases hao
    · exact hi
  have hown : ∀ b, OwnO (H.push ob).get π b → OwnO H.get π b ∨ w.heap.size ≤ b := by
    rintro b ⟨i, o, l, h1, h2, h3, h4⟩
    exact .inl ⟨i, o, l, hget i o l h1 h3, h2, h3, h4⟩
  refine ⟨⟨Ext.refl _, ⟨h.base, h.grow, fun i o l hi ha hl => h.obs i o l (hget i o l hi hl) ha hl, fun i j o u li lj hi ha hj hu hli hlj => h.inj i j o u li lj (hget i o li hi hli) ha (hget j u lj hj hlj) hu hli hlj, ?_, ?_, h.cold, h.os, h.out,
    h.gh.step (Ext.refl _) rfl rfl (Nat.le_refl _) hgh (fun _ _ => rfl) hown⟩, rfl, Nat.le_succ _, Nat.le_refl _, fun _ _ _ => rfl, own_of rfl hgh hown, ?_⟩, hn⟩
  · intro i o hi
    rw [Heap.get_push] at hi
    rw [Heap.next_push]
    split at hi
    · omega
    · exact Nat.lt_succ_of_lt (h.fresh i o hi)
  · intro i l hl; exact Nat.lt_succ_of_lt (h.dom i l hl)
  · intro i o hi hp
    have := h.fresh i o hi
    exact ⟨by rw [Heap.get_push, if_neg (by omega)]; exact hi, hp⟩
/-- now it is there -/
theorem Sim.born {π : Ren} {H : Heap} {w : World} (h : Sim π H w) {id : Nat} {ob : Ob} {x : Obj} {l : Loc} (hg : H.get id = some ob) (ha : alive ob = true) (hp : π id = none) (hb : l.blk = w.heap.size)
    (hc : OChk (Ren.put π id l) l (w.alloc x) ob) : Sim (Ren.put π id l) H (w.alloc x) ∧ Ext π (Ren.put π id l) ∧ (∀ b, b < w.heap.size → (w.alloc x).heap[b]? = w.heap[b]?) ∧ (∀ b, Owned (Ren.put π id l) H b → Owned π H b ∨ w.heap.size ≤ b) := by
  have e := Ren.ext_put (l := l) hp
  have hold : ∀ b, b < w.heap.size → (w.alloc x).heap[b]? = w.heap[b]? := fun b hlt => by
    show (w.heap.push x)[b]? = _
    simp [Array.getElem?_push, Nat.ne_of_lt hlt]
  have hown : ∀ b, OwnO H.get (Ren.put π id l) b → OwnO H.get π b ∨ w.heap.size ≤ b := by
    rintro b ⟨i, u, m, h1, h2, h3, h4⟩
    by_cases he : i = id
    · subst he
      rw [Ren.put_self] at h3
      obtain rfl := Option.some.inj h3
      exact .inr (by omega)
    · rw [Ren.put_ne he] at h3
      exact .inl ⟨i, u, m, h1, h2, h3, h4⟩
  refine ⟨⟨?_, ?_, ?_, ?_, h.fresh, ?_, h.cold.alloc fun c t r hw => hc.cold ha c t r (by rw [hb]; exact hw), h.os, h.out,
    h.gh.step e rfl rfl (by simp) (fun _ _ h => h) (fun b hb => hold b (by obtain ⟨i, g, h1, h2⟩ := hb; exact (h.gh.fpb i g b h1 h2).2)) hown⟩, e, hold, own_of rfl (fun _ _ h => h) hown⟩
  · intro b hlt; rw [hold b (Nat.lt_of_lt_of_le hlt h.grow)]; exact h.base b hlt
  · have := h.grow; simp only [World.size_alloc]; omega
  · intro i u m hi hu hm
    by_cases he : i = id
    · subst he
      rw [Ren.put_self] at hm
      obtain rfl := Option.some.inj hm
      rw [hg] at hi
      obtain rfl := Option.some.inj hi
      exact ⟨by rw [hb]; exact h.grow, hc⟩
    · rw [Ren.put_ne he] at hm
      obtain ⟨h2, h3⟩ := h.obs i u m hi hu hm
      exact ⟨h2, h3.keep e (hold _ (h.blk_lt hi hu hm))⟩
  · intro i j u v li lj hi hu hj hv hli hlj hbl
    by_cases h1 : i = id <;> by_cases h2 : j = id
    · omega
    · subst h1
      rw [Ren.put_self] at hli
      obtain rfl := Option.some.inj hli
      rw [Ren.put_ne h2] at hlj
      have := h.blk_lt hj hv hlj
      omega
    · subst h2
      rw [Ren.put_self] at hlj
      obtain rfl := Option.some.inj hlj
      rw [Ren.put_ne h1] at hli
      have := h.blk_lt hi hu hli
      omega
    · rw [Ren.put_ne h1] at hli
      rw [Ren.put_ne h2] at hlj
      exact h.inj i j u v li lj hi hu hj hv hli hlj hbl
  · intro i m hi
    by_cases he : i = id
    · subst he; exact h.fresh _ _ hg
    · rw [Ren.put_ne he] at hi; exact h.dom i m hi

/-! ### what lies ahead -/
theorem befs_fold_bit (acc : List Nat) (x : Nat) : ∀ (es : List Edge) (s : Nat), (es.foldl (fun s e => bif Region.binds .any e then s ||| 2 ^ e.on ||| acc.getD e.on 0 else s) s).testBit x = true →
    s.testBit x = true ∨ ∃ e ∈ es, Region.binds .any e = true ∧ (e.on = x ∨ (acc.getD e.on 0).testBit x = true)
  | [], s, h => .inl h
  | e :: es, s, h => by
    rw [List.foldl_cons] at h
    rcases befs_fold_bit acc x es _ h with h | ⟨e', he', h2⟩
    · cases hb : Region.binds .any e with
      | false => rw [hb] at h; exact .inl h
      | true =>
        rw [hb] at h
        simp only [cond_true, Nat.testBit_or, Bool.or_eq_true] at h
        rcases h with (h | h) | h
        · exact .inl h
        · refine .inr ⟨e, by simp, hb, .inl ?_⟩
          rw [Nat.testBit_two_pow] at h
          simpa using h
        · exact .inr ⟨e, by simp, hb, .inr h⟩
    · exact .inr ⟨e', by simp [he'], h2⟩
def befStep (acc : List Nat) (o : Oper) : List Nat := acc ++ [o.after.toList.foldl (fun s e => bif Region.binds .any e then s ||| 2 ^ e.on ||| acc.getD e.on 0 else s) 0]
theorem befs_eq (ops : List Oper) : befs ops = ops.foldl befStep [] := rfl
theorem befs_go : ∀ (l : List Oper) (acc : List Nat), (∃ r, l.foldl befStep acc = acc ++ r ∧ r.length = l.length) ∧
    ∀ (j : Nat) (o : Oper), l[j]? = some o → (l.foldl befStep acc).getD (acc.length + j) 0 = o.after.toList.foldl (fun s e => bif Region.binds .any e then s ||| 2 ^ e.on ||| (((l.foldl befStep acc).take (acc.length + j)).getD e.on 0) else s) 0
  | [], acc => ⟨⟨[], by simp, rfl⟩, fun j o h => by simp at h⟩
  | o :: l, acc => by
    obtain ⟨⟨r, hr, hlen⟩, hget⟩ := befs_go l (befStep acc o)
    have h1 : (befStep acc o) = acc ++ [o.after.toList.foldl (fun s e => bif Region.binds .any e then s ||| 2 ^ e.on ||| acc.getD e.on 0 else s) 0] := rfl
    have hl1 : (befStep acc o).length = acc.length + 1 := by rw [h1]; simp
    refine ⟨⟨o.after.toList.foldl (fun s e => bif Region.binds .any e then s ||| 2 ^ e.on ||| acc.getD e.on 0 else s) 0 :: r, ?_, by simp [hlen]⟩, ?_⟩
    · rw [List.foldl_cons, hr, h1]; simp
    · intro j u hj
      rw [List.foldl_cons]
      cases j with
      | zero =>
        simp at hj; subst hj
        rw [hr]
        have e1 : (befStep acc o ++ r).take (acc.length + 0) = acc := by rw [h1]; simp
        rw [e1]
        have e2 : (befStep acc o ++ r)[acc.length]? = some (o.after.toList.foldl (fun s e => bif Region.binds .any e then s ||| 2 ^ e.on ||| acc.getD e.on 0 else s) 0) := by
          rw [h1]; simp
        rw [List.getD_eq_getElem?_getD, Nat.add_zero, e2]; rfl
      | succ j =>
        have := hget j u (by simpa using hj)
        rw [hl1] at this
        rw [show acc.length + (j + 1) = acc.length + 1 + j by omega]
        exact this
theorem ahead_sound (ops : List Oper) (D : Nat → Prop) (hD : ∀ i o, D i → ops[i]? = some o → ∀ e ∈ o.after, Region.binds .any e = true → D e.on) : ∀ (j : Nat) (o : Oper) (x : Nat), ops[j]? = some o → (∀ e ∈ o.after, Region.binds .any e = true → D e.on) → ahead (befs ops) x j = true → D x := by
  intro j
  induction j using Nat.strongRecOn with
  | _ j ih =>
    intro o x ho he ha
    obtain ⟨⟨r, hr, hlen⟩, hget⟩ := befs_go ops []
    have hj := hget j o ho
    simp only [List.length_nil, Nat.zero_add] at hj
    unfold ahead at ha
    rw [befs_eq, hj] at ha
    rcases befs_fold_bit _ x _ _ ha with h | ⟨e, hm, hb, h⟩
    · simp at h
    · have hDe := he e (by simpa using hm) hb
      rcases h with rfl | h
      · exact hDe
      · have hlt : e.on < j := by
          rcases Nat.lt_or_ge e.on j with h2 | h2
          · exact h2
          · rw [List.getD_eq_getElem?_getD, List.getElem?_take, if_neg (by omega)] at h
            simp at h
        have h3 : ahead (befs ops) x e.on = true := by
          unfold ahead
          rw [befs_eq]
          rw [List.getD_eq_getElem?_getD, List.getElem?_take, if_pos hlt] at h
          rw [List.getD_eq_getElem?_getD]; exact h
        cases hoe : ops[e.on]? with
        | none =>
          exfalso
          unfold ahead at h3
          have : (befs ops).length = ops.length := by rw [befs_eq, hr]; simp [hlen]
          rw [List.getD_eq_getElem?_getD, List.getElem?_eq_none (by rw [this]; exact List.getElem?_eq_none_iff.1 hoe)] at h3
          simp at h3
        | some oe => exact ih e.on hlt oe x hoe (hD e.on oe hDe hoe) h3

/-! ### the environment behind some of what was gone through -/
def dstAt (ops : List Oper) (i : Nat) : Option Nat := match ops[i]? with
  | some o => o.dst
  | none => none
def envT (ops : List Oper) (D : Nat → Bool) (e : Env) : List (Nat × Value) → Env
  | [] => e
  | (i, v) :: tr => envT ops D (bif D i then upd e (dstAt ops i) v else e) tr
theorem envT_append (ops : List Oper) (D : Nat → Bool) : ∀ (a b : List (Nat × Value)) (e : Env), envT ops D e (a ++ b) = envT ops D (envT ops D e a) b
  | [], _, _ => rfl
  | (i, v) :: a, b, e => envT_append ops D a b _
theorem upd_at {e e' : Env} {d : Option Nat} {v : Value} {t : Nat} (h : e t = e' t) : upd e d v t = upd e' d v t := by
  cases d with
  | none => exact h
  | some d => simp only [upd]; cases Nat.beq t d <;> first | exact h | rfl
theorem envT_at (ops : List Oper) (D : Nat → Bool) (t : Nat) : ∀ (tr : List (Nat × Value)) (e e' : Env), e t = e' t → envT ops D e tr t = envT ops D e' tr t
  | [], _, _, h => h
  | (i, v) :: tr, e, e', h => envT_at ops D t tr _ _ (by cases D i <;> first | exact h | exact upd_at h)
theorem upd_other {e : Env} {d : Option Nat} {v : Value} {t : Nat} (h : d ≠ some t) : upd e d v t = e t := by
  cases d with
  | none => rfl
  | some d =>
    have : t ≠ d := fun he => h (by rw [he])
    simp only [upd, beqF this, cond_false]
theorem envT_idle (ops : List Oper) (D : Nat → Bool) (t : Nat) : ∀ (tr : List (Nat × Value)) (e : Env), (∀ p ∈ tr, D p.1 = true → dstAt ops p.1 ≠ some t) → envT ops D e tr t = e t
  | [], _, _ => rfl
  | (i, v) :: tr, e, h => by
    unfold envT
    rw [envT_idle ops D t tr _ fun p hp => h p (by simp [hp])]
    cases hd : D i with
    | false => rfl
    | true => exact upd_other (h (i, v) (by simp) hd)
theorem envT_all (ops : List Oper) (D : Nat → Bool) (t : Nat) : ∀ (tr : List (Nat × Value)) (e : Env), (∀ p ∈ tr, dstAt ops p.1 = some t → D p.1 = true) → envT ops D e tr t = envT ops (fun _ => true) e tr t
  | [], _, _ => rfl
  | (i, v) :: tr, e, h => by
    unfold envT
    rw [envT_all ops D t tr _ fun p hp => h p (by simp [hp])]
    refine envT_at _ _ _ _ _ _ ?_
    cases hd : D i with
    | true => rfl
    | false =>
      simp only [cond_false, cond_true]
      refine (upd_other fun he => ?_).symm
      have := h (i, v) (by simp) he
      rw [hd] at this; cases this
theorem envT_ext (ops : List Oper) {D D' : Nat → Bool} : ∀ (tr : List (Nat × Value)) (e : Env), (∀ p ∈ tr, D p.1 = D' p.1) → envT ops D e tr = envT ops D' e tr
  | [], _, _ => rfl
  | (i, v) :: tr, e, h => by
    unfold envT
    rw [h (i, v) (by simp), envT_ext ops tr _ fun p hp => h p (by simp [hp])]
end Go.Am
