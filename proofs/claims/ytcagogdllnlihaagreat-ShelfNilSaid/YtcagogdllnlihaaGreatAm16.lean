/- Regions that draw their order, 2: whatever order is drawn. -/
import Derived.Test.YtcagogdllnlihaaGreatAm15
set_option linter.all false
namespace Go.Am

section
variable {P : Program} {call : CallF} {k : Nat}

/-- what was gone through abstractly and not yet in the world -/
inductive Late (P : Program) (call : CallF) (k : Nat) (ops : List Oper) (who : Nat → Nat) (n0 : Nat) (reads : List Read) (π : Ren) (H : Heap) (i : Nat) (o : Oper) (e : Env) (v : Value) : Prop
  | still (h : mOf P call ops e o = M.pure v)
  | read (h : mOf P call ops e o k H = .ok v H) (hk : kindOf o = .read) (hm : (i, mOf P call ops e o, v) ∈ reads)
  | make (Hx : Heap) (ob : Ob) (h : mOf P call ops e o k Hx = .ok v (Hx.push ob)) (hk : kindOf o = .make) (hw : who Hx.next = i) (hn : n0 ≤ Hx.next) (hg : H.get Hx.next = some ob) (hp : π Hx.next = none)

theorem wpOp_make {π : Ren} {H Hx : Heap} {w : World} (hs : Sim π H w) {e : Env} {a : Act} (he : EnvRel π e a) {ops : Array Oper} {i : Nat} {o : Oper} (hi : ops[i]? = some o) (ho : operandsOk o = true) (hk : kindOf o = .make)
    {v : Value} {ob : Ob} (hm : mOf P call ops.toList e o k Hx = .ok v (Hx.push ob)) (hg : H.get Hx.next = some ob) (hp : π Hx.next = none) {K : Act → World → Prop} {Qc : Exit → Act → World → Prop}
    (hK : ∀ v' l x, VRel (Ren.put π Hx.next l) v v' → Sim (Ren.put π Hx.next l) H (w.alloc x) → Ext π (Ren.put π Hx.next l) → (∀ b, b < w.heap.size → (w.alloc x).heap[b]? = w.heap[b]?) →
      (∀ b, Owned (Ren.put π Hx.next l) H b → Owned π H b ∨ w.heap.size ≤ b) → K (a.put o.dst v') (w.alloc x)) : wpOp P ops Qc i K a w := by
  have run : evalOp P call e o k Hx = .ok v (Hx.push ob) → o.wp P a w K Qc := by
    intro hq
    obtain ⟨s, hmk, hrun⟩ := make_ok (P := P) he (call := call) ho hk
    rcases hmk with hf | ⟨ob', mv, x, mv', csz, hal, h1, h2⟩
    · rw [hf] at hq; cases hq
    · rw [h1] at hq
      simp only [Out.ok.injEq] at hq
      obtain ⟨rfl, hpu⟩ := hq
      obtain rfl := push_inj hpu
      obtain ⟨h3, h4⟩ := h2 w
      obtain ⟨h5, h6⟩ := h4 Hx.next (Ren.put π Hx.next ⟨w.heap.size, 0, csz⟩) (Ren.ext_put hp) (Ren.put_self _ _ _)
      obtain ⟨g1, g2, g3, g4⟩ := hs.born hg hal hp rfl h5
      unfold Oper.wp
      rw [hrun w _ _ h3]
      exact hK _ _ _ h6 g1 g2 g3 g4
  unfold wpOp
  simp only [hi]
  unfold mOf at hm
  cases hgd : o.guard with
  | none =>
    rw [hgd] at hm
    have : Region.wanted o (yielded ops a.tmps) = true := by simp [Region.wanted, hgd]
    rw [if_pos this]
    exact .inl (run hm)
  | some jw =>
    obtain ⟨j, want⟩ := jw
    rw [hgd] at hm
    obtain ⟨g1, g2⟩ := gv_spec he ops j
    simp only at hm
    generalize gv ops.toList e j = gval at hm g1 g2
    unfold guardM at hm
    split at hm
    · rename_i b
      have hy := g1 b rfl
      cases hbw : b == want with
      | true =>
        simp only [hbw, cond_true] at hm
        have : Region.wanted o (yielded ops a.tmps) = true := by simp [Region.wanted, hgd, hy]; simpa using hbw
        rw [if_pos this]
        exact .inl (run hm)
      | false =>
        simp only [hbw, cond_false, M.pure, Out.ok.injEq] at hm
        exact absurd hm.2 push_ne
    · simp only [M.pure, Out.ok.injEq] at hm
      exact absurd hm.2 push_ne
    · cases hm

/-! ### what drawOk says -/
theorem edgesOk_spec {ops : List Oper} (h : edgesOk ops = true) {i : Nat} {o : Oper} (hi : ops[i]? = some o) : ∀ e ∈ o.after, Region.binds .any e = true → e.on < i := by
  intro e he hb
  unfold edgesOk at h
  have := (List.all_eq_true.1 h) (o, i) (List.mem_zipIdx_iff_getElem?.2 hi)
  simp only at this
  have := (List.all_eq_true.1 this) e (by simpa using he)
  simp only [hb, Bool.not_true, Bool.false_or] at this
  exact Nat.le_of_ble_eq_true this
theorem ordOk_split {ops : List Oper} {bs : List Nat} : ∀ {t1 t2 : List Nat} {i : Nat}, ordOk ops bs (t1 ++ i :: t2) = true →
    (∀ j ∈ t2, ahead bs i j = true ∨ (isAct ops i = false ∧ clash ops i j = false)) ∧ i ∉ t2 ∧ (∀ j ∈ t1, (ahead bs j i = true ∨ (isAct ops j = false ∧ clash ops j i = false)) ∧ j ≠ i)
  | [], t2, i, h => by
    simp only [List.nil_append, ordOk, Bool.and_eq_true, List.all_eq_true, Bool.or_eq_true, Bool.not_eq_true'] at h
    exact ⟨fun j hj => h.1.1 j hj, by simpa using h.1.2, fun j hj => by simp at hj⟩
  | x :: t1, t2, i, h => by
    simp only [List.cons_append, ordOk, Bool.and_eq_true, List.all_eq_true, Bool.or_eq_true, Bool.not_eq_true'] at h
    obtain ⟨h1, h2, h3⟩ := ordOk_split (t1 := t1) h.2
    refine ⟨h1, h2, fun j hj => ?_⟩
    rcases List.mem_cons.1 hj with rfl | hj
    · refine ⟨h.1.1 i (by simp), fun he => ?_⟩
      have := h.1.2
      simp [he] at this
    · exact h3 j hj
theorem nodup_le : ∀ (n : Nat) (l : List Nat), l.Nodup → (∀ x ∈ l, x < n) → l.length ≤ n
  | 0, l, _, h => by
    cases l with
    | nil => exact Nat.le_refl _
    | cons x l => exact absurd (h x (by simp)) (Nat.not_lt_zero _)
  | n + 1, l, hd, h => by
    have h1 := nodup_le n (l.erase n) (hd.erase n) fun x hx => by
      rw [hd.mem_erase_iff] at hx
      have := h x hx.2
      omega
    have h2 : l.length ≤ (l.erase n).length + 1 := by
      rw [List.length_erase]; split <;> omega
    omega
theorem ordOk_nodup {ops : List Oper} {bs : List Nat} : ∀ {l : List Nat}, ordOk ops bs l = true → l.Nodup
  | [], _ => List.nodup_nil
  | x :: l, h => by
    simp only [ordOk, Bool.and_eq_true, Bool.not_eq_true'] at h
    exact List.nodup_cons.2 ⟨by simpa using h.1.2, ordOk_nodup h.2⟩
theorem drawOk_mem {ops : List Oper} {bs ord : List Nat} (h : drawOk ops bs ord = true) {i : Nat} (hi : i < ops.length) : i ∈ ord := by
  unfold drawOk at h
  simp only [Bool.and_eq_true, List.all_eq_true] at h
  obtain ⟨⟨⟨_, hl⟩, hlt⟩, ho⟩ := h
  have hl := Nat.eq_of_beq_eq_true hl
  by_cases hm : i ∈ ord
  · exact hm
  · have := nodup_le ops.length (i :: ord) (List.nodup_cons.2 ⟨hm, ordOk_nodup ho⟩) (fun x hx => by
      rcases List.mem_cons.1 hx with rfl | hx
      · exact hi
      · exact Nat.le_of_ble_eq_true (hlt x hx))
    simp at this
    omega

theorem clash_spec {ops : List Oper} {i j : Nat} {a b : Oper} (hi : ops[i]? = some a) (hj : ops[j]? = some b) (h : clash ops i j = false) :
    (∀ d, a.dst = some d → d ∉ names ops b) ∧ (∀ d, b.dst = some d → d ∉ names ops a) := by
  unfold clash at h
  rw [hi, hj] at h
  simp only [Bool.or_eq_false_iff] at h
  refine ⟨fun d hd hm => ?_, fun d hd hm => ?_⟩
  · have := h.1; rw [hd] at this; simp at this; exact this hm
  · have := h.2; rw [hd] at this; simp at this; exact this hm
theorem dst_mem_names {ops : List Oper} {o : Oper} {d : Nat} (h : o.dst = some d) : d ∈ names ops o := by
  unfold names; simp [h]
theorem dstAt_of {ops : List Oper} {i : Nat} {o : Oper} (h : ops[i]? = some o) : dstAt ops i = o.dst := by unfold dstAt; rw [h]
end
end Go.Am
