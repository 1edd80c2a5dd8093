/- A function's answer, told over ghosts. -/
import Derived.Test.YtcagogdllnlihaaGreatAm25
set_option linter.all false
namespace Go.Am

/-- it is sure that a world has it -/
inductive Born (H : Heap) (vs : List Value) : Nat → Prop
  | ghost {j : Nat} {g : Gh} : H.get j = some (.ghost g) → Born H vs j
  | arg {j : Nat} : menL j vs = true → Born H vs j
  | ref {i j : Nat} {o : Ob} : Born H vs i → H.get i = some o → menO j o = true → Born H vs j
theorem Born.ok {π : Ren} {H : Heap} {w : World} (hs : Sim π H w) {vs vs' : List Value} (hv : VRels π vs vs') {j : Nat} (h : Born H vs j) : ∃ l, π j = some l := by
  induction h with
  | ghost h => obtain ⟨l, hl, _⟩ := hs.gh.has _ _ h; exact ⟨l, hl⟩
  | arg h => exact hv.men h
  | ref _ ho hm ih =>
    obtain ⟨l, hl⟩ := ih
    rename_i o _
    have ha : alive o = true := by cases o <;> first | rfl | (simp [menO] at hm)
    exact (hs.obs _ _ l ho ha hl).2.men hm

inductive Shuts (vs : List Value) : Heap → Heap → Prop
  | refl (H : Heap) : Shuts vs H H
  | step {H H1 : Heap} (r : Nat) (rest : List Nat) (g : Gh) (L : List Ob) (lay : Lay g L) (len : (r :: rest).length = L.length) (root : Born H vs r) (nd : (r :: rest).Nodup)
      (hat : ∀ k o, L[k]? = some o → solid o = true ∧ H.get (nth (r :: rest) H.next k) = some (rnO (nth (r :: rest) H.next) o))
      (reach : ∀ k o, 0 < k → L[k]? = some o → alive o = true → ∃ j u, j < k ∧ L[j]? = some u ∧ menO k u = true) (more : Shuts vs (H.shut r rest g) H1) : Shuts vs H H1
theorem Shuts.ok {vs vs' : List Value} {H H1 : Heap} (h : Shuts vs H H1) : ∀ {π : Ren} {w : World}, Sim π H w → VRels π vs vs' → ∃ π', After π H w π' H1 w ∧ π'.loc = π.loc := by
  induction h with
  | refl H => intro π w hs _; exact ⟨π, .refl hs, rfl⟩
  | step r rest g L lay len root nd hat reach more ih =>
    intro π w hs hv
    obtain ⟨π1, a1, e1⟩ := hs.shut lay len (root.ok hs hv) nd hat reach
    obtain ⟨π2, a2, e2⟩ := ih a1.sim (hv.mono a1.ext)
    exact ⟨π2, a1.trans a2, e2.trans e1⟩

/-- H' is what is told of H2, where H was -/
structure Few (H H2 H' : Heap) (vs : List Value) (τ : Nat → Nat) : Prop where
  base : H'.base = H.base
  next : H.next ≤ H'.next
  tlow : ∀ j, j < H.next → τ j = j
  tout : ∀ j, H'.next ≤ j → H2.next ≤ τ j
  tinj : ∀ j j', j < H'.next → j' < H'.next → τ j = τ j' → j = j'
  low : ∀ j, j < H.next → (H'.get j = H.get j ∧ H2.get j = H.get j) ∨ Born H vs j ∧ ∃ o, H'.get j = some o ∧ H2.get j = some (rnO τ o)
  hi : ∀ j, H.next ≤ j → j < H'.next → ∃ o, H'.get j = some o ∧ H2.get (τ j) = some (rnO τ o)
  out : ∀ j, H'.next ≤ j → H'.get j = none

/-- what was answered at last is what Q says -/
def Done (H : Heap) (args : List Value) (Q : Value → Heap → Prop) (v : Value) (H2 : Heap) : Prop :=
  ∃ H3 H' τ v1, Shuts (v :: args) H2 H3 ∧ Few H H3 H' args τ ∧ v = rn τ v1 ∧ Q v1 H'

theorem Done.ok {π : Ren} {H H2 : Heap} {w w1 : World} (hs : Sim π H w) {args args' : List Value} (hv : VRels π args args') {π2 : Ren} (a : After π H w π2 H2 w1) {v v' : Value} (hr : VRel π2 v v')
    {Q : Value → Heap → Prop} (h : Done H args Q v H2) : ∃ v1 H' π', Q v1 H' ∧ VRel π' v1 v' ∧ After π H w π' H' w1 := by
  obtain ⟨H3, H', τ, v1, h1, h2, rfl, h4⟩ := h
  obtain ⟨π3, a3, e3⟩ := h1.ok a.sim (.cons _ _ _ _ hr (hv.mono a.ext))
  obtain ⟨π', a4, h5⟩ := (a.trans a3).few hs τ h2.base h2.next h2.tlow h2.tout h2.tinj (fun j hj => (h2.low j hj).imp id fun ⟨x, y⟩ => ⟨x.ok hs hv, y⟩) h2.hi h2.out
  exact ⟨v1, H', π', h4, h5 _ _ (hr.mono a3.ext), a4⟩

def Fresh (H : Heap) : Prop := ∀ j, H.next ≤ j → H.get j = none
/-- the heap in which ghost i lies open -/
structure Opened (H : Heap) (i : Nat) (L : List Ob) (H1 : Heap) : Prop where
  base : H1.base = H.base
  next : H1.next = H.next + L.length
  lt : i < H.next
  at' : ∀ k o, L[k]? = some o → H1.get (sg i H.next k) = some (rnO (sg i H.next) o)
  old : ∀ j, j < H.next → j ≠ i → H1.get j = H.get j
  fresh : Fresh H1

section
variable {P : Program} (hfol : P.follows .mixedOrders = true) (hn : NamesOk P) {X : Exts} (hx : ∀ f m, X f = some m → ExtOk P f m) {A : Ann} {n : Nat} {f : FuncId} {m : List Value → M Value}
include hfol hn hx

/-- at most one ghost is opened -/
theorem ext_any (h : ∀ args k H Q E, Fresh H → (m args k H).Sat Q E → (func P X A n f args H).Sat (Done H args Q) (Done H args E) ∨ ∃ i g, H.get i = some (.ghost g) ∧ ∀ L H1, Lay g L → L ≠ [] → Opened H i L H1 →
    (func P X A n f args H1).Sat (Done H args Q) (Done H args E)) : ExtOk P f m := by
  intro k args args' π H w Q E hs hv hm
  have fr : ∀ {π H w}, Sim π H w → Fresh H := fun {π H w} hs j hj => by
    cases hg : H.get j with
    | none => rfl
    | some o => exact absurd (hs.fresh j o hg) (Nat.not_lt.2 hj)
  rcases h args k H Q E (fr hs) hm with h | ⟨i, g, hi, hrun⟩
  · have := func_ok hfol hn hx n 0 f args args' π H w _ _ hs hv h
    refine ⟨this.1, this.2.mono fun en w' hq => ?_⟩
    rcases hq with ⟨v, H2, v', π2, h1, rfl, h2, h3⟩ | ⟨v, H2, v', π2, h1, rfl, h2, h3⟩
    · obtain ⟨v1, H', π', g1, g2, g3⟩ := Done.ok hs hv h3 h2 h1
      exact .inl ⟨v1, H', v', π', g1, rfl, g2, g3⟩
    · obtain ⟨v1, H', π', g1, g2, g3⟩ := Done.ok hs hv h3 h2 h1
      exact .inr ⟨v1, H', v', π', g1, rfl, g2, g3⟩
  · obtain ⟨L, H1, π1, lay, a1, hnx, hne, hat, hold⟩ := hs.opn hi
    have := func_ok hfol hn hx n 0 f args args' π1 H1 w _ _ a1.sim (hv.mono a1.ext) (hrun L H1 lay hne ⟨a1.base, hnx, hs.fresh _ _ hi, hat, hold, fr a1.sim⟩)
    refine ⟨this.1, this.2.mono fun en w' hq => ?_⟩
    rcases hq with ⟨v, H2, v', π2, h1, rfl, h2, h3⟩ | ⟨v, H2, v', π2, h1, rfl, h2, h3⟩
    · obtain ⟨v1, H', π', g1, g2, g3⟩ := Done.ok hs hv (a1.trans h3) h2 h1
      exact .inl ⟨v1, H', v', π', g1, rfl, g2, g3⟩
    · obtain ⟨v1, H', π', g1, g2, g3⟩ := Done.ok hs hv (a1.trans h3) h2 h1
      exact .inr ⟨v1, H', v', π', g1, rfl, g2, g3⟩
end

/-! ### flat values: nothing of the heap is named -/
mutual
def flat : Value → Bool
  | .pointer (some a) => a.spot.isNone
  | .slice (some a) _ _ => a.spot.isNone
  | .map (some _) => false
  | .iface _ v => flat v
  | .agg cs => flatR cs
  | .tuple cs => flatR cs
  | .func _ xs ys => flatR xs && flatR ys
  | _ => true
def flatR : Array Value → Bool
  | ⟨l⟩ => flatL l
def flatL : List Value → Bool
  | [] => true
  | v :: vs => flat v && flatL vs
end
mutual
theorem rn_flat (σ : Nat → Nat) : ∀ {v : Value}, flat v = true → rn σ v = v
  | .pointer none, _ => by simp only [rn]
  | .pointer (some ⟨b, o, none⟩), _ => by simp only [rn, rnA]
  | .pointer (some ⟨b, o, some s⟩), h => by simp [flat] at h
  | .slice none _ _, _ => by simp only [rn]
  | .slice (some ⟨b, o, none⟩) _ _, _ => by simp only [rn, rnA]
  | .slice (some ⟨b, o, some s⟩) _ _, h => by simp [flat] at h
  | .map none, _ => by simp only [rn]
  | .map (some _), h => by simp [flat] at h
  | .iface t v, h => by simp only [flat] at h; simp only [rn, rn_flat σ h]
  | .agg ⟨l⟩, h => by simp only [flat, flatR] at h; simp only [rn, rnR, rnL_flat σ h]
  | .tuple ⟨l⟩, h => by simp only [flat, flatR] at h; simp only [rn, rnR, rnL_flat σ h]
  | .func f ⟨xs⟩ ⟨ys⟩, h => by simp only [flat, flatR, Bool.and_eq_true] at h; simp only [rn, rnR, rnL_flat σ h.1, rnL_flat σ h.2]
  | .bool _, _ => by simp only [rn]
  | .int _ _, _ => by simp only [rn]
  | .float _ _, _ => by simp only [rn]
  | .complex _ _ _, _ => by simp only [rn]
  | .string _, _ => by simp only [rn]
  | .chan _, _ => by simp only [rn]
  | .nilFunc, _ => by simp only [rn]
  | .nilIface, _ => by simp only [rn]
theorem rnL_flat (σ : Nat → Nat) : ∀ {l : List Value}, flatL l = true → rnL σ l = l
  | [], _ => by simp only [rnL]
  | v :: vs, h => by simp only [flatL, Bool.and_eq_true] at h; simp only [rnL, rn_flat σ h.1, rnL_flat σ h.2]
end
theorem flatL_append (a b : List Value) : flatL (a ++ b) = (flatL a && flatL b) := by
  induction a with
  | nil => simp [flatL]
  | cons x a ih => simp [flatL, ih, Bool.and_assoc]
theorem flatL_map {α : Type} (f : α → Value) (h : ∀ x, flat (f x) = true) (l : List α) : flatL (l.map f) = true := by
  induction l with
  | nil => simp [flatL]
  | cons x a ih => simp [flatL, ih, h]
theorem flatL_flatMap {α : Type} (f : α → List Value) (h : ∀ x, flatL (f x) = true) (l : List α) : flatL (l.flatMap f) = true := by
  induction l with
  | nil => simp [flatL]
  | cons x a ih => simp [flatL_append, ih, h]

/-! ### the common ends -/
/-- keeps the heap below n; what is above is nowhere -/
def lowT (n out : Nat) (j : Nat) : Nat := if j < n then j else out
/-- nothing has turned; the answer names nothing -/
theorem Done.same {H H2 : Heap} {args : List Value} {Q : Value → Heap → Prop} {v : Value} (hf : Fresh H) (hn : H.next ≤ H2.next) (hold : ∀ j, j < H.next → H2.get j = H.get j) (hv : flat v = true) (hq : Q v H) : Done H args Q v H2 := by
  refine ⟨H2, H, lowT H.next H2.next, v, .refl _, ⟨rfl, Nat.le_refl _, fun j h => if_pos h, fun j h => ?_, fun j j' h h' he => ?_, fun j h => .inl ⟨rfl, hold j h⟩, fun j h h' => absurd h' (Nat.not_lt.2 h), fun j h => hf j h⟩, (rn_flat _ hv).symm, hq⟩
  · unfold lowT; rw [if_neg (Nat.not_lt.2 h)]; exact Nat.le_refl _
  · unfold lowT at he; rw [if_pos h, if_pos h'] at he; exact he
/-- one ghost is shut again, as another one; the answer names nothing -/
theorem Done.upd {H H2 : Heap} {args : List Value} {Q : Value → Heap → Prop} {v : Value} (hf : Fresh H) {i : Nat} {g g' : Gh} (hi : H.get i = some (.ghost g)) (hn : H.next ≤ H2.next)
    {L : List Ob} {rest : List Nat} (lay : Lay g' L) (len : (i :: rest).length = L.length) (nd : (i :: rest).Nodup) (hrest : ∀ j, j ∈ rest → H.next ≤ j)
    (hat : ∀ k o, L[k]? = some o → solid o = true ∧ H2.get (nth (i :: rest) H2.next k) = some (rnO (nth (i :: rest) H2.next) o))
    (reach : ∀ k o, 0 < k → L[k]? = some o → alive o = true → ∃ j u, j < k ∧ L[j]? = some u ∧ menO k u = true)
    (hold : ∀ j, j < H.next → j ≠ i → H2.get j = H.get j) (born : Born H2 (v :: args) i) (hv : flat v = true) (hq : Q v (H.set i (.ghost g'))) : Done H args Q v H2 := by
  have hin : i < H.next := by
    rcases Nat.lt_or_ge i H.next with h | h
    · exact h
    · rw [hf i h] at hi; cases hi
  refine ⟨H2.shut i rest g', H.set i (.ghost g'), lowT H.next H2.next, v, .step i rest g' L lay len born nd hat reach (.refl _), ⟨rfl, Nat.le_refl _, fun j h => if_pos h, fun j h => ?_, fun j j' h h' he => ?_, fun j h => ?_, fun j h h' => absurd h' (Nat.not_lt.2 h), fun j h => ?_⟩, (rn_flat _ hv).symm, hq⟩
  · have h1 : H.next ≤ j := h
    show (H2.shut i rest g').next ≤ _
    rw [Heap.next_shut]; unfold lowT; rw [if_neg (Nat.not_lt.2 h1)]; exact Nat.le_refl _
  · have h1 : j < H.next := h
    have h2 : j' < H.next := h'
    unfold lowT at he; rw [if_pos h1, if_pos h2] at he; exact he
  · by_cases he : i = j
    · subst he
      exact .inr ⟨.ghost hi, .ghost g', by rw [Heap.get_set, if_pos rfl], by rw [Heap.get_shut, if_pos rfl]; rfl⟩
    · refine .inl ⟨by rw [Heap.get_set, if_neg he], ?_⟩
      rw [Heap.get_shut, if_neg he, if_neg fun hm => absurd (hrest j hm) (Nat.not_le.2 h)]
      exact hold j h (Ne.symm he)
  · rw [Heap.get_set, if_neg (by have h1 : H.next ≤ j := h; omega)]; exact hf j h
end Go.Am
