/- Ghosts are opened and shut; things are named anew. -/
import Derived.Test.YtcagogdllnlihaaGreatAm22
set_option linter.all false
namespace Go.Am

/-! ### names -/
def rnA (σ : Nat → Nat) (a : Addr) : Addr := match a.spot with
  | some s => ⟨σ a.block, a.off, some s⟩
  | none => a
mutual
def rn (σ : Nat → Nat) : Value → Value
  | .pointer (some a) => .pointer (some (rnA σ a))
  | .slice (some a) n m => .slice (some (rnA σ a)) n m
  | .map (some i) => .map (some (σ i))
  | .iface t v => .iface t (rn σ v)
  | .agg cs => .agg (rnR σ cs)
  | .tuple cs => .tuple (rnR σ cs)
  | .func f xs ys => .func f (rnR σ xs) (rnR σ ys)
  | v => v
def rnR (σ : Nat → Nat) : Array Value → Array Value
  | ⟨l⟩ => ⟨rnL σ l⟩
def rnL (σ : Nat → Nat) : List Value → List Value
  | [] => []
  | v :: vs => rn σ v :: rnL σ vs
end
theorem rnL_eq (σ : Nat → Nat) : ∀ l, rnL σ l = l.map (rn σ)
  | [] => by simp [rnL]
  | v :: vs => by simp [rnL, rnL_eq σ vs]
def rnE (σ : Nat → Nat) (e : MapEntry) : MapEntry := { e with val := rn σ e.val }
def rnO (σ : Nat → Nat) : Ob → Ob
  | .cells e c => .cells e (rnL σ c)
  | .map es c => .map (es.map (rnE σ)) c
  | .iter m s n t => .iter (m.map σ) s n t
  | .gone => .gone
  | .ghost g => .ghost g
theorem alive_rnO (σ : Nat → Nat) (o : Ob) : alive (rnO σ o) = alive o := by cases o <;> rfl

def Nm (π π2 : Ren) (σ : Nat → Nat) : Prop := ∀ i l, π i = some l → π2 (σ i) = some l
def Un (π π2 : Ren) (σ : Nat → Nat) : Prop := ∀ i l, π2 (σ i) = some l → π i = some l

mutual
theorem VRel.rn {π π2 : Ren} {σ : Nat → Nat} (h : Nm π π2 σ) : ∀ {v v' : Value}, VRel π v v' → VRel π2 (rn σ v) v'
  | _, _, .poison v => by simp only [poison, Am.rn]; exact .poison v
  | _, _, .bool b => by simp only [Am.rn]; exact .bool b
  | _, _, .int k n => by simp only [Am.rn]; exact .int k n
  | _, _, .string s => by simp only [Am.rn]; exact .string s
  | _, _, .nilFunc => by simp only [Am.rn]; exact .nilFunc
  | _, _, .nilIface => by simp only [Am.rn]; exact .nilIface
  | _, _, .nilPtr => by simp only [Am.rn]; exact .nilPtr
  | _, _, .nilSlice n m => by simp only [Am.rn]; exact .nilSlice n m
  | _, _, .nilMap => by simp only [Am.rn]; exact .nilMap
  | _, _, .ptrB b o => by simp only [Am.rn, rnA]; exact .ptrB b o
  | _, _, .ptrN i off l hl => by simp only [Am.rn, rnA]; exact .ptrN _ off l (h i l hl)
  | _, _, .slcB b o n m => by simp only [Am.rn, rnA]; exact .slcB b o n m
  | _, _, .slcN i off len tag cap' l hl ht => by simp only [Am.rn, rnA]; exact .slcN _ off len tag cap' l (h i l hl) ht
  | _, _, .slcE i off tag b o l hl => by simp only [Am.rn, rnA]; exact .slcE _ off tag b o l (h i l hl)
  | _, _, .mapN i l hl => by simp only [Am.rn]; exact .mapN _ l (h i l hl)
  | _, _, .func fn xs ys xs' ys' hx hy => by simp only [Am.rn, rnR]; exact .func fn _ _ xs' ys' (VRels.rn h hx) (VRels.rn h hy)
  | _, _, .iface t v v' hv => by simp only [Am.rn]; exact .iface t _ v' (VRel.rn h hv)
  | _, _, .agg xs xs' hx => by simp only [Am.rn, rnR]; exact .agg _ xs' (VRels.rn h hx)
  | _, _, .tuple xs xs' hx => by simp only [Am.rn, rnR]; exact .tuple _ xs' (VRels.rn h hx)
theorem VRels.rn {π π2 : Ren} {σ : Nat → Nat} (h : Nm π π2 σ) : ∀ {v v' : List Value}, VRels π v v' → VRels π2 (rnL σ v) v'
  | _, _, .nil => by simp only [rnL]; exact .nil
  | _, _, .cons v v' vs vs' hv hvs => by simp only [rnL]; exact .cons _ _ _ _ (VRel.rn h hv) (VRels.rn h hvs)
end

mutual
theorem VRel.un {π π2 : Ren} {σ : Nat → Nat} (h : Un π π2 σ) : ∀ {u v' : Value}, VRel π2 (Am.rn σ u) v' → VRel π u v'
  | .bool b, _, hv => by simp only [Am.rn] at hv; cases hv; exact .bool b
  | .int k n, _, hv => by simp only [Am.rn] at hv; cases hv; exact .int k n
  | .string s, _, hv => by simp only [Am.rn] at hv; cases hv; exact .string s
  | .nilFunc, _, hv => by simp only [Am.rn] at hv; cases hv; exact .nilFunc
  | .nilIface, _, hv => by simp only [Am.rn] at hv; cases hv; exact .nilIface
  | .pointer none, _, hv => by simp only [Am.rn] at hv; cases hv; exact .nilPtr
  | .pointer (some ⟨i, off, none⟩), _, hv => by simp only [Am.rn, rnA] at hv; cases hv; exact .ptrB i off
  | .pointer (some ⟨i, off, some s⟩), _, hv => by simp only [Am.rn, rnA] at hv; cases hv; rename_i l hl; exact .ptrN i off l (h i l hl)
  | .slice none n m, _, hv => by simp only [Am.rn] at hv; cases hv; exact .nilSlice n m
  | .slice (some ⟨i, off, none⟩) n m, _, hv => by simp only [Am.rn, rnA] at hv; cases hv; exact .slcB i off n m
  | .slice (some ⟨i, off, some s⟩) n m, _, hv => by
    simp only [Am.rn, rnA] at hv
    cases hv with
    | slcN _ _ _ _ cap' l hl ht => exact .slcN i off n m cap' l (h i l hl) ht
    | slcE _ _ _ b o l hl => exact .slcE i off m b o l (h i l hl)
  | .map none, _, hv => by simp only [Am.rn] at hv; cases hv; exact .nilMap
  | .map (some i), _, hv => by simp only [Am.rn] at hv; cases hv; rename_i l hl; exact .mapN i l (h i l hl)
  | .iface t v, _, hv => by simp only [Am.rn] at hv; cases hv; rename_i v' hv; exact .iface t v v' (VRel.un h hv)
  | .agg ⟨xs⟩, _, hv => by simp only [Am.rn, rnR] at hv; cases hv; rename_i xs' hv; exact .agg xs xs' (VRels.un h hv)
  | .tuple ⟨xs⟩, _, hv => by simp only [Am.rn, rnR] at hv; cases hv; rename_i xs' hv; exact .tuple xs xs' (VRels.un h hv)
  | .func f ⟨xs⟩ ⟨ys⟩, _, hv => by simp only [Am.rn, rnR] at hv; cases hv; rename_i xs' ys' hx hy; exact .func f xs ys xs' ys' (VRels.un h hx) (VRels.un h hy)
  | .chan c, _, hv => by simp only [Am.rn] at hv; cases hv; exact .poison _
  | .float k b, _, hv => by simp only [Am.rn] at hv; cases hv
  | .complex k a b, _, hv => by simp only [Am.rn] at hv; cases hv
theorem VRels.un {π π2 : Ren} {σ : Nat → Nat} (h : Un π π2 σ) : ∀ {u v' : List Value}, VRels π2 (rnL σ u) v' → VRels π u v'
  | [], _, hv => by simp only [rnL] at hv; cases hv; exact .nil
  | u :: us, _, hv => by simp only [rnL] at hv; cases hv; rename_i v' vs' hv hvs; exact .cons u v' us vs' (VRel.un h hv) (VRels.un h hvs)
end

mutual
/-- what an elder naming knows is the same in a later one -/
theorem VRel.back {π π2 : Ren} (e : Ext π π2) : ∀ {v u v' : Value}, VRel π v u → VRel π2 v v' → VRel π v v'
  | _, _, _, .poison v, _ => .poison _
  | _, _, _, .bool b, hv => by cases hv; exact .bool b
  | _, _, _, .int k n, hv => by cases hv; exact .int k n
  | _, _, _, .string s, hv => by cases hv; exact .string s
  | _, _, _, .nilFunc, hv => by cases hv; exact .nilFunc
  | _, _, _, .nilIface, hv => by cases hv; exact .nilIface
  | _, _, _, .nilPtr, hv => by cases hv; exact .nilPtr
  | _, _, _, .nilSlice n m, hv => by cases hv; exact .nilSlice n m
  | _, _, _, .nilMap, hv => by cases hv; exact .nilMap
  | _, _, _, .ptrB b o, hv => by cases hv; exact .ptrB b o
  | _, _, _, .ptrN i off l hl, hv => by
    cases hv; rename_i l' hl'
    have := e i l hl; rw [hl'] at this; obtain rfl := Option.some.inj this
    exact .ptrN i off _ hl
  | _, _, _, .slcB b o n m, hv => by cases hv; exact .slcB b o n m
  | _, _, _, .slcN i off len tag cap' l hl ht, hv => by
    cases hv with
    | slcN _ _ _ _ c2 l' hl' ht' =>
      have := e i l hl; rw [hl'] at this; obtain rfl := Option.some.inj this
      exact .slcN i off len tag c2 _ hl ht'
    | slcE _ _ _ b o l' hl' =>
      exact .slcE i off tag b o l hl
  | _, _, _, .slcE i off tag b o l hl, hv => by
    cases hv with
    | slcN _ _ _ _ c2 l' hl' ht' =>
      have := e i l hl; rw [hl'] at this; obtain rfl := Option.some.inj this
      exact .slcN i off 0 tag c2 _ hl ht'
    | slcE _ _ _ b2 o2 l' hl' => exact .slcE i off tag b2 o2 l hl
  | _, _, _, .mapN i l hl, hv => by
    cases hv; rename_i l' hl'
    have := e i l hl; rw [hl'] at this; obtain rfl := Option.some.inj this
    exact .mapN i _ hl
  | _, _, _, .func fn xs ys xs' ys' hx hy, hv => by cases hv; rename_i a b ha hb; exact .func fn xs ys a b (VRels.back e hx ha) (VRels.back e hy hb)
  | _, _, _, .iface t v v' h, hv => by cases hv; rename_i a ha; exact .iface t v a (VRel.back e h ha)
  | _, _, _, .agg xs xs' h, hv => by cases hv; rename_i a ha; exact .agg xs a (VRels.back e h ha)
  | _, _, _, .tuple xs xs' h, hv => by cases hv; rename_i a ha; exact .tuple xs a (VRels.back e h ha)
theorem VRels.back {π π2 : Ren} (e : Ext π π2) : ∀ {v u v' : List Value}, VRels π v u → VRels π2 v v' → VRels π v v'
  | _, _, _, .nil, hv => by cases hv; exact .nil
  | _, _, _, .cons v v' vs vs' h hs, hv => by cases hv; rename_i a b ha hb; exact .cons v a vs b (VRel.back e h ha) (VRels.back e hs hb)
end

/-! ### who is named -/
mutual
def men (k : Nat) : Value → Bool
  | .pointer (some ⟨i, _, some _⟩) => Nat.beq i k
  | .slice (some ⟨i, _, some _⟩) _ _ => Nat.beq i k
  | .map (some i) => Nat.beq i k
  | .iface _ v => men k v
  | .agg cs => menR k cs
  | .tuple cs => menR k cs
  | _ => false
def menR (k : Nat) : Array Value → Bool
  | ⟨l⟩ => menL k l
def menL (k : Nat) : List Value → Bool
  | [] => false
  | v :: vs => men k v || menL k vs
end
mutual
theorem VRel.men {π : Ren} {k : Nat} : ∀ {v v' : Value}, VRel π v v' → men k v = true → ∃ l, π k = some l
  | _, _, .ptrN i off l hl, h => by simp only [Am.men] at h; rw [← Nat.eq_of_beq_eq_true h]; exact ⟨l, hl⟩
  | _, _, .slcN i off len tag cap' l hl ht, h => by simp only [Am.men] at h; rw [← Nat.eq_of_beq_eq_true h]; exact ⟨l, hl⟩
  | _, _, .slcE i off tag b o l hl, h => by simp only [Am.men] at h; rw [← Nat.eq_of_beq_eq_true h]; exact ⟨l, hl⟩
  | _, _, .mapN i l hl, h => by simp only [Am.men] at h; rw [← Nat.eq_of_beq_eq_true h]; exact ⟨l, hl⟩
  | _, _, .iface t v v' hv, h => by simp only [Am.men] at h; exact VRel.men hv h
  | _, _, .agg xs xs' hv, h => by simp only [Am.men, menR] at h; exact VRels.men hv h
  | _, _, .tuple xs xs' hv, h => by simp only [Am.men, menR] at h; exact VRels.men hv h
  | _, _, .poison v, h => by simp [poison, Am.men] at h
  | _, _, .bool b, h => by simp [Am.men] at h
  | _, _, .int k n, h => by simp [Am.men] at h
  | _, _, .string s, h => by simp [Am.men] at h
  | _, _, .nilFunc, h => by simp [Am.men] at h
  | _, _, .nilIface, h => by simp [Am.men] at h
  | _, _, .nilPtr, h => by simp [Am.men] at h
  | _, _, .nilSlice n m, h => by simp [Am.men] at h
  | _, _, .nilMap, h => by simp [Am.men] at h
  | _, _, .ptrB b o, h => by simp [Am.men] at h
  | _, _, .slcB b o n m, h => by simp [Am.men] at h
  | _, _, .func .., h => by simp [Am.men] at h
theorem VRels.men {π : Ren} {k : Nat} : ∀ {v v' : List Value}, VRels π v v' → menL k v = true → ∃ l, π k = some l
  | _, _, .nil, h => by simp [menL] at h
  | _, _, .cons v v' vs vs' hv hs, h => by
    simp only [menL, Bool.or_eq_true] at h
    rcases h with h | h
    · exact VRel.men hv h
    · exact VRels.men hs h
end
def menO (k : Nat) : Ob → Bool
  | .cells _ c => menL k c
  | .map es _ => es.any fun e => men k e.val
  | .iter (some m) _ _ _ => Nat.beq m k
  | _ => false
theorem VRels.nth {π : Ren} {vs vs' : List Value} (h : VRels π vs vs') : vs.length = vs'.length := h.length
theorem menL_iff {k : Nat} : ∀ {l : List Value}, menL k l = true ↔ ∃ v ∈ l, men k v = true
  | [] => by simp [menL]
  | v :: vs => by simp [menL, menL_iff (l := vs)]
theorem OChk.men {π : Ren} {l : Loc} {w : World} {k : Nat} : ∀ {o : Ob}, OChk π l w o → menO k o = true → ∃ l', π k = some l'
  | .cells e c, h, hm => by
    obtain ⟨v, hv, hk⟩ := menL_iff.1 hm
    obtain ⟨c', _, _, _, h4⟩ := h.blk
    obtain ⟨n, hn⟩ := List.mem_iff_getElem?.1 hv
    obtain ⟨v', _, hr⟩ := h4 n v hn
    exact hr.men hk
  | .map es c, ⟨es', _, h2⟩, hm => by
    simp only [menO] at hm
    generalize es'.toList = m at h2
    induction h2 with
    | nil => simp at hm
    | cons e e' es es' h hs ih =>
      simp only [List.any_cons, Bool.or_eq_true] at hm
      rcases hm with hm | hm
      · exact h.val.men hm
      · exact ih hm
  | .iter none s n t, h, hm => by simp [menO] at hm
  | .iter (some m) s n t, ⟨⟨lm, h1, _⟩, _⟩, hm => by simp only [menO] at hm; rw [← Nat.eq_of_beq_eq_true hm]; exact ⟨lm, h1⟩
  | .gone, _, hm => by simp [menO] at hm
  | .ghost g, _, hm => by simp [menO] at hm

/-! ### things named anew -/
theorem EsRel.rn {π π2 : Ren} {σ : Nat → Nat} (h : Nm π π2 σ) : ∀ {es es' : List MapEntry}, EsRel π es es' → EsRel π2 (es.map (rnE σ)) es'
  | _, _, .nil => .nil
  | _, _, .cons e e' es es' he hs => .cons _ _ _ _ ⟨he.key, he.val.rn h, he.born, he.ik⟩ (EsRel.rn h hs)
theorem EsRel.un {π π2 : Ren} {σ : Nat → Nat} (h : Un π π2 σ) : ∀ {es es' : List MapEntry}, EsRel π2 (es.map (rnE σ)) es' → EsRel π es es'
  | [], _, hs => by cases hs; exact .nil
  | e :: es, _, hs => by cases hs; rename_i e' es' he hs; exact .cons _ _ _ _ ⟨he.key, he.val.un h, he.born, he.ik⟩ (EsRel.un h hs)
theorem rnL_get? (σ : Nat → Nat) (l : List Value) (k : Nat) : (rnL σ l)[k]? = (l[k]?).map (rn σ) := by rw [rnL_eq, List.getElem?_map]
theorem OChk.rn {π π2 : Ren} {σ : Nat → Nat} (h : Nm π π2 σ) {l : Loc} {w : World} : ∀ {o : Ob}, OChk π l w o → OChk π2 l w (rnO σ o)
  | .cells e c, ho => by
    obtain ⟨c', h1, h2, h3, h4⟩ := ho.blk
    refine ⟨c', h1, h2, by simpa [rnL_eq] using h3, fun k v hk => ?_⟩
    rw [rnL_get?, Option.map_eq_some_iff] at hk
    obtain ⟨u, hu, rfl⟩ := hk
    obtain ⟨v', a, b⟩ := h4 k u hu
    exact ⟨v', a, b.rn h⟩
  | .map es c, ⟨es', h1, h2⟩ => ⟨es', h1, h2.rn h⟩
  | .iter none s n t, ho => ho
  | .iter (some m) s n t, ⟨⟨lm, h1, h2⟩, h3⟩ => ⟨⟨lm, h m lm h1, h2⟩, h3⟩
  | .gone, _ => trivial
  | .ghost g, _ => trivial
theorem OChk.un {π π2 : Ren} {σ : Nat → Nat} (h : Un π π2 σ) {l : Loc} {w : World} : ∀ {o : Ob}, OChk π2 l w (rnO σ o) → OChk π l w o
  | .cells e c, ho => by
    obtain ⟨c', h1, h2, h3, h4⟩ := ho.blk
    refine ⟨c', h1, h2, by simpa [rnL_eq] using h3, fun k v hk => ?_⟩
    obtain ⟨v', a, b⟩ := h4 k (Am.rn σ v) (by rw [rnL_get?, hk]; rfl)
    exact ⟨v', a, b.un h⟩
  | .map es c, ⟨es', h1, h2⟩ => ⟨es', h1, h2.un h⟩
  | .iter none s n t, ho => ho
  | .iter (some m) s n t, ⟨⟨lm, h1, h2⟩, h3⟩ => ⟨⟨lm, h m lm h1, h2⟩, h3⟩
  | .gone, _ => trivial
  | .ghost g, _ => trivial
theorem EsRel.back {π π2 : Ren} (e : Ext π π2) : ∀ {es us es' : List MapEntry}, EsRel π es us → EsRel π2 es es' → EsRel π es es'
  | _, _, _, .nil, h => by cases h; exact .nil
  | _, _, _, .cons a u as us ha has, h => by
    cases h; rename_i a' as' h1 h2
    exact .cons _ _ _ _ ⟨h1.key, VRel.back e ha.val h1.val, h1.born, h1.ik⟩ (EsRel.back e has h2)
theorem OChk.back {π π2 : Ren} (e : Ext π π2) {l : Loc} {w w' : World} : ∀ {o : Ob}, OChk π l w o → OChk π2 l w' o → OChk π l w' o
  | .cells t c, hu, ho => by
    obtain ⟨c', h1, h2, h3, h4⟩ := ho.blk
    obtain ⟨d', _, _, _, g4⟩ := hu.blk
    refine ⟨c', h1, h2, h3, fun k v hk => ?_⟩
    obtain ⟨v', a, b⟩ := h4 k v hk
    obtain ⟨u', _, c⟩ := g4 k v hk
    exact ⟨v', a, VRel.back e c b⟩
  | .map es c, ⟨us, _, hu⟩, ⟨es', h1, h2⟩ => ⟨es', h1, hu.back e h2⟩
  | .iter none s n t, _, ho => ho
  | .iter (some m) s n t, ⟨⟨lu, g1, _⟩, _⟩, ⟨⟨lm, h1, h2⟩, h3⟩ => by
    have := e m lu g1; rw [h1] at this; obtain rfl := Option.some.inj this
    exact ⟨⟨_, g1, h2⟩, h3⟩
  | .gone, _, _ => trivial
  | .ghost g, _, _ => trivial
end Go.Am
