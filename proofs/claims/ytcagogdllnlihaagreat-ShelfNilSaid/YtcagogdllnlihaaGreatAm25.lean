/- Ghosts are shut; a heap is told anew with fewer things. -/
import Derived.Test.YtcagogdllnlihaaGreatAm24
set_option linter.all false
namespace Go.Am

/-! ### shutting -/
def goneAll : List Nat → Heap → Heap
  | [], H => H
  | i :: is, H => goneAll is (H.set i .gone)
theorem goneAll_base : ∀ (L : List Nat) (H : Heap), (goneAll L H).base = H.base
  | [], _ => rfl
  | i :: is, H => by rw [goneAll, goneAll_base]; rfl
theorem goneAll_next : ∀ (L : List Nat) (H : Heap), (goneAll L H).next = H.next
  | [], _ => rfl
  | i :: is, H => by rw [goneAll, goneAll_next]; rfl
theorem goneAll_get : ∀ (L : List Nat) (H : Heap) (j : Nat), (goneAll L H).get j = if j ∈ L then some .gone else H.get j
  | [], _, _ => by simp [goneAll]
  | i :: is, H, j => by
    rw [goneAll, goneAll_get is, Heap.get_set]
    by_cases h1 : j ∈ is
    · simp [h1]
    · by_cases h2 : i = j
      · subst h2; simp
      · simp [h1, h2, Ne.symm h2]
/-- the heap in which the things ids are one ghost, at the first of them -/
def Heap.shut (H : Heap) (r : Nat) (rest : List Nat) (g : Gh) : Heap := (goneAll rest H).set r (.ghost g)
theorem Heap.get_shut (H : Heap) (r : Nat) (rest : List Nat) (g : Gh) (j : Nat) :
    (H.shut r rest g).get j = if r = j then some (.ghost g) else if j ∈ rest then some .gone else H.get j := by
  unfold Heap.shut; rw [Heap.get_set, goneAll_get]
@[simp] theorem Heap.next_shut (H : Heap) (r : Nat) (rest : List Nat) (g : Gh) : (H.shut r rest g).next = H.next := goneAll_next rest H
@[simp] theorem Heap.base_shut (H : Heap) (r : Nat) (rest : List Nat) (g : Gh) : (H.shut r rest g).base = H.base := goneAll_base rest H

/-- the number of the k-th thing -/
def nth (ids : List Nat) (n : Nat) (k : Nat) : Nat := ids.getD k n
def solid : Ob → Bool
  | .gone => false
  | _ => true
theorem nth_lt {ids : List Nat} {n k : Nat} (h : k < ids.length) : nth ids n k = ids[k] := by simp [nth, List.getD_eq_getElem?_getD, h]
theorem nth_ge {ids : List Nat} {n k : Nat} (h : ids.length ≤ k) : nth ids n k = n := by simp [nth, List.getD_eq_getElem?_getD, h]
theorem nodup_get {ids : List Nat} (h : ids.Nodup) {a b : Nat} (ha : a < ids.length) (hb : b < ids.length) (he : ids[a] = ids[b]) : a = b :=
  by
    rcases Nat.lt_trichotomy a b with hl | hl | hl
    · exact absurd he (List.pairwise_iff_getElem.1 h a b ha hb hl)
    · exact hl
    · exact absurd he.symm (List.pairwise_iff_getElem.1 h b a hb ha hl)

theorem Sim.shut {π : Ren} {H : Heap} {w : World} (hs : Sim π H w) {r : Nat} {rest : List Nat} {g : Gh} {L : List Ob} (lay : Lay g L) (hlen : (r :: rest).length = L.length) (hroot : ∃ l, π r = some l)
    (nd : (r :: rest).Nodup) (hat : ∀ k o, L[k]? = some o → solid o = true ∧ H.get (nth (r :: rest) H.next k) = some (rnO (nth (r :: rest) H.next) o))
    (reach : ∀ k o, 0 < k → L[k]? = some o → alive o = true → ∃ j u, j < k ∧ L[j]? = some u ∧ menO k u = true) :
    ∃ π', After π H w π' (H.shut r rest g) w ∧ π'.loc = π.loc := by
  let ids := r :: rest
  let σ := nth ids H.next
  have lt_len : ∀ {k : Nat} {o1 : Ob}, L[k]? = some o1 → k < L.length := fun h => (List.getElem?_eq_some_iff.1 h).1
  have σlt : ∀ k, (h : k < L.length) → σ k = ids[k]'(by rw [hlen]; exact h) := fun k h => nth_lt (by rw [hlen]; exact h)
  have σ0 : σ 0 = r := rfl
  have hnone : π H.next = none := by
    cases hp : π H.next with
    | none => rfl
    | some m => exact absurd (hs.dom _ _ hp) (Nat.lt_irrefl _)
  have σdom : ∀ k l, π (σ k) = some l → k < L.length := fun k l h => by
    rcases Nat.lt_or_ge k L.length with h1 | h1
    · exact h1
    · have : σ k = H.next := nth_ge (by rw [hlen]; exact h1)
      rw [this, hnone] at h; cases h
  have σinj : ∀ a b, a < L.length → b < L.length → σ a = σ b → a = b := fun a b ha hb he => by
    rw [σlt a ha, σlt b hb] at he
    exact nodup_get nd _ _ he
  let π1 : Ren := ⟨fun k => π (σ k), fun k => π.fp (σ k)⟩
  have un : Un π1 π σ := fun _ _ h => h
  -- all are there
  have born : ∀ k o, L[k]? = some o → ∃ l, π (σ k) = some l := by
    intro k
    induction k using Nat.strongRecOn with
    | _ k ih =>
      intro o ho
      by_cases hk : k = 0
      · subst hk; exact hroot
      · obtain ⟨h1, h2⟩ := hat k o ho
        cases ha : alive o with
        | false =>
          cases o <;> first | (cases ha; done) | (cases h1; done) | skip
          obtain ⟨l, hl, _⟩ := hs.gh.has _ _ h2
          exact ⟨l, hl⟩
        | true =>
          obtain ⟨j, u, hj, hu, hm⟩ := reach k o (by omega) ho ha
          obtain ⟨l, hl⟩ := ih j hj u hu
          have hau : alive u = true := by cases u <;> first | rfl | (simp [menO] at hm)
          obtain ⟨_, h3⟩ := hs.obs _ _ l (hat j u hu).2 (by rw [alive_rnO]; exact hau) hl
          exact (OChk.un un h3).men hm
  let lf : Nat → Loc := fun k => (π (σ k)).getD ⟨0, 0, 0⟩
  have born2 : ∀ k o, L[k]? = some o → π1 k = some (lf k) := fun k o h => by
    obtain ⟨l, hl⟩ := born k o h
    show π (σ k) = some ((π (σ k)).getD _)
    rw [hl]; rfl
  have pos : L ≠ [] := by rintro rfl; simp at hlen
  let F : Nat → Prop := fun b => OwnO (fun i => L[i]?) π1 b ∨ OwnG (fun i => L[i]?) π1 b
  have hrep : GRep g (lf 0) F w := by
    refine .mk g F w L π1 lf lay pos born2 (fun k o h ha => ?_) (fun i j o u hi ha hj hu hb => ?_) (fun k l h => σdom k l h) (fun k g' h => ?_) (fun i g' b j o hi hf hj ha => ?_) (fun i g' j g'' b hi hj hf hf' => ?_) (fun b h => h)
    · exact OChk.un un (hs.obs _ _ _ (hat k o h).2 (by rw [alive_rnO]; exact ha) (born2 k o h)).2
    · have := hs.inj _ _ _ _ _ _ (hat i o hi).2 (by rw [alive_rnO]; exact ha) (hat j u hj).2 (by rw [alive_rnO]; exact hu) (born2 i o hi) (born2 j u hj) hb
      exact σinj i j (lt_len hi) (lt_len hj) this
    · obtain ⟨l, h1, h2⟩ := hs.gh.has _ _ (hat k _ h).2
      have := born2 k _ h
      have e : lf k = l := by have h3 : π (σ k) = some l := h1; show (π (σ k)).getD _ = l; rw [h3]; rfl
      rw [e]; exact h2
    · exact hs.gh.ord _ g' b _ _ _ (hat i _ hi).2 hf (hat j o hj).2 (by rw [alive_rnO]; exact ha) (born2 j o hj)
    · exact σinj i j (lt_len hi) (lt_len hj) (hs.gh.dis _ g' _ g'' b (hat i _ hi).2 (hat j _ hj).2 hf hf')
  have inIds : ∀ j, j ∈ ids → ∃ k o, L[k]? = some o ∧ σ k = j := fun j h => by
    obtain ⟨k, hk, rfl⟩ := List.getElem_of_mem h
    have hk' : k < L.length := by rw [← hlen]; exact hk
    exact ⟨k, _, List.getElem?_eq_getElem hk', σlt k hk'⟩
  have F_own : ∀ b, F b → Owned π H b := by
    rintro b (⟨k, o, l, h1, h2, h3, h4⟩ | ⟨k, g', h1, h2⟩)
    · exact .inl ⟨_, _, l, (hat k o h1).2, by rw [alive_rnO]; exact h2, h3, h4⟩
    · exact .inr ⟨_, g', (hat k _ h1).2, h2⟩
  let H' := H.shut r rest g
  let π' : Ren := ⟨π.loc, fun j => if j = r then F else π.fp j⟩
  have hcase : ∀ j o, H'.get j = some o → (j = r ∧ o = .ghost g) ∨ (j ∈ rest ∧ o = .gone) ∨ (j ∉ ids ∧ H.get j = some o) := fun j o h => by
    have h' : (H.shut r rest g).get j = some o := h
    rw [Heap.get_shut] at h'
    split at h'
    · rename_i e; exact .inl ⟨e.symm, (Option.some.inj h').symm⟩
    · rename_i e
      split at h'
      · rename_i e2; exact .inr (.inl ⟨e2, (Option.some.inj h').symm⟩)
      · rename_i e2
        refine .inr (.inr ⟨fun hm => ?_, h'⟩)
        rcases List.mem_cons.1 hm with h | h
        · exact e h.symm
        · exact e2 h
  have hal : ∀ j o, H'.get j = some o → alive o = true → j ∉ ids ∧ H.get j = some o := fun j o h ha => by
    rcases hcase j o h with ⟨_, rfl⟩ | ⟨_, rfl⟩ | h
    · cases ha
    · cases ha
    · exact h
  have hgh : ∀ j g', H'.get j = some (.ghost g') → (j = r ∧ g' = g) ∨ (j ∉ ids ∧ H.get j = some (.ghost g')) := fun j g' h => by
    rcases hcase j _ h with ⟨h1, h2⟩ | ⟨_, h2⟩ | h
    · exact .inl ⟨h1, by cases h2; rfl⟩
    · cases h2
    · exact .inr h
  have notr : ∀ j, j ∉ ids → j ≠ r := fun j h e => h (e ▸ List.mem_cons_self)
  have hF : ∀ j, j ∉ ids → π'.fp j = π.fp j := fun j h => by show (if _ then _ else _) = _; rw [if_neg (notr j h)]
  have hFr : π'.fp r = F := by show (if _ then _ else _) = _; rw [if_pos rfl]
  -- what is owned by what was put together is owned by nothing else
  have apartO : ∀ b j o l, F b → j ∉ ids → H.get j = some o → alive o = true → π j = some l → l.blk ≠ b := by
    rintro b j o l (⟨k, o1, l1, h1, h2, h3, h4⟩ | ⟨k, g', h1, h2⟩) hj ho ha hl he
    · have := hs.inj j (σ k) o _ l l1 ho ha (hat k o1 h1).2 (by rw [alive_rnO]; exact h2) hl h3 (he.trans h4.symm)
      exact hj (this ▸ by rw [σlt k (lt_len h1)]; exact List.getElem_mem _)
    · exact hs.gh.ord (σ k) g' b j o l (hat k _ h1).2 h2 ho ha hl he
  have apartG : ∀ b j g2, F b → j ∉ ids → H.get j = some (.ghost g2) → ¬ π.fp j b := by
    rintro b j g2 (⟨k, o1, l1, h1, h2, h3, h4⟩ | ⟨k, g', h1, h2⟩) hj ho hf
    · exact hs.gh.ord j g2 b (σ k) _ l1 ho hf (hat k o1 h1).2 (by rw [alive_rnO]; exact h2) h3 h4
    · have := hs.gh.dis j g2 (σ k) g' b ho (hat k _ h1).2 hf h2
      exact hj (this ▸ by rw [σlt k (lt_len h1)]; exact List.getElem_mem _)
  have hbase : H'.base = H.base := Heap.base_shut H r rest g
  refine ⟨π', ⟨fun _ _ h => h, ⟨?base, ?grow, ?obs, ?inj, ?fresh, by intro i l h; rw [Heap.next_shut]; exact hs.dom i l h, ?cold, ?os, ?out, ⟨?has, ?fpb, ?ord, ?dis⟩⟩, hbase, by rw [Heap.next_shut]; exact Nat.le_refl _, Nat.le_refl _, fun _ _ _ => rfl, ?own, ?unb⟩, rfl⟩
  case base => show ∀ b, b < H'.base.heap.size → _; rw [hbase]; exact hs.base
  case grow => show H'.base.heap.size ≤ _; rw [hbase]; exact hs.grow
  case cold => show Cold H'.base.heap.size w; rw [hbase]; exact hs.cold
  case os => show w.os = H'.base.os; rw [hbase]; exact hs.os
  case out => show w.output = H'.base.output; rw [hbase]; exact hs.out
  case obs =>
    intro j o l hj ha hl
    show H'.base.heap.size ≤ _ ∧ _
    rw [hbase]
    obtain ⟨_, h2⟩ := hal j o hj ha
    obtain ⟨h3, h4⟩ := hs.obs j o l h2 ha hl
    exact ⟨h3, OChk.keep (π := π) (π' := π') (fun _ _ h => h) h4 rfl⟩
  case inj => exact fun i j o u li lj hi ha hj hu hli hlj hb => hs.inj i j o u li lj (hal i o hi ha).2 ha (hal j u hj hu).2 hu hli hlj hb
  case fresh =>
    intro j o hj
    show j < (H.shut r rest g).next
    rw [Heap.next_shut]
    have key : ∀ j, j ∈ ids → j < H.next := fun j h => by
      obtain ⟨k, o1, h1, rfl⟩ := inIds j h
      exact hs.fresh _ _ (hat k o1 h1).2
    rcases hcase j o hj with ⟨rfl, _⟩ | ⟨h1, _⟩ | ⟨_, h1⟩
    · exact key _ List.mem_cons_self
    · exact key _ (List.mem_cons_of_mem _ h1)
    · exact hs.fresh _ _ h1
  case has =>
    intro j g' hj
    rcases hgh j g' hj with ⟨rfl, rfl⟩ | ⟨h1, h2⟩
    · refine ⟨lf 0, ?_, by rw [hFr]; exact hrep⟩
      cases L with
      | nil => exact absurd rfl pos
      | cons o L => exact born2 0 o rfl
    · obtain ⟨l, h3, h4⟩ := hs.gh.has j g' h2
      exact ⟨l, h3, by rw [hF j h1]; exact h4⟩
  case fpb =>
    intro j g' b hj hf
    show H'.base.heap.size ≤ b ∧ _
    rw [hbase]
    rcases hgh j g' hj with ⟨rfl, rfl⟩ | ⟨h1, h2⟩
    · rw [hFr] at hf
      have := F_own b hf
      exact ⟨hs.owned_ge this, hs.owned_lt this⟩
    · rw [hF j h1] at hf; exact hs.gh.fpb j g' b h2 hf
  case ord =>
    intro j g' b j' o l hj hf hj' ha hl
    obtain ⟨h1, h2⟩ := hal j' o hj' ha
    rcases hgh j g' hj with ⟨rfl, rfl⟩ | ⟨h3, h4⟩
    · rw [hFr] at hf; exact apartO b j' o l hf h1 h2 ha hl
    · rw [hF j h3] at hf; exact hs.gh.ord j g' b j' o l h4 hf h2 ha hl
  case dis =>
    intro j g' j' g'' b hj hj' hf hf'
    rcases hgh j g' hj with ⟨rfl, rfl⟩ | ⟨h1, h2⟩ <;> rcases hgh j' g'' hj' with ⟨rfl, rfl⟩ | ⟨h3, h4⟩
    · rfl
    · rw [hFr] at hf; rw [hF j' h3] at hf'; exact absurd hf' (apartG b j' g'' hf h3 h4)
    · rw [hFr] at hf'; rw [hF j h1] at hf; exact absurd hf (apartG b j g' hf' h1 h2)
    · rw [hF j h1] at hf; rw [hF j' h3] at hf'; exact hs.gh.dis j g' j' g'' b h2 h4 hf hf'
  case own =>
    rintro b (⟨j, o, l, h1, h2, h3, h4⟩ | ⟨j, g', hj, hf⟩)
    · exact .inl (.inl ⟨j, o, l, (hal j o h1 h2).2, h2, h3, h4⟩)
    · rcases hgh j g' hj with ⟨rfl, rfl⟩ | ⟨h1, h2⟩
      · rw [hFr] at hf; exact .inl (F_own b hf)
      · rw [hF j h1] at hf; exact .inl (.inr ⟨j, g', h2, hf⟩)
  case unb =>
    intro j o hj hp
    refine ⟨?_, hp⟩
    have hni : j ∉ ids := fun h => by
      obtain ⟨k, o1, h1, rfl⟩ := inIds j h
      obtain ⟨l, hl⟩ := born k o1 h1
      rw [hl] at hp; cases hp
    show (H.shut r rest g).get j = _
    rw [Heap.get_shut, if_neg (fun e => notr j hni e.symm), if_neg (fun e => hni (List.mem_cons_of_mem _ e))]
    exact hj

/-! ### fewer things -/
theorem After.few {π π2 : Ren} {H H2 : Heap} {w w' : World} (hs : Sim π H w) (a : After π H w π2 H2 w') {H' : Heap} (τ : Nat → Nat) (hb : H'.base = H.base) (hn : H.next ≤ H'.next)
    (tlow : ∀ j, j < H.next → τ j = j) (tout : ∀ j, H'.next ≤ j → H2.next ≤ τ j) (tinj : ∀ j j', j < H'.next → j' < H'.next → τ j = τ j' → j = j')
    (low : ∀ j, j < H.next → (H'.get j = H.get j ∧ H2.get j = H.get j) ∨ (∃ l, π j = some l) ∧ ∃ o, H'.get j = some o ∧ H2.get j = some (rnO τ o))
    (hi : ∀ j, H.next ≤ j → j < H'.next → ∃ o, H'.get j = some o ∧ H2.get (τ j) = some (rnO τ o)) (hout : ∀ j, H'.next ≤ j → H'.get j = none) :
    ∃ π', After π H w π' H' w' ∧ ∀ v v', VRel π2 (rn τ v) v' → VRel π' v v' := by
  let π' : Ren := ⟨fun j => if j < H'.next then π2 (τ j) else none, fun j => π2.fp (τ j)⟩
  have hbase : H2.base = H'.base := a.base.trans hb.symm
  have hdom : ∀ j l, π2 j = some l → j < H2.next := a.sim.dom
  have un : Un π' π2 τ := fun j l h => by
    show (if _ then _ else _) = _
    rcases Nat.lt_or_ge j H'.next with h1 | h1
    · rw [if_pos h1]; exact h
    · exact absurd (hdom _ _ h) (Nat.not_lt.2 (tout j h1))
  have hp : ∀ {j l}, π' j = some l → j < H'.next ∧ π2 (τ j) = some l := fun {j l} h => by
    have h' : (if j < H'.next then π2 (τ j) else none) = some l := h
    split at h'
    · rename_i e; exact ⟨e, h'⟩
    · cases h'
  have hlt : ∀ {j o}, H'.get j = some o → j < H'.next := fun {j o} h => by
    rcases Nat.lt_or_ge j H'.next with h1 | h1
    · exact h1
    · rw [hout j h1] at h; cases h
  have ext : Ext π π' := fun j l h => by
    have h1 := hs.dom j l h
    show (if _ then _ else _) = _
    rw [if_pos (by omega), tlow j h1]; exact a.ext j l h
  -- each thing is one of the other heap's, or an elder one that is as it was
  have key : ∀ j o, H'.get j = some o → H2.get (τ j) = some (rnO τ o) ∨ (j < H.next ∧ H.get j = some o ∧ H2.get (τ j) = some o) := fun j o h => by
    rcases Nat.lt_or_ge j H.next with h1 | h1
    · rw [tlow j h1]
      rcases low j h1 with ⟨h2, h3⟩ | ⟨_, o', h2, h3⟩
      · rw [h] at h2; exact .inr ⟨h1, h2.symm, by rw [h3]; exact h2.symm⟩
      · rw [h] at h2; obtain rfl := Option.some.inj h2; exact .inl h3
    · obtain ⟨o', h2, h3⟩ := hi j h1 (hlt h)
      rw [h] at h2; obtain rfl := Option.some.inj h2; exact .inl h3
  have keyA : ∀ j o, H'.get j = some o → alive o = true → ∃ o2, H2.get (τ j) = some o2 ∧ alive o2 = true := fun j o h ha => by
    rcases key j o h with h1 | ⟨_, _, h1⟩
    · exact ⟨_, h1, by rw [alive_rnO]; exact ha⟩
    · exact ⟨_, h1, ha⟩
  have keyG : ∀ j g, H'.get j = some (.ghost g) → H2.get (τ j) = some (.ghost g) := fun j g h => by
    rcases key j _ h with h1 | ⟨_, _, h1⟩
    · exact h1
    · exact h1
  refine ⟨π', ⟨ext, ⟨?base, ?grow, ?obs, ?inj, fun j o h => hlt h, fun j l h => (hp h).1, ?cold, ?os, ?out, ⟨?has, ?fpb, ?ord, ?dis⟩⟩, hb, hn, a.size, a.kept, ?own, ?unb⟩, fun v v' h => VRel.un un h⟩
  case base => rw [← hbase]; exact a.sim.base
  case grow => rw [← hbase]; exact a.sim.grow
  case cold => rw [← hbase]; exact a.sim.cold
  case os => rw [← hbase]; exact a.sim.os
  case out => rw [← hbase]; exact a.sim.out
  case obs =>
    intro j o l hj ha hl
    obtain ⟨_, hl2⟩ := hp hl
    rw [← hbase]
    rcases key j o hj with h1 | ⟨h1, h2, h3⟩
    · obtain ⟨g1, g2⟩ := a.sim.obs _ _ l h1 (by rw [alive_rnO]; exact ha) hl2
      exact ⟨g1, OChk.un un g2⟩
    · obtain ⟨g1, g2⟩ := a.sim.obs _ _ l h3 ha hl2
      refine ⟨g1, ?_⟩
      cases hpj : π j with
      | none =>
        have := (a.unb j o h2 hpj).2
        rw [tlow j h1] at hl2; rw [this] at hl2; cases hl2
      | some l0 =>
        have h4 := a.ext j l0 hpj
        rw [tlow j h1, h4] at hl2
        obtain rfl := Option.some.inj hl2
        exact (OChk.back a.ext (hs.obs j o _ h2 ha hpj).2 g2).keep ext rfl
  case inj =>
    intro j j' o u l l' hj ha hj' hu hl hl' hbl
    obtain ⟨o2, h1, h2⟩ := keyA j o hj ha
    obtain ⟨u2, h3, h4⟩ := keyA j' u hj' hu
    exact tinj j j' (hlt hj) (hlt hj') (a.sim.inj _ _ o2 u2 l l' h1 h2 h3 h4 (hp hl).2 (hp hl').2 hbl)
  case has =>
    intro j g hj
    obtain ⟨l, h1, h2⟩ := a.sim.gh.has _ g (keyG j g hj)
    exact ⟨l, un _ _ h1, h2⟩
  case fpb => intro j g b hj hf; rw [← hbase]; exact a.sim.gh.fpb _ g b (keyG j g hj) hf
  case ord =>
    intro j g b j' o l hj hf hj' ha hl
    obtain ⟨o2, h1, h2⟩ := keyA j' o hj' ha
    exact a.sim.gh.ord _ g b _ o2 l (keyG j g hj) hf h1 h2 (hp hl).2
  case dis => exact fun j g j' g' b hj hj' hf hf' => tinj j j' (hlt hj) (hlt hj') (a.sim.gh.dis _ g _ g' b (keyG j g hj) (keyG j' g' hj') hf hf')
  case own =>
    intro b h
    refine a.own b ?_
    rcases h with ⟨j, o, l, h1, h2, h3, h4⟩ | ⟨j, g, h1, h2⟩
    · obtain ⟨o2, g1, g2⟩ := keyA j o h1 h2
      exact .inl ⟨_, o2, l, g1, g2, (hp h3).2, h4⟩
    · exact .inr ⟨_, g, keyG j g h1, h2⟩
  case unb =>
    intro j o hj hpj
    have h1 := hs.fresh j o hj
    rcases low j h1 with ⟨h2, _⟩ | ⟨⟨l, hl⟩, _⟩
    · refine ⟨by rw [h2]; exact hj, ?_⟩
      show (if _ then _ else _) = _
      rw [if_pos (by omega), tlow j h1]; exact (a.unb j o hj hpj).2
    · rw [hl] at hpj; cases hpj
end Go.Am
