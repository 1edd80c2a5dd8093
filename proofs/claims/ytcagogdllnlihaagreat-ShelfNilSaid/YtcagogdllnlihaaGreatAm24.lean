/- Ghosts are opened and shut; a heap is told anew with fewer things. -/
import Derived.Test.YtcagogdllnlihaaGreatAm23
set_option linter.all false
namespace Go.Am

/-! ### opening -/
def putAll (σ : Nat → Nat) : List Ob → Nat → Heap → Heap
  | [], _, H => H
  | o :: os, k, H => putAll σ os (k + 1) (H.set (σ k) (rnO σ o))
theorem putAll_base (σ : Nat → Nat) : ∀ (L : List Ob) (k : Nat) (H : Heap), (putAll σ L k H).base = H.base
  | [], _, _ => rfl
  | o :: os, k, H => by rw [putAll, putAll_base]; rfl
theorem putAll_next (σ : Nat → Nat) : ∀ (L : List Ob) (k : Nat) (H : Heap), (putAll σ L k H).next = H.next
  | [], _, _ => rfl
  | o :: os, k, H => by rw [putAll, putAll_next]; rfl
theorem putAll_ne (σ : Nat → Nat) : ∀ (L : List Ob) (k : Nat) (H : Heap) (j : Nat), (∀ m, m < L.length → σ (k + m) ≠ j) → (putAll σ L k H).get j = H.get j
  | [], _, _, _, _ => rfl
  | o :: os, k, H, j, h => by
    rw [putAll, putAll_ne σ os (k + 1) _ j fun m hm => by rw [Nat.add_assoc, Nat.add_comm 1 m]; exact h (m + 1) (by simpa using hm), Heap.get_set, if_neg (by simpa using h 0 (by simp))]
theorem putAll_at (σ : Nat → Nat) (hσ : ∀ a b, σ a = σ b → a = b) : ∀ (L : List Ob) (k : Nat) (H : Heap) (m : Nat) (o : Ob), L[m]? = some o → (putAll σ L k H).get (σ (k + m)) = some (rnO σ o)
  | [], _, _, m, o, h => by simp at h
  | x :: os, k, H, 0, o, h => by
    simp at h; subst h
    rw [putAll, putAll_ne, Heap.get_set, if_pos (by simp)]
    intro m _ he
    have := hσ _ _ he; omega
  | x :: os, k, H, m + 1, o, h => by
    rw [putAll, show k + (m + 1) = k + 1 + m by omega]
    exact putAll_at σ hσ os (k + 1) _ m o (by simpa using h)

theorem rnO_ghost {σ : Nat → Nat} {o1 : Ob} {g' : Gh} (h : Ob.ghost g' = rnO σ o1) : o1 = .ghost g' := by
  cases o1 <;> first | (cases h; done) | (simp only [rnO, Ob.ghost.injEq] at h; rw [h])
/-- where the things of an opened ghost lie -/
def sg (i n : Nat) (k : Nat) : Nat := if k = 0 then i else n + k
theorem sg_inj {i n : Nat} (h : i < n) : ∀ a b, sg i n a = sg i n b → a = b := by
  intro a b; unfold sg; split <;> split <;> omega

theorem Sim.opn {π : Ren} {H : Heap} {w : World} (hs : Sim π H w) {i : Nat} {g : Gh} (hi : H.get i = some (.ghost g)) :
    ∃ (L : List Ob) (H' : Heap) (π' : Ren), Lay g L ∧ After π H w π' H' w ∧ H'.next = H.next + L.length ∧ L ≠ [] ∧
      (∀ k o, L[k]? = some o → H'.get (sg i H.next k) = some (rnO (sg i H.next) o)) ∧ (∀ j, j < H.next → j ≠ i → H'.get j = H.get j) := by
  have hin := hs.fresh _ _ hi
  obtain ⟨l0, hl0, hrep⟩ := hs.gh.has i g hi
  generalize hF : π.fp i = F at hrep
  cases hrep with
  | mk g _ _ L π1 lf lay pos born obs inj dom gst ord dis own =>
  let σ := sg i H.next
  have hσ : ∀ a b, σ a = σ b → a = b := sg_inj hin
  have σ0 : σ 0 = i := rfl
  have σs : ∀ k, k ≠ 0 → σ k = H.next + k := fun k hk => by simp [σ, sg, hk]
  let H' : Heap := { putAll σ L 0 H with next := H.next + L.length }
  let π' : Ren := ⟨fun j => if j < H.next then π j else if j = H.next then none else π1 (j - H.next), fun j => if j = i then π1.fp 0 else if j < H.next then π.fp j else π1.fp (j - H.next)⟩
  have hat : ∀ k o, L[k]? = some o → H'.get (σ k) = some (rnO σ o) := fun k o h => by
    have := putAll_at σ hσ L 0 H k o h
    rwa [Nat.zero_add] at this
  have hne : ∀ j, (∀ k, k < L.length → σ k ≠ j) → H'.get j = H.get j := fun j h => putAll_ne σ L 0 H j fun m hm => by rw [Nat.zero_add]; exact h m hm
  have hold : ∀ j, j < H.next → j ≠ i → H'.get j = H.get j := fun j h1 h2 => hne j fun k _ he => by
    by_cases hk : k = 0
    · subst hk; exact h2 (he.symm.trans σ0)
    · rw [σs k hk] at he; omega
  have hcase : ∀ j o, H'.get j = some o → (j < H.next ∧ j ≠ i ∧ H.get j = some o) ∨ ∃ k o1, L[k]? = some o1 ∧ j = σ k ∧ o = rnO σ o1 := fun j o h => by
    by_cases hk : ∃ k, k < L.length ∧ σ k = j
    · obtain ⟨k, h1, rfl⟩ := hk
      obtain ⟨o1, h2⟩ : ∃ o1, L[k]? = some o1 := ⟨L[k], List.getElem?_eq_getElem h1⟩
      rw [hat k o1 h2] at h
      exact .inr ⟨k, o1, h2, rfl, (Option.some.inj h).symm⟩
    · have : H'.get j = H.get j := hne j fun k h1 h2 => hk ⟨k, h1, h2⟩
      rw [this] at h
      refine .inl ⟨hs.fresh _ _ h, ?_, h⟩
      rintro rfl
      exact hk ⟨0, by cases L with | nil => exact absurd rfl pos | cons => simp, σ0⟩
  have lt_len : ∀ {k : Nat} {o1 : Ob}, L[k]? = some o1 → k < L.length := fun h => (List.getElem?_eq_some_iff.1 h).1
  have hπlow : ∀ j, j < H.next → π' j = π j := fun j h => by show (if _ then _ else _) = _; rw [if_pos h]
  have hπσ : ∀ k o, L[k]? = some o → π' (σ k) = some (lf k) := fun k o h => by
    by_cases hk : k = 0
    · subst hk; rw [σ0, hπlow i hin, hl0]
    · rw [σs k hk]
      show (if _ then _ else if _ then _ else _) = _
      rw [if_neg (by omega), if_neg (by omega), Nat.add_sub_cancel_left]; exact born k o h
  have hfσ : ∀ k, L[k]?.isSome → π'.fp (σ k) = π1.fp k := fun k h => by
    by_cases hk : k = 0
    · subst hk; rw [σ0]; show (if _ then _ else _) = _; rw [if_pos rfl]
    · rw [σs k hk]
      show (if _ then _ else if _ then _ else _) = _
      rw [if_neg (by omega), if_neg (by omega), Nat.add_sub_cancel_left]
  have hflow : ∀ j, j < H.next → j ≠ i → π'.fp j = π.fp j := fun j h1 h2 => by show (if _ then _ else if _ then _ else _) = _; rw [if_neg h2, if_pos h1]
  have ext : Ext π π' := fun j l h => by rw [hπlow j (hs.dom j l h)]; exact h
  have nm : Nm π1 π' σ := fun k l h => by
    have hk := dom k l h
    have h2 := List.getElem?_eq_getElem hk
    rw [hπσ k _ h2, ← born k _ h2]; exact h
  have inF : ∀ b, OwnO (fun i => L[i]?) π1 b ∨ OwnG (fun i => L[i]?) π1 b → π.fp i b := fun b h => by rw [hF]; exact own b h
  have ownO : ∀ k o, L[k]? = some o → alive o = true → π.fp i (lf k).blk := fun k o h1 h2 => inF _ (.inl ⟨k, o, lf k, h1, h2, born k o h1, rfl⟩)
  have ownG : ∀ k g' b, L[k]? = some (.ghost g') → π1.fp k b → π.fp i b := fun k g' b h1 h2 => inF _ (.inr ⟨k, g', h1, h2⟩)
  have hO : ∀ b, OwnO H'.get π' b → OwnO H.get π b ∨ π.fp i b := by
    rintro b ⟨j, o, l, h1, h2, h3, rfl⟩
    rcases hcase j o h1 with ⟨g1, g2, g3⟩ | ⟨k, o1, g1, rfl, rfl⟩
    · rw [hπlow j g1] at h3; exact .inl ⟨j, o, l, g3, h2, h3, rfl⟩
    · rw [hπσ k o1 g1] at h3; obtain rfl := Option.some.inj h3
      rw [alive_rnO] at h2
      exact .inr (ownO k o1 g1 h2)
  refine ⟨L, H', π', lay, ⟨ext, ⟨?base, ?grow, ?obs, ?inj, ?fresh, ?dom, ?cold, ?os, ?out, ⟨?has, ?fpb, ?ord, ?dis⟩⟩, putAll_base σ L 0 H, Nat.le_add_right _ _, Nat.le_refl _, fun _ _ _ => rfl, ?own, ?unb⟩, rfl, pos, hat, hold⟩
  case base => intro b hb; have : H'.base = H.base := putAll_base σ L 0 H; rw [this] at hb ⊢; exact hs.base b hb
  case grow => have : H'.base = H.base := putAll_base σ L 0 H; rw [this]; exact hs.grow
  case cold => have : H'.base = H.base := putAll_base σ L 0 H; rw [this]; exact hs.cold
  case os => have : H'.base = H.base := putAll_base σ L 0 H; rw [this]; exact hs.os
  case out => have : H'.base = H.base := putAll_base σ L 0 H; rw [this]; exact hs.out
  case obs =>
    intro j o l hj ha hl
    have hb : H'.base = H.base := putAll_base σ L 0 H
    rw [hb]
    rcases hcase j o hj with ⟨g1, g2, g3⟩ | ⟨k, o1, g1, rfl, rfl⟩
    · rw [hπlow j g1] at hl
      obtain ⟨h1, h2⟩ := hs.obs j o l g3 ha hl
      exact ⟨h1, h2.keep ext rfl⟩
    · rw [hπσ k o1 g1] at hl; obtain rfl := Option.some.inj hl
      rw [alive_rnO] at ha
      exact ⟨(hs.gh.fpb i g _ hi (ownO k o1 g1 ha)).1, (obs k o1 g1 ha).rn nm⟩
  case inj =>
    intro j j' o u lj lj' hj ha hj' hu hlj hlj' hbl
    rcases hcase j o hj with ⟨g1, g2, g3⟩ | ⟨k, o1, g1, rfl, rfl⟩ <;> rcases hcase j' u hj' with ⟨f1, f2, f3⟩ | ⟨k', o2, f1, rfl, rfl⟩
    · rw [hπlow j g1] at hlj; rw [hπlow j' f1] at hlj'
      exact hs.inj j j' o u lj lj' g3 ha f3 hu hlj hlj' hbl
    · rw [hπlow j g1] at hlj; rw [hπσ k' o2 f1] at hlj'; obtain rfl := Option.some.inj hlj'
      rw [alive_rnO] at hu
      exact absurd hbl (hs.gh.ord i g _ j o lj hi (ownO k' o2 f1 hu) g3 ha hlj)
    · rw [hπlow j' f1] at hlj'; rw [hπσ k o1 g1] at hlj; obtain rfl := Option.some.inj hlj
      rw [alive_rnO] at ha
      exact absurd hbl.symm (hs.gh.ord i g _ j' u lj' hi (ownO k o1 g1 ha) f3 hu hlj')
    · rw [hπσ k o1 g1] at hlj; rw [hπσ k' o2 f1] at hlj'
      obtain rfl := Option.some.inj hlj; obtain rfl := Option.some.inj hlj'
      rw [alive_rnO] at ha hu
      rw [inj k k' o1 o2 g1 ha f1 hu hbl]
  case fresh =>
    intro j o hj
    show j < H.next + L.length
    rcases hcase j o hj with ⟨g1, _, _⟩ | ⟨k, o1, g1, rfl, rfl⟩
    · omega
    · have := lt_len g1
      by_cases hk : k = 0
      · subst hk; rw [σ0]; omega
      · rw [σs k hk]; omega
  case dom =>
    intro j l hl
    show j < H.next + L.length
    by_cases h1 : j < H.next
    · omega
    · have h2 : (if j < H.next then π j else if j = H.next then none else π1 (j - H.next)) = some l := hl
      rw [if_neg h1] at h2
      split at h2
      · cases h2
      · have := dom _ _ h2; omega
  case has =>
    intro j g' hj
    rcases hcase j _ hj with ⟨g1, g2, g3⟩ | ⟨k, o1, g1, rfl, h2⟩
    · obtain ⟨l, h1, h2⟩ := hs.gh.has j g' g3
      exact ⟨l, ext _ _ h1, by rw [hflow j g1 g2]; exact h2⟩
    · obtain rfl := rnO_ghost h2
      exact ⟨lf k, hπσ k _ g1, by rw [hfσ k (by rw [g1]; rfl)]; exact gst k g' g1⟩
  case fpb =>
    intro j g' b hj hf
    have hb : H'.base = H.base := putAll_base σ L 0 H
    rw [hb]
    rcases hcase j _ hj with ⟨g1, g2, g3⟩ | ⟨k, o1, g1, rfl, h2⟩
    · rw [hflow j g1 g2] at hf; exact hs.gh.fpb j g' b g3 hf
    · obtain rfl := rnO_ghost h2
      rw [hfσ k (by rw [g1]; rfl)] at hf
      exact hs.gh.fpb i g b hi (ownG k g' b g1 hf)
  case ord =>
    intro j g' b j' o l hj hf hj' ha hl he
    rcases hcase j _ hj with ⟨g1, g2, g3⟩ | ⟨k, o1, g1, rfl, h2⟩ <;> rcases hcase j' o hj' with ⟨f1, f2, f3⟩ | ⟨k', o2, f1, rfl, rfl⟩
    · rw [hflow j g1 g2] at hf; rw [hπlow j' f1] at hl
      exact hs.gh.ord j g' b j' o l g3 hf f3 ha hl he
    · rw [hflow j g1 g2] at hf; rw [hπσ k' o2 f1] at hl; obtain rfl := Option.some.inj hl
      rw [alive_rnO] at ha
      exact g2 (hs.gh.dis j g' i g b g3 hi hf (he ▸ ownO k' o2 f1 ha))
    · obtain rfl := rnO_ghost h2
      rw [hfσ k (by rw [g1]; rfl)] at hf; rw [hπlow j' f1] at hl
      exact hs.gh.ord i g b j' o l hi (ownG k g' b g1 hf) f3 ha hl he
    · obtain rfl := rnO_ghost h2
      rw [hfσ k (by rw [g1]; rfl)] at hf; rw [hπσ k' o2 f1] at hl; obtain rfl := Option.some.inj hl
      rw [alive_rnO] at ha
      exact ord k g' b k' o2 g1 hf f1 ha he
  case dis =>
    intro j g' j' g'' b hj hj' hf hf'
    rcases hcase j _ hj with ⟨g1, g2, g3⟩ | ⟨k, o1, g1, rfl, h2⟩ <;> rcases hcase j' _ hj' with ⟨f1, f2, f3⟩ | ⟨k', o2, f1, rfl, h3⟩
    · rw [hflow j g1 g2] at hf; rw [hflow j' f1 f2] at hf'
      exact hs.gh.dis j g' j' g'' b g3 f3 hf hf'
    · obtain rfl := rnO_ghost h3
      rw [hflow j g1 g2] at hf; rw [hfσ k' (by rw [f1]; rfl)] at hf'
      exact absurd (hs.gh.dis j g' i g b g3 hi hf (ownG k' g'' b f1 hf')) g2
    · obtain rfl := rnO_ghost h2
      rw [hfσ k (by rw [g1]; rfl)] at hf; rw [hflow j' f1 f2] at hf'
      exact absurd (hs.gh.dis j' g'' i g b f3 hi hf' (ownG k g' b g1 hf)) f2
    · obtain rfl := rnO_ghost h2; obtain rfl := rnO_ghost h3
      rw [hfσ k (by rw [g1]; rfl)] at hf; rw [hfσ k' (by rw [f1]; rfl)] at hf'
      rw [dis k g' k' g'' b g1 f1 hf hf']
  case own =>
    rintro b (h | ⟨j, g', hj, hf⟩)
    · rcases hO b h with h | h
      · exact .inl (.inl h)
      · exact .inl (.inr ⟨i, g, hi, h⟩)
    · rcases hcase j _ hj with ⟨g1, g2, g3⟩ | ⟨k, o1, g1, rfl, h2⟩
      · rw [hflow j g1 g2] at hf; exact .inl (.inr ⟨j, g', g3, hf⟩)
      · obtain rfl := rnO_ghost h2
        rw [hfσ k (by rw [g1]; rfl)] at hf
        exact .inl (.inr ⟨i, g, hi, ownG k g' b g1 hf⟩)
  case unb =>
    intro j o hj hp
    have h1 := hs.fresh j o hj
    have h2 : j ≠ i := by rintro rfl; rw [hl0] at hp; cases hp
    exact ⟨by rw [hold j h1 h2]; exact hj, by rw [hπlow j h1]; exact hp⟩
end Go.Am
