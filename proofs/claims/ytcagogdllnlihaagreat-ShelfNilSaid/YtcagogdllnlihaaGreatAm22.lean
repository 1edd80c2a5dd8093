/- A function of no arguments that answers true at every start: it answers true wherever it is called, and nothing else is seen of it. -/
import Derived.Test.YtcagogdllnlihaaGreatAm21
set_option linter.all false
namespace Go.Am

def saysTrue : List Value → M Value
  | [] => M.pure (.bool true)
  | _ => M.fail
theorem After.over {π π' : Ren} {H H' : Heap} {w w' : World} (hs : Sim π H w) (h : After ren0 (start w) w π' H' w') : After π H w π H w' := by
  have hB : H'.base = w := h.base
  have hb : ∀ b, b < w.heap.size → w'.heap[b]? = w.heap[b]? := fun b hlt => by
    have := h.sim.base b (by rw [hB]; exact hlt)
    rw [this, hB]
  have hgs := hs.gh.step (w' := w') (Ext.refl _) rfl rfl h.size (fun _ _ h => h) (fun b hb2 => hb b (hs.owned_lt (.inr hb2))) fun _ h => .inl h
  refine ⟨Ext.refl _, ⟨fun b hlt => ?_, Nat.le_trans hs.grow h.size, fun i o l hi ho hl => ?_, hs.inj, hs.fresh, hs.dom, fun b c e r hlo hw => ?_, ?_, ?_, hgs⟩, rfl, Nat.le_refl _, h.size, fun b hlt _ => hb b hlt, fun _ h => .inl h, fun _ _ h h' => ⟨h, h'⟩⟩
  · rw [hb b (Nat.lt_of_lt_of_le hlt hs.grow)]; exact hs.base b hlt
  · obtain ⟨h1, h2⟩ := hs.obs i o l hi ho hl
    exact ⟨h1, h2.keep (Ext.refl _) (hb _ (hs.blk_lt hi ho hl))⟩
  · by_cases hlt : b < w.heap.size
    · rw [hb b hlt] at hw; exact hs.cold b c e r hlo hw
    · exact h.sim.cold b c e r (by rw [hB]; omega) hw
  · rw [h.sim.os, hB]; exact hs.os
  · rw [h.sim.out, hB]; exact hs.out
theorem ext_true {P : Program} (hfol : P.follows .mixedOrders = true) (hn : NamesOk P) {X : Exts} (hx : ∀ f m, X f = some m → ExtOk P f m) {A : Ann} {n : Nat} {f : FuncId}
    (h : ∀ w, okB isTrue (func P X A n f [] (start w)) = true) : ExtOk P f saysTrue := by
  intro k args args' π H w Q E hs hv hm
  cases hv with
  | cons => exact hm.elim
  | nil =>
    have := func_ok hfol hn hx n 0 f [] [] _ _ w _ _ (sim_start w) .nil (okB_sat (h w))
    refine ⟨this.1, this.2.mono fun en w' hq => ?_⟩
    rcases hq with ⟨v, H', v', π', h1, rfl, h2, h3⟩ | ⟨v, H', v', π', h1, _⟩
    · refine .inl ⟨_, H, v', π, hm, rfl, ?_, h3.over hs⟩
      unfold isTrue at h1
      split at h1
      · cases h2; exact .bool _
      · cases h1
    · exact h1.elim
def extOf (l : List (Nat × (List Value → M Value))) : Exts := fun f => match l.find? (fun x => Nat.beq x.1 f) with
  | some x => some x.2
  | none => none
theorem extOf_ok {P : Program} {l : List (Nat × (List Value → M Value))} (h : ∀ x ∈ l, ExtOk P x.1 x.2) : ∀ f m, extOf l f = some m → ExtOk P f m := by
  intro f m hf
  unfold extOf at hf
  split at hf
  · rename_i x hx
    cases hf
    have h1 := List.find?_some hx
    have h2 := List.mem_of_find?_eq_some hx
    rw [← Nat.eq_of_beq_eq_true h1]
    exact h x h2
  · cases hf
end Go.Am
