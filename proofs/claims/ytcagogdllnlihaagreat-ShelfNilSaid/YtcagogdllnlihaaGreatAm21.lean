/- From an evaluation to a walk. -/
import Derived.Test.YtcagogdllnlihaaGreatAm20
import Derived.RowKit3
set_option linter.all false
namespace Go.Am
open Go.RowKit

def allN : Nat → (Nat → Bool) → Bool
  | 0, _ => true
  | n + 1, f => f n && allN n f
theorem allN_spec {f : Nat → Bool} : ∀ {n : Nat}, allN n f = true → ∀ i, i < n → f i = true
  | 0, _, i, hi => absurd hi (Nat.not_lt_zero _)
  | n + 1, h, i, hi => by
    simp only [allN, Bool.and_eq_true] at h
    by_cases he : i = n
    · subst he; exact h.1
    · exact allN_spec h.2 i (by omega)
def okB (f : Value → Bool) : Out Value → Bool
  | .ok v _ => f v
  | .panic _ _ => false
  | .pick n k => Nat.blt 0 n && allN n fun i => okB f (k i)
  | .need b o => b && okB f o
  | .fail => false
theorem okB_sat {f : Value → Bool} : ∀ {o : Out Value}, okB f o = true → o.Sat (fun v _ => f v = true) (fun _ _ => False)
  | .ok _ _, h => h
  | .panic _ _, h => by cases h
  | .pick n k, h => by
    simp only [okB, Bool.and_eq_true] at h
    exact ⟨Nat.le_of_ble_eq_true h.1, fun i hi => okB_sat (allN_spec h.2 i hi)⟩
  | .need b o, h => by
    simp only [okB, Bool.and_eq_true] at h
    exact ⟨h.1, okB_sat h.2⟩
  | .fail, h => by cases h
def isTrue : Value → Bool
  | .bool true => true
  | _ => false
def start (w : World) : Heap := ⟨w, 0, .leaf⟩
def ren0 : Ren := ⟨fun _ => none, fun _ _ => False⟩
theorem sim_start (w : World) : Sim ren0 (start w) w :=
  ⟨fun _ _ => rfl, Nat.le_refl _, fun _ _ _ _ _ h => (by cases h), fun _ _ _ _ _ _ _ _ _ _ h => (by cases h), fun i o h => (by simp [start, Heap.get, Tr.get] at h), fun _ _ h => (by cases h),
    fun b c e r hb hw => (by
      have hb' : w.heap.size ≤ b := hb
      rw [Array.getElem?_eq_none hb'] at hw; cases hw), rfl, rfl, ⟨fun _ _ h => (by cases h), fun _ _ _ h => (by cases h), fun _ _ _ _ _ _ h => (by cases h), fun _ _ _ _ _ h => (by cases h)⟩⟩
theorem grown_of {π π' : Ren} {w w' : World} {H' : Heap} (h : After π (start w) w π' H' w') : Grown w w' := by
  have hb : ∀ b, b < w.heap.size → w'.heap[b]? = w.heap[b]? := fun b hlt => by
    have := h.sim.base b (by rw [h.base]; exact hlt)
    rw [this, h.base]; rfl
  have hB : H'.base = w := h.base
  refine ⟨⟨by rw [h.sim.os, hB], by rw [h.sim.out, hB], fun i hi => ?_⟩, fun a => ?_, h.size⟩
  · rw [hb i hi]
    cases hx : w.heap[i]? with
    | none => rfl
    | some o => cases o with
      | cells c t fr => exact ⟨rfl, rfl, rfl, fun _ _ => rfl⟩
      | map es c => exact .inr ⟨rfl, rfl⟩
      | _ => rfl
  · by_cases ha : a.block < w.heap.size
    · simp only [World.frozen?, hb _ ha]
    · have e1 : w.heap[a.block]? = none := Array.getElem?_eq_none (by omega)
      simp only [World.frozen?, e1]
      cases hx : w'.heap[a.block]? with
      | none => rfl
      | some o => cases o with
        | cells c t fr =>
          have := h.sim.cold a.block c t fr (by rw [hB]; omega) hx
          subst this
          simp
        | _ => rfl
theorem walk_true {P : Program} (hfol : P.follows .mixedOrders = true) (hn : NamesOk P) {X : Exts} (hx : ∀ f m, X f = some m → ExtOk P f m) {A : Ann} {n : Nat} {f : FuncId} {args : List Value} {w : World}
    (hp : args.all plainB = true) (h : (func P X A n f args (start w)).Sat (fun v _ => isTrue v = true) (fun _ _ => False)) : Calls P f ⟨args⟩ w fun e w' => e = .returned (.bool true) ∧ Grown w w' := by
  refine ((func_ok hfol hn hx n 0) f args args _ _ w _ _ (sim_start w) (VRels.of_plainB hp) h).2.mono fun en w' hq => ?_
  rcases hq with ⟨v, H', v', π', h1, rfl, h2, h3⟩ | ⟨v, H', v', π', h1, _⟩
  · refine ⟨?_, grown_of h3⟩
    unfold isTrue at h1
    split at h1
    · cases h2; rfl
    · cases h1
  · exact h1.elim
end Go.Am
