/- From an evaluation to the walk, 2: arguments that are structs and arrays by value; the old memory is as it was. -/
import Derived.Test.YtcagogdllnlihaaGreatAmT
import Derived.WideKeyArgs
import Derived.Below
set_option linter.all false
namespace Go.Am
open Go.RowKit

theorem vrels_const {π : Ren} : ∀ {l : List Value}, l.all constOk = true → VRels π l l
  | [], _ => .nil
  | v :: l, h => by
    simp only [List.all_cons, Bool.and_eq_true] at h
    exact .cons _ _ _ _ (VRel.of_constOk h.1) (vrels_const h.2)
def Kept (w w' : World) : Prop := ∀ b, b < w.heap.size → w'.heap[b]? = w.heap[b]?
theorem kept_of {π π' : Ren} {w w' : World} {H' : Heap} (h : After π (start w) w π' H' w') : Kept w w' := fun b hlt => by
  have := h.sim.base b (by rw [h.base]; exact hlt)
  rw [this, h.base]; rfl
theorem walk_true2 {P : Program} (hfol : P.follows .mixedOrders = true) (hn : NamesOk P) {X : Exts} (hx : ∀ f m, X f = some m → ExtOk P f m) {A : Ann} {n : Nat} {f : FuncId} {args : List Value} {w : World}
    (hp : args.all constOk = true) (h : (func P X A n f args (start w)).Sat (fun v _ => isTrue v = true) (fun _ _ => False)) : Calls P f ⟨args⟩ w fun e w' => e = .returned (.bool true) ∧ Grown w w' ∧ Kept w w' := by
  refine ((func_ok hfol hn hx n 0) f args args _ _ w _ _ (sim_start w) (vrels_const hp) h).2.mono fun en w' hq => ?_
  rcases hq with ⟨v, H', v', π', h1, rfl, h2, h3⟩ | ⟨v, H', v', π', h1, _⟩
  · refine ⟨?_, grown_of h3, kept_of h3⟩
    unfold isTrue at h1
    split at h1
    · cases h2; rfl
    · cases h1
  · exact h1.elim
/-- a reading stays what it was -/
theorem stays {H : Type} {enc : TypeId × Value → H} {P : Program} {t : TypeId} (hl : laidOutB P = true) (hr : P.readableRec t = true) (hrow : t < P.types.size) {W W' : World} {v : Value} {d : DataW H} {ps : List MemPlace}
    (h : DataW.Trod enc P W 0 (fun _ => true) true t v d ps) (hk : Kept W W') : DataW.Trod enc P W' 0 (fun b => decide (b < W.heap.size)) true t v d ps := by
  have hlt : ∀ x ∈ ps, x.block < W.heap.size := by obtain ⟨m, hm⟩ := h; exact DataW.trod_lt m _ _ _ hm
  refine WideElems.Trod_stays hl hr hrow h (fun x hx => ?_) (fun x hx => by simpa using hlt x hx)
  have := hlt x hx
  cases x with
  | cell b o => exact World.cell?_of_block (w := W) (hk b this)
  | map b => exact hk b this
end Go.Am
