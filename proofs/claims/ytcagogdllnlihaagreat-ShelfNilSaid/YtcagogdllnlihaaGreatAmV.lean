/- Running shallow functions. -/
import Derived.Test.YtcagogdllnlihaaGreatAmT
set_option linter.all false
namespace Go.Am

abbrev ShF := CallF → List Value → M Value
inductive BT where
  | leaf
  | node (l : BT) (g : Nat) (f : ShF) (r : BT)
def BT.get : BT → Nat → Option ShF
  | .leaf, _ => none
  | .node l g f r, k => bif Nat.beq k g then some f else bif Nat.blt k g then l.get k else r.get k
def BT.All (p : Nat → ShF → Prop) : BT → Prop
  | .leaf => True
  | .node l g f r => l.All p ∧ p g f ∧ r.All p
theorem BT.get_all {p : Nat → ShF → Prop} : ∀ {t : BT}, t.All p → ∀ {k f}, t.get k = some f → p k f
  | .leaf, _, k, f, h => by cases h
  | .node l g f' r, ⟨h1, h2, h3⟩, k, f, h => by
    unfold BT.get at h
    cases hb : Nat.beq k g with
    | true =>
      rw [hb] at h
      obtain rfl := Option.some.inj h
      rw [Nat.eq_of_beq_eq_true hb]; exact h2
    | false =>
      rw [hb] at h
      simp only [cond_false] at h
      cases hl : Nat.blt k g with
      | true => rw [hl] at h; exact BT.get_all h1 h
      | false => rw [hl] at h; exact BT.get_all h3 h
def ShOk (P : Program) (X : Exts) (A : Ann) (g : Nat) (f : ShF) : Prop := ∀ n args H, func P X A (n + 1) g args H = f (callF P X A n) args n H
def runS (P : Program) (X : Exts) (A : Ann) (T : BT) : Nat → CallF
  | 0, _, _ => fun _ _ => .fail
  | n + 1, g, args => fun _ H => match T.get g with
    | some f => f (runS P X A T n) args n H
    | none => func P X A (n + 1) g args H
theorem runS_eq {P : Program} {X : Exts} {A : Ann} {T : BT} (hT : T.All (ShOk P X A)) : ∀ n, runS P X A T n = callF P X A n
  | 0 => by
    funext g args k H
    show Out.fail = func P X A 0 g args H
    rw [func]
  | n + 1 => by
    funext g args k H
    unfold runS
    show (match T.get g with
      | some f => f (runS P X A T n) args n H
      | none => func P X A (n + 1) g args H) = func P X A (n + 1) g args H
    cases hg : T.get g with
    | none => rfl
    | some f => simp only; rw [runS_eq hT n]; exact (BT.get_all hT hg n args H).symm
theorem run_func {P : Program} {X : Exts} {A : Ann} {T : BT} (hT : T.All (ShOk P X A)) (n : Nat) (g : FuncId) (args : List Value) (H : Heap) : func P X A n g args H = runS P X A T n g args 0 H := by
  rw [runS_eq hT n]; rfl
theorem shOk_ext {P : Program} {X : Exts} {A : Ann} {g : Nat} {m : List Value → M Value} (hX : X g = some m) : ShOk P X A g (fun _ args => m args) := fun n args H => func_ext hX n args H
end Go.Am
