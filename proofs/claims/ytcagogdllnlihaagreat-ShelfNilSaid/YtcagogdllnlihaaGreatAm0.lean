/- An abstract heap and a monad of its programs: what the proofs of this claim reckon with. No program in sight. -/
import Derived.Test.YtcagogdllnlihaaGreatAmG
set_option linter.all false
namespace Go.Am

/-- a value of which nothing is known -/
def poison : Value := .chan (some 0)

inductive Ob where
  | cells (elem : TypeId) (c : List Value)
  | map (es : List MapEntry) (clock : Nat)
  | iter (m : Option Nat) (since : Nat) (seen : Array Nat) (last : Nat)
  | gone
  | ghost (g : Gh)

/-- a tree by numbers -/
inductive Tr where
  | leaf
  | node (l : Tr) (v : Option Ob) (r : Tr)

def Tr.get : Tr → Nat → Option Ob
  | .leaf, _ => none
  | .node l v r, i => bif Nat.beq i 0 then v else bif Nat.beq (i % 2) 1 then l.get (i / 2) else r.get (i / 2 - 1)

def Tr.setF : Nat → Tr → Nat → Ob → Tr
  | 0, t, _, _ => t
  | n + 1, .leaf, i, o =>
    bif Nat.beq i 0 then .node .leaf (some o) .leaf
    else bif Nat.beq (i % 2) 1 then .node (Tr.setF n .leaf (i / 2) o) none .leaf else .node .leaf none (Tr.setF n .leaf (i / 2 - 1) o)
  | n + 1, .node l v r, i, o =>
    bif Nat.beq i 0 then .node l (some o) r
    else bif Nat.beq (i % 2) 1 then .node (Tr.setF n l (i / 2) o) v r else .node l v (Tr.setF n r (i / 2 - 1) o)

def Tr.set (t : Tr) (i : Nat) (o : Ob) : Tr := Tr.setF (i + 1) t i o

theorem beqF {a b : Nat} (h : ¬ a = b) : Nat.beq a b = false := by
  cases hb : Nat.beq a b
  · rfl
  · exact absurd (Nat.eq_of_beq_eq_true hb) h
theorem beqT {a b : Nat} (h : a = b) : Nat.beq a b = true := by subst h; exact Nat.beq_refl _

theorem Tr.get_setF_self : ∀ (n : Nat) (t : Tr) (i : Nat) (o : Ob), i < n → (Tr.setF n t i o).get i = some o := by
  intro n
  induction n with
  | zero => intro t i o h; omega
  | succ n ih =>
    intro t i o h
    by_cases h0 : i = 0
    · subst h0; cases t <;> rfl
    · have b0 : Nat.beq i 0 = false := beqF h0
      by_cases h1 : i % 2 = 1
      · have b1 : Nat.beq (i % 2) 1 = true := beqT h1
        cases t <;> simp only [Tr.setF, b0, b1, cond_true, cond_false, Tr.get] <;> exact ih _ _ _ (by omega)
      · have b1 : Nat.beq (i % 2) 1 = false := beqF h1
        cases t <;> simp only [Tr.setF, b0, b1, cond_false, Tr.get] <;> exact ih _ _ _ (by omega)

theorem Tr.get_setF_ne : ∀ (n : Nat) (t : Tr) (i j : Nat) (o : Ob), i ≠ j → (Tr.setF n t i o).get j = t.get j := by
  intro n
  induction n with
  | zero => intro t i j o _; rfl
  | succ n ih =>
    intro t i j o hij
    have leaf_get : ∀ k, Tr.leaf.get k = none := fun _ => rfl
    by_cases h0 : i = 0
    · subst h0
      have b0 : Nat.beq j 0 = false := beqF (Ne.symm hij)
      cases t <;> simp only [Tr.setF, Nat.beq_refl, cond_true, Tr.get, b0, cond_false, Bool.cond_self]
    · have b0 : Nat.beq i 0 = false := beqF h0
      by_cases h1 : i % 2 = 1
      · have b1 : Nat.beq (i % 2) 1 = true := beqT h1
        cases t <;> simp only [Tr.setF, b0, b1, cond_true, cond_false, Tr.get] <;> by_cases g0 : j = 0
        · subst g0; rfl
        · have c0 : Nat.beq j 0 = false := beqF g0
          by_cases g1 : j % 2 = 1
          · have c1 : Nat.beq (j % 2) 1 = true := beqT g1
            simp only [c0, c1, cond_true, cond_false]; rw [ih _ _ _ _ (by omega)]; rfl
          · have c1 : Nat.beq (j % 2) 1 = false := beqF g1
            simp only [c0, c1, cond_false, leaf_get]
        · subst g0; rfl
        · have c0 : Nat.beq j 0 = false := beqF g0
          by_cases g1 : j % 2 = 1
          · have c1 : Nat.beq (j % 2) 1 = true := beqT g1
            simp only [c0, c1, cond_true, cond_false]; rw [ih _ _ _ _ (by omega)]
          · have c1 : Nat.beq (j % 2) 1 = false := beqF g1
            simp only [c0, c1, cond_false]
      · have b1 : Nat.beq (i % 2) 1 = false := beqF h1
        cases t <;> simp only [Tr.setF, b0, b1, cond_false, Tr.get] <;> by_cases g0 : j = 0
        · subst g0; rfl
        · have c0 : Nat.beq j 0 = false := beqF g0
          by_cases g1 : j % 2 = 1
          · have c1 : Nat.beq (j % 2) 1 = true := beqT g1
            simp only [c0, c1, cond_true, cond_false, leaf_get]
          · have c1 : Nat.beq (j % 2) 1 = false := beqF g1
            simp only [c0, c1, cond_false]; rw [ih _ _ _ _ (by omega)]; rfl
        · subst g0; rfl
        · have c0 : Nat.beq j 0 = false := beqF g0
          by_cases g1 : j % 2 = 1
          · have c1 : Nat.beq (j % 2) 1 = true := beqT g1
            simp only [c0, c1, cond_true, cond_false]
          · have c1 : Nat.beq (j % 2) 1 = false := beqF g1
            simp only [c0, c1, cond_false]; rw [ih _ _ _ _ (by omega)]

theorem Tr.get_set (t : Tr) (i j : Nat) (o : Ob) : (t.set i o).get j = if i = j then some o else t.get j := by
  unfold Tr.set
  split
  · rename_i h; subst h; exact Tr.get_setF_self _ _ _ _ (by omega)
  · rename_i h; exact Tr.get_setF_ne _ _ _ _ _ h

structure Heap where
  base : World
  next : Nat
  t : Tr

namespace Heap
def get (H : Heap) (i : Nat) : Option Ob := H.t.get i
def set (H : Heap) (i : Nat) (o : Ob) : Heap := { H with t := H.t.set i o }
def push (H : Heap) (o : Ob) : Heap := { H with next := H.next + 1, t := H.t.set H.next o }
theorem get_set (H : Heap) (i j : Nat) (o : Ob) : (H.set i o).get j = if i = j then some o else H.get j := Tr.get_set _ _ _ _
theorem get_push (H : Heap) (j : Nat) (o : Ob) : (H.push o).get j = if H.next = j then some o else H.get j := Tr.get_set _ _ _ _
@[simp] theorem next_set (H : Heap) (i : Nat) (o : Ob) : (H.set i o).next = H.next := rfl
@[simp] theorem next_push (H : Heap) (o : Ob) : (H.push o).next = H.next + 1 := rfl
@[simp] theorem base_set (H : Heap) (i : Nat) (o : Ob) : (H.set i o).base = H.base := rfl
@[simp] theorem base_push (H : Heap) (o : Ob) : (H.push o).base = H.base := rfl
end Heap

inductive Out (α : Type) where
  | ok (a : α) (H : Heap)
  | panic (v : Value) (H : Heap)
  | pick (n : Nat) (k : Nat → Out α)
  | need (b : Bool) (o : Out α)
  | fail

def Out.bind {α β : Type} : Out α → (α → Heap → Out β) → Out β
  | .ok a H, f => f a H
  | .panic v H, _ => .panic v H
  | .pick n k, f => .pick n fun i => (k i).bind f
  | .need p o, f => .need p (o.bind f)
  | .fail, _ => .fail

/-- all that may come meets Q, or, a panic, E -/
def Out.Sat {α : Type} (Q : α → Heap → Prop) (E : Value → Heap → Prop) : Out α → Prop
  | .ok a H => Q a H
  | .panic v H => E v H
  | .pick n k => 0 < n ∧ ∀ i, i < n → (k i).Sat Q E
  | .need b o => b = true ∧ o.Sat Q E
  | .fail => False

theorem Out.Sat.mono {α : Type} {Q Q' : α → Heap → Prop} {E E' : Value → Heap → Prop} (hQ : ∀ a H, Q a H → Q' a H) (hE : ∀ v H, E v H → E' v H) :
    ∀ {o : Out α}, o.Sat Q E → o.Sat Q' E'
  | .ok _ _, h => hQ _ _ h
  | .panic _ _, h => hE _ _ h
  | .pick _ _, h => ⟨h.1, fun i hi => (h.2 i hi).mono hQ hE⟩
  | .need _ _, h => ⟨h.1, h.2.mono hQ hE⟩

theorem Out.Sat.bind {α β : Type} {Q : β → Heap → Prop} {E : Value → Heap → Prop} {f : α → Heap → Out β} :
    ∀ {o : Out α}, o.Sat (fun a H => (f a H).Sat Q E) E → (o.bind f).Sat Q E
  | .ok _ _, h => h
  | .panic _ _, h => h
  | .pick _ _, h => ⟨h.1, fun i hi => Out.Sat.bind (h.2 i hi)⟩
  | .need _ _, h => ⟨h.1, Out.Sat.bind h.2⟩

theorem Out.Sat.of_bind {α β : Type} {Q : β → Heap → Prop} {E : Value → Heap → Prop} {f : α → Heap → Out β} :
    ∀ {o : Out α}, (o.bind f).Sat Q E → o.Sat (fun a H => (f a H).Sat Q E) E
  | .ok _ _, h => h
  | .panic _ _, h => h
  | .pick _ _, h => ⟨h.1, fun i hi => Out.Sat.of_bind (h.2 i hi)⟩
  | .need _ _, h => ⟨h.1, Out.Sat.of_bind h.2⟩

def M (α : Type) := Nat → Heap → Out α

namespace M
def pure {α : Type} (a : α) : M α := fun _ H => .ok a H
def bind {α β : Type} (m : M α) (f : α → M β) : M β := fun k H => (m k H).bind fun a H' => f a k H'
def fail {α : Type} : M α := fun _ _ => .fail
def panic {α : Type} (v : Value) : M α := fun _ H => .panic v H
instance : Monad M where
  pure := M.pure
  bind := M.bind
end M

end Go.Am
