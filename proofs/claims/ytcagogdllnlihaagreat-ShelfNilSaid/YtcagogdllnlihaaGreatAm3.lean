/- When an abstract heap stands for a world of the model. -/
import Derived.Test.YtcagogdllnlihaaGreatAmY
import Derived.Laws.Cells
import Derived.Laws.CopyRow
set_option linter.all false
namespace Go.Am

structure Loc where
  blk : Nat
  sh : Nat
  csz : Nat
structure Ren where
  loc : Nat → Option Loc
  fp : Nat → Nat → Prop
instance : CoeFun Ren (fun _ => Nat → Option Loc) := ⟨Ren.loc⟩
def Ext (π π' : Ren) : Prop := ∀ i l, π i = some l → π' i = some l
theorem Ext.refl (π : Ren) : Ext π π := fun _ _ h => h
theorem Ext.trans {a b c : Ren} (h : Ext a b) (h' : Ext b c) : Ext a c := fun i l x => h' i l (h i l x)

def TagOk (tag len cap' off : Nat) (l : Loc) : Prop :=
  len ≤ cap' ∧ (tag = 0 → cap' = 0) ∧ ∀ s, tag = s + 2 → l.sh + off + cap' * s ≤ l.csz

mutual
inductive VRel (π : Ren) : Value → Value → Prop
  | poison (v : Value) : VRel π poison v
  | bool (b : Bool) : VRel π (.bool b) (.bool b)
  | int (k : IntKind) (n : Int) : VRel π (.int k n) (.int k n)
  | string (s : ByteArray) : VRel π (.string s) (.string s)
  | nilFunc : VRel π .nilFunc .nilFunc
  | nilIface : VRel π .nilIface .nilIface
  | nilPtr : VRel π (.pointer none) (.pointer none)
  | nilSlice (n m : Nat) : VRel π (.slice none n m) (.slice none n m)
  | nilMap : VRel π (.map none) (.map none)
  | ptrB (b o : Nat) : VRel π (.pointer (some ⟨b, o, none⟩)) (.pointer (some ⟨b, o, none⟩))
  | ptrN (i off : Nat) (l : Loc) (h : π i = some l) : VRel π (.pointer (some ⟨i, off, some 0⟩)) (.pointer (some ⟨l.blk, l.sh + off, none⟩))
  | slcB (b o len cap : Nat) : VRel π (.slice (some ⟨b, o, none⟩) len cap) (.slice (some ⟨b, o, none⟩) len cap)
  | slcN (i off len tag cap' : Nat) (l : Loc) (h : π i = some l) (ht : TagOk tag len cap' off l) :
      VRel π (.slice (some ⟨i, off, some 0⟩) len tag) (.slice (some ⟨l.blk, l.sh + off, none⟩) len cap')
  | slcE (i off tag b o : Nat) (l : Loc) (h : π i = some l) : VRel π (.slice (some ⟨i, off, some 0⟩) 0 tag) (.slice (some ⟨b, o, none⟩) 0 0)
  | mapN (i : Nat) (l : Loc) (h : π i = some l) : VRel π (.map (some i)) (.map (some l.blk))
  | func (fn : Fn) (xs ys xs' ys' : List Value) (hx : VRels π xs xs') (hy : VRels π ys ys') : VRel π (.func fn ⟨xs⟩ ⟨ys⟩) (.func fn ⟨xs'⟩ ⟨ys'⟩)
  | iface (t : TypeId) (v v' : Value) (h : VRel π v v') : VRel π (.iface t v) (.iface t v')
  | agg (xs xs' : List Value) (h : VRels π xs xs') : VRel π (.agg ⟨xs⟩) (.agg ⟨xs'⟩)
  | tuple (xs xs' : List Value) (h : VRels π xs xs') : VRel π (.tuple ⟨xs⟩) (.tuple ⟨xs'⟩)
inductive VRels (π : Ren) : List Value → List Value → Prop
  | nil : VRels π [] []
  | cons (v v' : Value) (vs vs' : List Value) (h : VRel π v v') (hs : VRels π vs vs') : VRels π (v :: vs) (v' :: vs')
end

mutual
theorem VRel.mono {π π' : Ren} (e : Ext π π') : ∀ {v v' : Value}, VRel π v v' → VRel π' v v'
  | _, _, .poison v => .poison v
  | _, _, .bool b => .bool b
  | _, _, .int k n => .int k n
  | _, _, .string s => .string s
  | _, _, .nilFunc => .nilFunc
  | _, _, .nilIface => .nilIface
  | _, _, .nilPtr => .nilPtr
  | _, _, .nilSlice n m => .nilSlice n m
  | _, _, .nilMap => .nilMap
  | _, _, .ptrB b o => .ptrB b o
  | _, _, .ptrN i off l h => .ptrN i off l (e i l h)
  | _, _, .slcB b o n m => .slcB b o n m
  | _, _, .slcN i off len tag cap' l h ht => .slcN i off len tag cap' l (e i l h) ht
  | _, _, .slcE i off tag b o l h => .slcE i off tag b o l (e i l h)
  | _, _, .mapN i l h => .mapN i l (e i l h)
  | _, _, .func fn xs ys xs' ys' hx hy => .func fn xs ys xs' ys' (hx.mono e) (hy.mono e)
  | _, _, .iface t v v' h => .iface t v v' (h.mono e)
  | _, _, .agg xs xs' h => .agg xs xs' (h.mono e)
  | _, _, .tuple xs xs' h => .tuple xs xs' (h.mono e)
theorem VRels.mono {π π' : Ren} (e : Ext π π') : ∀ {v v' : List Value}, VRels π v v' → VRels π' v v'
  | _, _, .nil => .nil
  | _, _, .cons v v' vs vs' h hs => .cons v v' vs vs' (h.mono e) (hs.mono e)
end

theorem VRels.length {π : Ren} : ∀ {xs ys : List Value}, VRels π xs ys → xs.length = ys.length
  | _, _, .nil => rfl
  | _, _, .cons _ _ _ _ _ hs => by simp [hs.length]
theorem VRels.get {π : Ren} : ∀ {xs ys : List Value}, VRels π xs ys → ∀ (k : Nat) (v : Value), xs[k]? = some v → ∃ v', ys[k]? = some v' ∧ VRel π v v'
  | _, _, .nil, k, v, h => by simp at h
  | _, _, .cons x y xs ys h hs, 0, v, hk => by simp at hk; subst hk; exact ⟨y, by simp, h⟩
  | _, _, .cons x y xs ys h hs, k + 1, v, hk => by simpa using hs.get k v (by simpa using hk)
theorem VRels.of_get {π : Ren} : ∀ {xs ys : List Value}, xs.length = ys.length → (∀ (k : Nat) (v v' : Value), xs[k]? = some v → ys[k]? = some v' → VRel π v v') → VRels π xs ys
  | [], [], _, _ => .nil
  | x :: xs, y :: ys, hl, h => .cons x y xs ys (h 0 x y (by simp) (by simp)) (VRels.of_get (by simpa using hl) fun k v v' hv hv' => h (k + 1) v v' (by simpa using hv) (by simpa using hv'))
  | [], _ :: _, hl, _ => by simp at hl
  | _ :: _, [], hl, _ => by simp at hl
theorem VRels.append {π : Ren} : ∀ {a a' b b' : List Value}, VRels π a a' → VRels π b b' → VRels π (a ++ b) (a' ++ b')
  | _, _, _, _, .nil, hb => hb
  | _, _, _, _, .cons x y xs ys h hs, hb => .cons x y _ _ h (hs.append hb)
theorem VRels.take {π : Ren} : ∀ {a a' : List Value}, VRels π a a' → ∀ n, VRels π (a.take n) (a'.take n)
  | _, _, .nil, n => by simp; exact .nil
  | _, _, .cons x y xs ys h hs, 0 => by simp; exact .nil
  | _, _, .cons x y xs ys h hs, n + 1 => by simpa using .cons x y _ _ h (hs.take n)
theorem VRels.drop {π : Ren} : ∀ {a a' : List Value}, VRels π a a' → ∀ n, VRels π (a.drop n) (a'.drop n)
  | _, _, .nil, n => by simp; exact .nil
  | _, _, .cons x y xs ys h hs, 0 => by simpa using .cons x y _ _ h hs
  | _, _, .cons x y xs ys h hs, n + 1 => by simpa using hs.drop n
theorem VRels.map {π : Ren} {α : Type} {f g : α → Value} : ∀ (l : List α), (∀ x ∈ l, VRel π (f x) (g x)) → VRels π (l.map f) (l.map g)
  | [], _ => .nil
  | x :: l, h => .cons _ _ _ _ (h x (by simp)) (VRels.map l fun y hy => h y (by simp [hy]))

theorem VRel.of_plainB {π : Ren} : ∀ {v : Value}, plainB v = true → VRel π v v
  | .bool b, _ => .bool b
  | .int k n, _ => .int k n
  | .string s, _ => .string s
  | .nilFunc, _ => .nilFunc
  | .nilIface, _ => .nilIface
  | .pointer none, _ => .nilPtr
  | .slice none n m, _ => .nilSlice n m
  | .map none, _ => .nilMap
  | .pointer (some ⟨b, o, none⟩), _ => .ptrB b o
  | .slice (some ⟨b, o, none⟩) n m, _ => .slcB b o n m
  | .pointer (some ⟨b, o, some s⟩), h => by simp [plainB] at h
  | .slice (some ⟨b, o, some s⟩) n m, h => by simp [plainB] at h
theorem VRels.of_plainB {π : Ren} : ∀ {vs : List Value}, vs.all plainB = true → VRels π vs vs
  | [], _ => .nil
  | v :: vs, h => by
    simp only [List.all_cons, Bool.and_eq_true] at h
    exact .cons _ _ _ _ (VRel.of_plainB h.1) (VRels.of_plainB h.2)
theorem VRel.of_constOk {π : Ren} {v : Value} (h : constOk v = true) : VRel π v v := by
  cases v <;> first
    | exact VRel.of_plainB h
    | (rename_i cs; exact .agg _ _ (VRels.of_plainB h))
theorem VRel.undef {π : Ren} : VRel π undef undef := .tuple [] [] .nil

theorem VRel.vlist {π : Ren} {v v' : Value} (h : VRel π v v') (hp : v ≠ Am.poison) : VRels π (vlist v) v'.cells.toList := by
  cases h <;> first
    | exact absurd rfl hp
    | (simp only [Am.vlist, Value.cells]; first
        | assumption
        | exact .cons _ _ _ _ (by constructor <;> assumption) .nil)

structure OCells (π : Ren) (l : Loc) (w : World) (e : TypeId) (c : List Value) : Prop where
  blk : ∃ c', w.heap[l.blk]? = some (.cells c' e (0, 0)) ∧ c'.size = l.csz ∧ l.sh + c.length ≤ l.csz ∧
    ∀ (k : Nat) (v : Value), c[k]? = some v → ∃ v', c'[l.sh + k]? = some v' ∧ VRel π v v'
structure ERel (π : Ren) (e e' : MapEntry) : Prop where
  key : e.key = e'.key
  val : VRel π e.val e'.val
  born : e.born = e'.born
  ik : ∃ k n, e.key = .int k n
inductive EsRel (π : Ren) : List MapEntry → List MapEntry → Prop
  | nil : EsRel π [] []
  | cons (e e' : MapEntry) (es es' : List MapEntry) (h : ERel π e e') (hs : EsRel π es es') : EsRel π (e :: es) (e' :: es')
def OChk (π : Ren) (l : Loc) (w : World) : Ob → Prop
  | .cells e c => OCells π l w e c
  | .map es clock => ∃ es', w.heap[l.blk]? = some (.map es' clock) ∧ EsRel π es es'.toList
  | .iter none since seen last => w.heap[l.blk]? = some (.mapIter none since seen last) ∧ l.sh = 0
  | .iter (some m) since seen last => (∃ lm, π m = some lm ∧ w.heap[l.blk]? = some (.mapIter (some lm.blk) since seen last)) ∧ l.sh = 0
  | .gone => True
  | .ghost _ => True
def alive : Ob → Bool
  | .gone => false
  | .ghost _ => false
  | _ => true
/-- the block of the world that the heap's things lie in -/
def OwnO (G : Nat → Option Ob) (π : Ren) (b : Nat) : Prop := ∃ i o l, G i = some o ∧ alive o = true ∧ π i = some l ∧ l.blk = b
def OwnG (G : Nat → Option Ob) (π : Ren) (b : Nat) : Prop := ∃ i g, G i = some (.ghost g) ∧ π.fp i b
def Owned (π : Ren) (H : Heap) (b : Nat) : Prop := OwnO H.get π b ∨ OwnG H.get π b

/-- no row at or past n is frozen -/
def Cold (n : Nat) (w : World) : Prop := ∀ b c e r, n ≤ b → w.heap[b]? = some (.cells c e r) → r = (0, 0)
theorem OChk.cold {π : Ren} {l : Loc} {w : World} : ∀ {o : Ob}, OChk π l w o → alive o = true → ∀ c e r, w.heap[l.blk]? = some (.cells c e r) → r = (0, 0)
  | .cells _ _, h, _, c, e, r, hw => by
    obtain ⟨c', h1, _⟩ := h.blk
    rw [hw] at h1; cases h1; rfl
  | .map _ _, ⟨_, h1, _⟩, _, c, e, r, hw => by rw [hw] at h1; cases h1
  | .iter none _ _ _, h, _, c, e, r, hw => by have := h.1; rw [hw] at this; cases this
  | .iter (some _) _ _ _, ⟨⟨_, _, h1⟩, _⟩, _, c, e, r, hw => by rw [hw] at h1; cases h1
  | .gone, _, ha, _, _, _, _ => by cases ha
  | .ghost _, _, ha, _, _, _, _ => by cases ha
theorem Cold.alloc {n : Nat} {w : World} (h : Cold n w) {x : Obj} (hx : ∀ c e r, (w.alloc x).heap[w.heap.size]? = some (.cells c e r) → r = (0, 0)) : Cold n (w.alloc x) := by
  intro b c e r hb hw
  by_cases he : b = w.heap.size
  · subst he; exact hx c e r hw
  · have hw' : (w.heap.push x)[b]? = some (.cells c e r) := hw
    rw [Array.getElem?_push, if_neg he] at hw'
    exact h b c e r hb hw'

/-- what is kept of a thing whose block is another one, and whose renaming only grows -/
theorem OChk.keep {π π' : Ren} {l : Loc} {w w' : World} (e : Ext π π') : ∀ {o : Ob}, OChk π l w o → w'.heap[l.blk]? = w.heap[l.blk]? → OChk π' l w' o
  | .cells t c, h, hw => by
    obtain ⟨c', h1, h2, h3, h4⟩ := h.blk
    exact ⟨c', by rw [hw]; exact h1, h2, h3, fun k v hk => let ⟨v', a, b⟩ := h4 k v hk; ⟨v', a, b.mono e⟩⟩
  | .map es clk, ⟨es', h1, h2⟩, hw => by
    refine ⟨es', by rw [hw]; exact h1, ?_⟩
    clear h1
    generalize es'.toList = m at h2
    induction h2 with
    | nil => exact .nil
    | cons a b as bs hab _ ih => exact .cons _ _ _ _ ⟨hab.key, hab.val.mono e, hab.born, hab.ik⟩ ih
  | .iter none s n t, h, hw => ⟨by rw [hw]; exact h.1, h.2⟩
  | .iter (some m) s n t, ⟨⟨lm, h1, h2⟩, h3⟩, hw => ⟨⟨lm, e _ _ h1, by rw [hw]; exact h2⟩, h3⟩
  | .gone, _, _ => trivial
  | .ghost _, _, _ => trivial

/-- what stands for a ghost in a world: things of its own, in the order of its layout -/
inductive GRep : Gh → Loc → (Nat → Prop) → World → Prop
  | mk (g : Gh) (F : Nat → Prop) (w : World) (L : List Ob) (π : Ren) (lf : Nat → Loc) (lay : Lay g L) (pos : L ≠ [])
    (born : ∀ i o, L[i]? = some o → π i = some (lf i))
    (obs : ∀ i o, L[i]? = some o → alive o = true → OChk π (lf i) w o)
    (inj : ∀ i j o u, L[i]? = some o → alive o = true → L[j]? = some u → alive u = true → (lf i).blk = (lf j).blk → i = j)
    (dom : ∀ i l, π i = some l → i < L.length)
    (gst : ∀ i g', L[i]? = some (.ghost g') → GRep g' (lf i) (π.fp i) w)
    (ord : ∀ i g' b j o, L[i]? = some (.ghost g') → π.fp i b → L[j]? = some o → alive o = true → (lf j).blk ≠ b)
    (dis : ∀ i g' j g'' b, L[i]? = some (.ghost g') → L[j]? = some (.ghost g'') → π.fp i b → π.fp j b → i = j)
    (own : ∀ b, OwnO (fun i => L[i]?) π b ∨ OwnG (fun i => L[i]?) π b → F b) : GRep g (lf 0) F w

structure GhOk (π : Ren) (H : Heap) (w : World) : Prop where
  has : ∀ i g, H.get i = some (.ghost g) → ∃ l, π i = some l ∧ GRep g l (π.fp i) w
  fpb : ∀ i g b, H.get i = some (.ghost g) → π.fp i b → H.base.heap.size ≤ b ∧ b < w.heap.size
  ord : ∀ i g b j o l, H.get i = some (.ghost g) → π.fp i b → H.get j = some o → alive o = true → π j = some l → l.blk ≠ b
  dis : ∀ i g j g' b, H.get i = some (.ghost g) → H.get j = some (.ghost g') → π.fp i b → π.fp j b → i = j

theorem GRep.keep {g : Gh} {l : Loc} {F : Nat → Prop} {w w' : World} (h : GRep g l F w) : (∀ b, F b → w'.heap[b]? = w.heap[b]?) → GRep g l F w' := by
  induction h with
  | mk g F w L π lf lay pos born obs inj dom gst ord dis own ih =>
    intro hk
    exact .mk g F w' L π lf lay pos born (fun i o hi ha => (obs i o hi ha).keep (Ext.refl _) (hk _ (own _ (.inl ⟨i, o, lf i, hi, ha, born i o hi, rfl⟩)))) inj dom
      (fun i g' hi => ih i g' hi fun b hb => hk b (own b (.inr ⟨i, g', hi, hb⟩))) ord dis own
theorem GhOk.not {π : Ren} {H : Heap} {w : World} (h : GhOk π H w) {b : Nat} (hb : OwnO H.get π b ∨ w.heap.size ≤ b) : ¬ OwnG H.get π b := by
  rintro ⟨i, g, hi, hf⟩
  rcases hb with ⟨j, o, l, h1, h2, h3, h4⟩ | hb
  · exact h.ord i g b j o l hi hf h1 h2 h3 h4
  · have := (h.fpb i g b hi hf).2; omega
theorem GhOk.step {π π' : Ren} {H H' : Heap} {w w' : World} (h : GhOk π H w) (e : Ext π π') (ef : π'.fp = π.fp) (hb : H'.base = H.base) (hs : w.heap.size ≤ w'.heap.size)
    (hg : ∀ i g, H'.get i = some (.ghost g) → H.get i = some (.ghost g)) (hk : ∀ b, OwnG H.get π b → w'.heap[b]? = w.heap[b]?)
    (ho : ∀ b, OwnO H'.get π' b → OwnO H.get π b ∨ w.heap.size ≤ b) : GhOk π' H' w' := by
  refine ⟨fun i g hi => ?_, fun i g b hi hf => ?_, fun i g b j o l hi hf hj ha hl he => ?_, fun i g j g' b hi hj hf hf' => ?_⟩
  · obtain ⟨l, h1, h2⟩ := h.has i g (hg i g hi)
    exact ⟨l, e _ _ h1, by rw [ef]; exact h2.keep fun b hb => hk b ⟨i, g, hg i g hi, hb⟩⟩
  · rw [ef] at hf
    obtain ⟨h1, h2⟩ := h.fpb i g b (hg i g hi) hf
    rw [hb]; exact ⟨h1, by omega⟩
  · rw [ef] at hf
    exact h.not (ho b ⟨j, o, l, hj, ha, hl, he⟩) ⟨i, g, hg i g hi, hf⟩
  · rw [ef] at hf hf'
    exact h.dis i g j g' b (hg i g hi) (hg j g' hj) hf hf'
theorem own_of {π π' : Ren} {H H' : Heap} {n : Nat} (ef : π'.fp = π.fp) (hg : ∀ i g, H'.get i = some (.ghost g) → H.get i = some (.ghost g))
    (ho : ∀ b, OwnO H'.get π' b → OwnO H.get π b ∨ n ≤ b) : ∀ b, Owned π' H' b → Owned π H b ∨ n ≤ b := by
  rintro b (h | ⟨i, g, hi, hf⟩)
  · exact (ho b h).imp .inl id
  · rw [ef] at hf; exact .inl (.inr ⟨i, g, hg i g hi, hf⟩)

structure Sim (π : Ren) (H : Heap) (w : World) : Prop where
  base : ∀ b, b < H.base.heap.size → w.heap[b]? = H.base.heap[b]?
  grow : H.base.heap.size ≤ w.heap.size
  obs : ∀ i o l, H.get i = some o → alive o = true → π i = some l → H.base.heap.size ≤ l.blk ∧ OChk π l w o
  inj : ∀ i j o u li lj, H.get i = some o → alive o = true → H.get j = some u → alive u = true → π i = some li → π j = some lj → li.blk = lj.blk → i = j
  fresh : ∀ i o, H.get i = some o → i < H.next
  dom : ∀ i l, π i = some l → i < H.next
  cold : Cold H.base.heap.size w
  os : w.os = H.base.os
  out : w.output = H.base.output
  gh : GhOk π H w

structure After (π : Ren) (H : Heap) (w : World) (π' : Ren) (H' : Heap) (w' : World) : Prop where
  ext : Ext π π'
  sim : Sim π' H' w'
  base : H'.base = H.base
  next : H.next ≤ H'.next
  size : w.heap.size ≤ w'.heap.size
  kept : ∀ b, b < w.heap.size → ¬ Owned π H b → w'.heap[b]? = w.heap[b]?
  own : ∀ b, Owned π' H' b → Owned π H b ∨ w.heap.size ≤ b
  unb : ∀ i o, H.get i = some o → π i = none → H'.get i = some o ∧ π' i = none

theorem After.refl {π : Ren} {H : Heap} {w : World} (h : Sim π H w) : After π H w π H w :=
  ⟨Ext.refl _, h, rfl, Nat.le_refl _, Nat.le_refl _, fun _ _ _ => rfl, fun _ h => .inl h, fun _ _ h h' => ⟨h, h'⟩⟩
theorem After.trans {π₁ π₂ π₃ : Ren} {H₁ H₂ H₃ : Heap} {w₁ w₂ w₃ : World} (a : After π₁ H₁ w₁ π₂ H₂ w₂) (b : After π₂ H₂ w₂ π₃ H₃ w₃) : After π₁ H₁ w₁ π₃ H₃ w₃ where
  ext := a.ext.trans b.ext
  sim := b.sim
  base := b.base.trans a.base
  next := Nat.le_trans a.next b.next
  size := Nat.le_trans a.size b.size
  kept := fun k hk hn => by
    rw [b.kept k (Nat.lt_of_lt_of_le hk a.size) fun ho => (a.own k ho).elim hn fun h => absurd hk (Nat.not_lt.2 h), a.kept k hk hn]
  own := fun k hk => (b.own k hk).elim (fun h => a.own k h) fun h => .inr (Nat.le_trans a.size h)
  unb := fun i o h h' => let ⟨h1, h2⟩ := a.unb i o h h'; b.unb i o h1 h2

/-- a world that differs in what no heap sees -/
theorem Sim.heap_eq {π : Ren} {H : Heap} {w w' : World} (h : Sim π H w) (e : w'.heap = w.heap) (eo : w'.os = w.os := by rfl) (et : w'.output = w.output := by rfl) : Sim π H w' := by
  obtain ⟨a, b, c, d, f, g, k, ko, kt, kg⟩ := h
  refine ⟨by rw [e]; exact a, by rw [e]; exact b, fun i o l ho hl hp => ?_, d, f, g, fun b c t r hb hw => k b c t r hb (by rw [← e]; exact hw), eo.trans ko, et.trans kt, kg.step (Ext.refl _) rfl rfl (by rw [e]; exact Nat.le_refl _) (fun _ _ h => h) (fun _ _ => by rw [e]) fun _ h => .inl h⟩
  obtain ⟨h2, h3⟩ := c i o l ho hl hp
  refine ⟨h2, ?_⟩
  cases o with
  | cells t x => obtain ⟨x⟩ := h3; exact ⟨by rw [e]; exact x⟩
  | map es clk => obtain ⟨x, y⟩ := h3; exact ⟨x, by rw [e]; exact y⟩
  | iter m s n t => cases m <;> simp only [OChk] at h3 ⊢ <;> rw [e] <;> exact h3
  | gone => trivial
  | ghost g => trivial
theorem After.heap_eq {π π' : Ren} {H H' : Heap} {w w' u : World} (h : After π H w π' H' w') (e : u.heap = w'.heap) (eo : u.os = w'.os := by rfl) (et : u.output = w'.output := by rfl) : After π H w π' H' u :=
  ⟨h.ext, h.sim.heap_eq e eo et, h.base, h.next, by rw [e]; exact h.size, by rw [e]; exact h.kept, h.own, h.unb⟩
theorem After.heap_eq' {π π' : Ren} {H H' : Heap} {w w' u : World} (h : After π H w π' H' w') (e : u.heap = w.heap) : After π H u π' H' w' :=
  ⟨h.ext, h.sim, h.base, h.next, by rw [e]; exact h.size, by rw [e]; exact h.kept, by rw [e]; exact h.own, h.unb⟩

theorem Sim.blk_lt {π : Ren} {H : Heap} {w : World} (h : Sim π H w) {i : Nat} {o : Ob} {l : Loc} (hi : H.get i = some o) (ho : alive o = true) (hl : π i = some l) : l.blk < w.heap.size := by
  obtain ⟨_, h3⟩ := h.obs i o l hi ho hl
  have key : ∀ x, w.heap[l.blk]? = some x → l.blk < w.heap.size := fun x hx => (Array.getElem?_eq_some_iff.1 hx).1
  cases o with
  | cells t x => obtain ⟨c', hc, _⟩ := h3.blk; exact key _ hc
  | map es clk => obtain ⟨x, y, _⟩ := h3; exact key _ y
  | iter m s n t =>
    cases m
    · exact key _ h3.1
    · obtain ⟨⟨lm, _, y⟩, _⟩ := h3; exact key _ y
  | gone => simp [alive] at ho
  | ghost g => simp [alive] at ho

theorem Sim.owned_lt {π : Ren} {H : Heap} {w : World} (h : Sim π H w) {b : Nat} : Owned π H b → b < w.heap.size := by
  rintro (⟨i, o, l, h1, h2, h3, rfl⟩ | ⟨i, g, h1, h2⟩)
  · exact h.blk_lt h1 h2 h3
  · exact (h.gh.fpb i g b h1 h2).2
theorem Sim.owned_ge {π : Ren} {H : Heap} {w : World} (h : Sim π H w) {b : Nat} : Owned π H b → H.base.heap.size ≤ b := by
  rintro (⟨i, o, l, h1, h2, h3, rfl⟩ | ⟨i, g, h1, h2⟩)
  · exact (h.obs i o l h1 h2 h3).1
  · exact (h.gh.fpb i g b h1 h2).1

/-! ### making -/
def Ren.put (π : Ren) (i : Nat) (l : Loc) : Ren := ⟨fun j => bif Nat.beq j i then some l else π j, π.fp⟩
theorem Ren.put_self (π : Ren) (i : Nat) (l : Loc) : Ren.put π i l i = some l := by simp [Ren.put]
theorem Ren.put_ne {π : Ren} {i j : Nat} {l : Loc} (h : j ≠ i) : Ren.put π i l j = π j := by simp [Ren.put, beqF h]
theorem Ren.ext_put {π : Ren} {i : Nat} {l : Loc} (h : π i = none) : Ext π (Ren.put π i l) := fun j m hj => by
  have : j ≠ i := fun e => by subst e; rw [h] at hj; cases hj
  rw [Ren.put_ne this]; exact hj

theorem Sim.push {π : Ren} {H : Heap} {w : World} (h : Sim π H w) (o : Ob) (x : Obj) (l : Loc) (hb : l.blk = w.heap.size) (ho : alive o = true)
    (hc : OChk (Ren.put π H.next l) l (w.alloc x) o) : After π H w (Ren.put π H.next l) (H.push o) (w.alloc x) := by
  have hn : π H.next = none := by
    cases hp : π H.next with
    | none => rfl
    | some m => exact absurd (h.dom _ _ hp) (Nat.lt_irrefl _)
  have e := Ren.ext_put (l := l) hn
  have hold : ∀ b, b < w.heap.size → (w.alloc x).heap[b]? = w.heap[b]? := fun b hlt => by
    show (w.heap.push x)[b]? = _
    simp [Array.getElem?_push, Nat.ne_of_lt hlt]
  have hgh : ∀ i g, (H.push o).get i = some (.ghost g) → H.get i = some (.ghost g) := fun i g hi => by
    rw [Heap.get_push] at hi
    split at hi
    · obtain rfl := Option.some.inj hi; cases ho
    · exact hi
  have hown : ∀ b, OwnO (H.push o).get (Ren.put π H.next l) b → OwnO H.get π b ∨ w.heap.size ≤ b := by
    rintro b ⟨i, u, m, h1, h2, h3, h4⟩
    rw [Heap.get_push] at h1
    split at h1
    · rename_i he
      rw [← he, Ren.put_self] at h3
      obtain rfl := Option.some.inj h3
      exact .inr (by omega)
    · rename_i he
      rw [Ren.put_ne (Ne.symm he)] at h3
      exact .inl ⟨i, u, m, h1, h2, h3, h4⟩
  refine ⟨e, ⟨?_, ?_, ?_, ?_, ?_, ?_, h.cold.alloc fun c t r hw => hc.cold ho c t r (by rw [hb]; exact hw), h.os, h.out,
    h.gh.step e rfl rfl (by simp) hgh (fun b hb => hold b (by obtain ⟨i, g, h1, h2⟩ := hb; exact (h.gh.fpb i g b h1 h2).2)) hown⟩, rfl, Nat.le_succ _, by simp, fun b hb _ => hold b hb, own_of rfl hgh hown, ?_⟩
  · intro b hlt
    rw [hold b (Nat.lt_of_lt_of_le hlt h.grow)]; exact h.base b hlt
  · have := h.grow; simp only [Heap.base_push, World.size_alloc]; omega
  · intro i u m hi hu hm
    rw [Heap.get_push] at hi
    split at hi
    · rename_i he
      obtain rfl := Option.some.inj hi
      rw [← he, Ren.put_self] at hm
      obtain rfl := Option.some.inj hm
      exact ⟨by rw [hb]; exact h.grow, hc⟩
    · rename_i he
      rw [Ren.put_ne (Ne.symm he)] at hm
      obtain ⟨h2, h3⟩ := h.obs i u m hi hu hm
      exact ⟨h2, h3.keep e (hold _ (h.blk_lt hi hu hm))⟩
  · intro i j u v li lj hi hu hj hv hli hlj hbl
    rw [Heap.get_push] at hi hj
    split at hi <;> split at hj
    · omega
    · rename_i e1 e2
      rw [← e1, Ren.put_self] at hli
      rw [Ren.put_ne (Ne.symm e2)] at hlj
      obtain rfl := Option.some.inj hli
      have := h.blk_lt hj hv hlj
      omega
    · rename_i e1 e2
      rw [← e2, Ren.put_self] at hlj
      rw [Ren.put_ne (Ne.symm e1)] at hli
      obtain rfl := Option.some.inj hlj
      have := h.blk_lt hi hu hli
      omega
    · rename_i e1 e2
      rw [Ren.put_ne (Ne.symm e1)] at hli
      rw [Ren.put_ne (Ne.symm e2)] at hlj
      exact h.inj i j u v li lj hi hu hj hv hli hlj hbl
  · intro i u hi
    rw [Heap.get_push] at hi
    rw [Heap.next_push]
    split at hi
    · omega
    · exact Nat.lt_succ_of_lt (h.fresh i u hi)
  · intro i m hi
    rw [Heap.next_push]
    by_cases he : i = H.next
    · omega
    · rw [Ren.put_ne he] at hi; exact Nat.lt_succ_of_lt (h.dom i m hi)
  · intro i u hi hp
    have hne : i ≠ H.next := fun he => by have := h.fresh i u hi; omega
    exact ⟨by rw [Heap.get_push, if_neg (Ne.symm hne)]; exact hi, by rw [Ren.put_ne hne]; exact hp⟩

/-- a thing is another one, its block is written -/
theorem Sim.set {π : Ren} {H : Heap} {w w' : World} (h : Sim π H w) {i : Nat} {o o' : Ob} {l : Loc} (hi : H.get i = some o) (ha : alive o = true) (ha' : alive o' = true) (hl : π i = some l)
    (hs : w'.heap.size = w.heap.size) (hk : ∀ b, b ≠ l.blk → w'.heap[b]? = w.heap[b]?) (hc : OChk π l w' o') (eo : w'.os = w.os := by rfl) (et : w'.output = w.output := by rfl) : After π H w π (H.set i o') w' := by
  have hlo : H.base.heap.size ≤ l.blk := (h.obs i o l hi ha hl).1
  have hget : ∀ j u, (H.set i o').get j = some u → alive u = true → ∃ v, H.get j = some v ∧ alive v = true := fun j u hj hu => by
    rw [Heap.get_set] at hj
    split at hj
    · rename_i e; subst e; exact ⟨o, hi, ha⟩
    · exact ⟨u, hj, hu⟩
  have hgh : ∀ j g, (H.set i o').get j = some (.ghost g) → H.get j = some (.ghost g) := fun j g hj => by
    rw [Heap.get_set] at hj
    split at hj
    · obtain rfl := Option.some.inj hj; cases ha'
    · exact hj
  have hown : ∀ b, OwnO (H.set i o').get π b → OwnO H.get π b ∨ w.heap.size ≤ b := by
    rintro b ⟨j, u, m, h1, h2, h3, h4⟩
    obtain ⟨v, hv, hav⟩ := hget j u h1 h2
    exact .inl ⟨j, v, m, hv, hav, h3, h4⟩
  refine ⟨Ext.refl _, ⟨?_, ?_, ?_, ?_, ?_, ?_, fun b c t r hb hw => ?_, eo.trans h.os, et.trans h.out,
    h.gh.step (Ext.refl _) rfl rfl (by omega) hgh (fun b hb => hk b fun he => h.gh.not (.inl ⟨i, o, l, hi, ha, hl, he.symm⟩) hb) hown⟩, rfl, Nat.le_refl _, by omega, ?_, own_of rfl hgh hown, ?_⟩
  · intro b hb; rw [hk b (by have : b < H.base.heap.size := hb; omega)]; exact h.base b hb
  · have := h.grow; simp only [Heap.base_set]; omega
  · intro j u m hj hu hm
    rw [Heap.get_set] at hj
    split at hj
    · rename_i e; subst e
      obtain rfl := Option.some.inj hj
      obtain rfl : l = m := by rw [hl] at hm; exact Option.some.inj hm
      exact ⟨hlo, hc⟩
    · rename_i e
      obtain ⟨h2, h3⟩ := h.obs j u m hj hu hm
      refine ⟨h2, h3.keep (Ext.refl _) (hk _ fun hb => e ?_)⟩
      exact h.inj i j o u l m hi ha hj hu hl hm hb.symm
  · intro a b u v la lb hu hau hv hav
    obtain ⟨u', hu', hau'⟩ := hget a u hu hau
    obtain ⟨v', hv', hav'⟩ := hget b v hv hav
    exact h.inj a b u' v' la lb hu' hau' hv' hav'
  · intro j u hj
    rw [Heap.get_set] at hj
    split at hj
    · rename_i e; subst e; exact h.fresh _ _ hi
    · exact h.fresh j u hj
  · exact h.dom
  · by_cases he : b = l.blk
    · subst he; exact hc.cold ha' c t r hw
    · rw [hk b he] at hw; exact h.cold b c t r hb hw
  · intro b _ hn
    exact hk b fun e => hn (.inl ⟨i, o, l, hi, ha, hl, e.symm⟩)
  · intro j u hj hp
    have hne : i ≠ j := fun he => by subst he; rw [hl] at hp; cases hp
    exact ⟨by rw [Heap.get_set, if_neg hne]; exact hj, hp⟩

/-! ### reading -/
theorem cell?_of_blk {w : World} {b o : Nat} {c : Array Value} {e : TypeId} {fr : Nat × Nat} {v : Value} (h : w.heap[b]? = some (.cells c e fr)) (hv : c[o]? = some v) : w.cell? ⟨b, o, none⟩ = some v := by
  simp [World.cell?, h, hv]
theorem baseCells_spec (B : World) (b : Nat) : ∀ (n off : Nat) (l : List Value), baseCells B b off n = some l →
    l.length = n ∧ l.all plainB = true ∧ ∀ (k : Nat) (v : Value), l[k]? = some v → B.cell? ⟨b, off + k, none⟩ = some v
  | 0, off, l, h => by simp [baseCells] at h; subst h; simp
  | n + 1, off, l, h => by
    simp only [baseCells] at h
    split at h
    · rename_i v hv
      cases hp : plainB v with
      | false => simp [hp] at h
      | true =>
        simp only [hp, cond_true, Option.map_eq_some_iff] at h
        obtain ⟨r, hr, rfl⟩ := h
        obtain ⟨h1, h2, h3⟩ := baseCells_spec B b n (off + 1) r hr
        refine ⟨by simp [h1], by simp [hp, h2], fun k u hk => ?_⟩
        cases k with
        | zero => simp at hk; subst hk; simpa using hv
        | succ k => have := h3 k u (by simpa using hk); rwa [show off + 1 + k = off + (k + 1) by omega] at this
    · cases h

/-- an address of the heap, and the world's -/
inductive ARel (π : Ren) : Addr → Addr → Prop
  | base (b o : Nat) : ARel π ⟨b, o, none⟩ ⟨b, o, none⟩
  | new (i off : Nat) (l : Loc) (h : π i = some l) : ARel π ⟨i, off, some 0⟩ ⟨l.blk, l.sh + off, none⟩

theorem Sim.cells {π : Ren} {H : Heap} {w : World} (h : Sim π H w) {a a' : Addr} (ha : ARel π a a') {n : Nat} {l : List Value} (hl : H.cellsAt a n = some l) :
    l.length = n ∧ ∃ l' : List Value, VRels π l l' ∧ (∀ (j : Nat) (v : Value), l'[j]? = some v → w.cell? (a'.add j) = some v) := by
  cases ha with
  | base b o =>
    simp only [Heap.cellsAt] at hl
    obtain ⟨h1, h2, h3⟩ := baseCells_spec _ _ _ _ _ hl
    refine ⟨h1, l, VRels.of_plainB h2, fun j v hj => ?_⟩
    have h4 := h3 j v hj
    have hlt : b < H.base.heap.size := by
      rcases Nat.lt_or_ge b H.base.heap.size with hlt | hge
      · exact hlt
      · simp [World.cell?, Array.getElem?_eq_none hge] at h4
    have e : (⟨b, o, none⟩ : Addr).add j = ⟨b, o + j, none⟩ := by unfold Addr.add; split <;> simp_all
    rw [e]
    simpa [World.cell?, h.base b hlt] using h4
  | new i off lo hi =>
    simp only [Heap.cellsAt] at hl
    split at hl
    · rename_i t c hg
      cases hb : Nat.ble (off + n) c.length with
      | false => simp [hb] at hl
      | true =>
        simp only [hb, cond_true, Option.some.injEq] at hl
        have hle := Nat.le_of_ble_eq_true hb
        obtain ⟨h2, h3⟩ := h.obs i _ lo hg rfl hi
        obtain ⟨c', hc1, hc2, hc3, hc4⟩ := h3.blk
        subst hl
        refine ⟨by simp; omega, ((c'.toList.drop (lo.sh + off)).take n), VRels.of_get (by simp; omega) ?_, ?_⟩
        · intro k v v' hv hv'
          have hk : k < n := by
            rcases Nat.lt_or_ge k n with hk | hk
            · exact hk
            · rw [List.getElem?_take] at hv; simp [Nat.not_lt.2 hk] at hv
          rw [List.getElem?_take, if_pos hk, List.getElem?_drop] at hv hv'
          obtain ⟨v2, h5, h6⟩ := hc4 (off + k) v hv
          have : v2 = v' := by
            rw [Array.getElem?_toList] at hv'
            rw [show lo.sh + off + k = lo.sh + (off + k) by omega, h5] at hv'
            exact Option.some.inj hv'
          exact this ▸ h6
        · intro j v hj
          have hk : j < n := by
            rcases Nat.lt_or_ge j n with hk | hk
            · exact hk
            · rw [List.getElem?_take] at hj; simp [Nat.not_lt.2 hk] at hj
          rw [List.getElem?_take, if_pos hk, List.getElem?_drop, Array.getElem?_toList] at hj
          have e : (⟨lo.blk, lo.sh + off, none⟩ : Addr).add j = ⟨lo.blk, lo.sh + off + j, none⟩ := by unfold Addr.add; split <;> simp_all
          rw [e]
          exact cell?_of_blk hc1 hj
    · cases hl

theorem splice_get (c xs : List Value) (off k : Nat) (h : off + xs.length ≤ c.length) :
    (splice c off xs)[k]? = if off ≤ k ∧ k < off + xs.length then xs[k - off]? else c[k]? := by
  unfold splice
  by_cases h1 : k < off
  · rw [List.getElem?_append_left (by simp; omega), List.getElem?_take, if_pos h1, if_neg (by omega)]
  · rw [List.getElem?_append_right (by simp; omega), List.length_take, Nat.min_eq_left (by omega)]
    by_cases h2 : k < off + xs.length
    · rw [List.getElem?_append_left (by omega), if_pos ⟨by omega, h2⟩]
    · rw [List.getElem?_append_right (by omega), List.getElem?_drop, if_neg (by omega)]
      congr 1; omega
theorem splice_length (c xs : List Value) (off : Nat) (h : off + xs.length ≤ c.length) : (splice c off xs).length = c.length := by
  unfold splice; simp; omega

theorem oneCell_of {π : Ren} : ∀ {v v' : Value}, VRel π v v' → scalar v = true → v'.oneCell' = true := by
  intro v v' h hs
  cases h <;> first | rfl | (simp [scalar, poison] at hs)
theorem oneCells_of {π : Ren} : ∀ {vs vs' : List Value}, VRels π vs vs' → vs.all scalar = true → ∀ v ∈ vs', v.oneCell' = true
  | _, _, .nil, _ => by simp
  | _, _, .cons x y xs ys h hs, hall => by
    simp only [List.all_cons, Bool.and_eq_true] at hall
    intro v hv
    rcases List.mem_cons.1 hv with rfl | hv
    · exact oneCell_of h hall.1
    · exact oneCells_of hs hall.2 v hv

/-- cells are written -/
theorem Sim.putCells {P : Program} {π : Ren} {H H' : Heap} {w : World} (h : Sim π H w) {a a' : Addr} (ha : ARel π a a') {xs xs' : List Value} (hx : VRels π xs xs') (hp : putCells H a xs = some H') :
    ∃ w', (storeCells a' xs').run P w = .ok () w' ∧ After π H w π H' w' := by
  cases ha with
  | base b o => simp [Am.putCells] at hp
  | new i off l hi =>
    simp only [Am.putCells] at hp
    split at hp
    · rename_i t c hs' hg
      cases hb : (Nat.ble (off + xs.length) c.length && xs.all scalar) with
      | false => simp [hb] at hp
      | true =>
        simp only [hb, cond_true, Option.some.injEq] at hp
        simp only [Bool.and_eq_true] at hb
        have hle := Nat.le_of_ble_eq_true hb.1
        obtain ⟨h2, h3⟩ := h.obs i _ l hg rfl hi
        obtain ⟨c', hc1, hc2, hc3, hc4⟩ := h3.blk
        have hlen := hx.length
        have hrun := run_storeCells_at P l.blk (l.sh + off) t xs' 0 c' w hc1 (by omega) (oneCells_of hx hb.2)
        simp only [Nat.add_zero] at hrun
        refine ⟨_, hrun, ?_⟩
        subst hp
        refine h.set hg rfl rfl hi (by simp) (fun b hb => setRow_other w l.blk b _ hb) ?_
        refine ⟨_, setRow_heap w l.blk c' _ t _ hc1, ?_, ?_, ?_⟩
        · simp only [List.size_toArray, List.length_append, List.length_take, List.length_drop, Array.length_toList]; omega
        · rw [splice_length _ _ _ hle]; omega
        · intro k v hv
          rw [splice_get _ _ _ _ hle] at hv
          have key : (c'.toList.take (l.sh + off) ++ xs' ++ c'.toList.drop (l.sh + off + xs'.length)) = splice c'.toList (l.sh + off) xs' := by
            unfold splice; rw [List.append_assoc]
          rw [key]
          simp only [List.getElem?_toArray]
          rw [splice_get _ _ _ _ (by simp only [Array.length_toList]; omega)]
          split at hv
          · rename_i hr
            rw [if_pos (by omega)]
            obtain ⟨v', hv', hr'⟩ := hx.get _ _ hv
            exact ⟨v', by rw [show l.sh + k - (l.sh + off) = k - off by omega]; exact hv', hr'⟩
          · rename_i hr
            rw [if_neg (by omega)]
            obtain ⟨v', hv', hr'⟩ := hc4 k v hv
            exact ⟨v', by simpa using hv', hr'⟩
    · cases hp

end Go.Am
