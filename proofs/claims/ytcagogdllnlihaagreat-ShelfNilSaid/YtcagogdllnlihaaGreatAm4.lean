/- What each operation of the model does to a world, an abstract heap does too: operations on values, and on cells. -/
import Derived.Test.YtcagogdllnlihaaGreatAm3
import Derived.Laws.Entries
set_option linter.all false
namespace Go.Am

def Gives (π : Ren) (H : Heap) (w : World) (o : Out Value) (r : Result Value) : Prop :=
  ∀ Q E, o.Sat Q E → ∃ v H' v' w' π', Q v H' ∧ r = .ok v' w' ∧ VRel π' v v' ∧ After π H w π' H' w'
theorem Gives.of {π π' : Ren} {H H' : Heap} {w w' : World} {o : Out Value} {r : Result Value} {v v' : Value} (ho : o = .ok v H') (hr : r = .ok v' w') (hv : VRel π' v v') (ha : After π H w π' H' w') : Gives π H w o r :=
  fun Q E hs => by subst ho; exact ⟨v, H', v', w', π', hs, hr, hv, ha⟩
theorem Gives.no {π : Ren} {H : Heap} {w : World} {o : Out Value} {r : Result Value} (ho : o = .fail) : Gives π H w o r := fun Q E hs => by subst ho; exact hs.elim
theorem Gives.same {π : Ren} {H : Heap} {w : World} {o : Out Value} {r : Result Value} {v v' : Value} (h : Sim π H w) (ho : o = .ok v H) (hr : r = .ok v' w) (hv : VRel π v v') : Gives π H w o r :=
  Gives.of ho hr hv (After.refl h)

section
variable {P : Program} {w : World} {t : TypeId}
theorem run_tsize {n : Nat} (h : tSize P t = some n) : (sizeOf t).run P w = .ok n w := by
  unfold tSize at h
  split at h
  · rename_i i hi; obtain rfl := Option.some.inj h; simp [sizeOf, typeInfo, hi]
  · cases h
theorem run_tinfo_bytes {n : Nat} (h : tBytes P t = some n) : ∃ i, P.info? t = some i ∧ i.bytes = n := by
  unfold tBytes at h
  split at h
  · rename_i i hi; obtain rfl := Option.some.inj h; exact ⟨i, hi, rfl⟩
  · cases h
theorem run_tagg {b : Bool} (h : tAgg P t = some b) : (isAgg t).run P w = .ok b w := by
  unfold tAgg at h
  cases hu : P.underlying t with
  | none => simp [hu] at h
  | some d => cases d <;> simp [hu] at h <;> subst h <;> simp [isAgg, run_underlying hu]
theorem tzero_spec {v : Value} (h : tZeroV P t = some v) : constOk v = true ∧ (zeroValue t).run P w = .ok v w := by
  unfold tZeroV at h
  split at h
  · rename_i i hi
    split at h
    · rename_i z hz
      cases hc : constOk z with
      | false => simp [hc] at h
      | true => simp only [hc, cond_true, Option.some.injEq] at h; subst h; exact ⟨hc, by simp [zeroValue, typeInfo, hi, hz]⟩
    · cases h
  · cases h
theorem tzero_cells {z : List Value} (h : tZero P t = some z) : ∃ v, tZeroV P t = some v ∧ z = vlist v := by
  unfold tZero at h
  split at h
  · rename_i v hv; obtain rfl := Option.some.inj h; exact ⟨v, hv, rfl⟩
  · cases h
theorem constOk_not_poison {v : Value} (h : constOk v = true) : v ≠ poison := by rintro rfl; simp [constOk, poison, plainB] at h
theorem vlist_cells {v : Value} : v.cells.toList = vlist v := by cases v <;> rfl
end

theorem VRel.arel {π : Ren} {a : Addr} {p : Value} (h : VRel π (.pointer (some a)) p) : ∃ a', p = .pointer (some a') ∧ ARel π a a' := by
  cases h with
  | ptrB b o => exact ⟨_, rfl, .base b o⟩
  | ptrN i off l h => exact ⟨_, rfl, .new i off l h⟩
theorem ARel.vrel {π : Ren} {a a' : Addr} (h : ARel π a a') : VRel π (.pointer (some a)) (.pointer (some a')) := by
  cases h with
  | base b o => exact .ptrB b o
  | new i off l h => exact .ptrN i off l h
theorem ARel.mv {π : Ren} {a a' : Addr} (h : ARel π a a') (n : Nat) : ARel π (mv a n) (a'.add n) := by
  cases h with
  | base b o =>
    have : (⟨b, o, none⟩ : Addr).add n = ⟨b, o + n, none⟩ := by unfold Addr.add; split <;> simp_all
    rw [this]; exact .base b (o + n)
  | new i off l h =>
    have : (⟨l.blk, l.sh + off, none⟩ : Addr).add n = ⟨l.blk, l.sh + (off + n), none⟩ := by unfold Addr.add; split <;> simp_all <;> omega
    rw [this]; exact .new i (off + n) l h
theorem ARel.add0 {π : Ren} {a a' : Addr} (_ : ARel π a a') : a'.add 0 = a' := by unfold Addr.add; simp

section
variable {P : Program} {π : Ren} {H : Heap} {w : World} (hs : Sim π H w) {k : Nat}
include hs

theorem gives_ld {t : TypeId} {a : Bool} {n : Nat} {p p' : Value} (hp : VRel π p p') (ha : tAgg P t = some a) (hn : tSize P t = some n) :
    Gives π H w (ld a n p k H) ((Instr.loadAt t p').run P w) := by
  unfold ld
  split
  · rename_i ad
    obtain ⟨a', rfl, har⟩ := hp.arel
    split
    · rename_i l hl
      obtain ⟨h1, l', h2, h3⟩ := hs.cells har hl
      have hlen := h2.length
      split
      · refine Gives.same hs rfl ?_ (.agg _ l' h2)
        have := run_loadCells_list (P := P) w a' l' h3
        rw [← hlen, h1] at this
        simp [Instr.loadAt, Instr.sureAddr, loadVar, run_tagg ha, run_tsize hn, this]
      · rename_i x
        cases h2 with
        | cons _ x' _ _ hx hnil =>
          cases hnil
          refine Gives.same hs rfl ?_ hx
          have := h3 0 x' (by simp)
          rw [har.add0] at this
          simp [Instr.loadAt, Instr.sureAddr, loadVar, run_tagg ha, this]
      · exact Gives.no rfl
    · exact Gives.no rfl
  · exact Gives.no rfl

theorem gives_st {t : TypeId} {n : Nat} {p p' x x' : Value} (hp : VRel π p p') (hx : VRel π x x') (hn : tSize P t = some n) :
    ∀ Q E, (st n p x k H).Sat Q E → ∃ H' w', Q undef H' ∧ (Instr.storeAt t p' x').run P w = .ok () w' ∧ After π H w π H' w' := by
  intro Q E hsat
  unfold st at hsat
  split at hsat
  · rename_i ad
    obtain ⟨a', rfl, har⟩ := hp.arel
    cases hb : Nat.beq (vlist x).length n with
    | false => simp [hb] at hsat; exact hsat.elim
    | true =>
      simp only [hb, cond_true] at hsat
      have hlen := Nat.eq_of_beq_eq_true hb
      split at hsat
      · rename_i H' hput
        have hnp : x ≠ poison := by
          rintro rfl
          cases har with
          | base => simp [putCells] at hput
          | new i off l h =>
            simp only [putCells] at hput
            split at hput
            · simp [vlist, poison, scalar] at hput
            · cases hput
        have hv := hx.vlist hnp
        obtain ⟨w', hr, ha⟩ := hs.putCells (P := P) har hv hput
        refine ⟨H', w', hsat, ?_, ha⟩
        have h2 := hv.length
        simp [Instr.storeAt, Instr.sureAddr, storeVar, run_tsize hn, hr]
        simp at h2; omega
      · exact hsat.elim
  · exact hsat.elim

theorem after_new {o : Ob} {x : Obj} {l : Loc} (hb : l.blk = w.heap.size) (ho : alive o = true) (hc : OChk (Ren.put π H.next l) l (w.alloc x) o) :
    After π H w (Ren.put π H.next l) (H.push o) (w.alloc x) := hs.push o x l hb ho hc

theorem ext_new (l : Loc) : Ext π (Ren.put π H.next l) := by
  refine Ren.ext_put ?_
  cases hp : π H.next with
  | none => rfl
  | some m => exact absurd (hs.dom _ _ hp) (Nat.lt_irrefl _)

omit hs in
theorem heap_new {x : Obj} : (w.alloc x).heap[w.heap.size]? = some x := by
  show (w.heap.push x)[w.heap.size]? = _
  simp

omit hs in
theorem ocells_new {l : Loc} {e : TypeId} {c c' : List Value} {w' : World} (hw : w'.heap[l.blk]? = some (.cells ⟨c'⟩ e (0, 0))) (hsz : c'.length = l.csz) (hsh : l.sh = 0) (more : c.length ≤ c'.length)
    (hv : ∀ (k : Nat) (v : Value), c[k]? = some v → ∃ v', c'[k]? = some v' ∧ VRel π v v') : OCells π l w' e c :=
  ⟨_, hw, hsz, by rw [hsh]; omega, fun k v hk => by
    obtain ⟨v', h1, h2⟩ := hv k v hk
    exact ⟨v', by rw [hsh]; simpa using h1, h2⟩⟩

/-- a row is made -/
theorem row_new {e : TypeId} {c c' more : List Value} (hv : VRels π c c') :
    let l : Loc := ⟨w.heap.size, 0, (c' ++ more).length⟩
    After π H w (Ren.put π H.next l) (H.push (.cells e c)) (w.alloc (.cells ⟨c' ++ more⟩ e (0, 0))) := by
  intro l
  refine hs.push _ _ l rfl rfl ?_
  refine ocells_new (c' := c' ++ more) (heap_new) rfl rfl (by have := hv.length; simp; omega) ?_
  intro k v hk
  obtain ⟨v', h1, h2⟩ := hv.get k v hk
  refine ⟨v', ?_, h2.mono (ext_new hs l)⟩
  rw [List.getElem?_append_left (List.getElem?_eq_some_iff.1 h1).1]; exact h1

theorem gives_new {e : TypeId} {c : List Value} {c' : Array Value} (hv : VRels π c c'.toList) :
    Gives π H w (newOb (.cells e c) k H) (.ok (.pointer (some ⟨w.heap.size, 0, none⟩)) (w.alloc (.cells c' e (0, 0)))) := by
  have h := row_new hs (e := e) (more := []) hv
  refine Gives.of rfl rfl ?_ (by simpa using h)
  exact .ptrN H.next 0 _ (Ren.put_self _ _ _)

theorem gives_alloc {t : TypeId} {z : List Value} (hz : tZero P t = some z) :
    Gives π H w (alloc t z k H) ((Instr.alloc t true (.tuple #[])).run P w) := by
  obtain ⟨v, hv, rfl⟩ := tzero_cells hz
  obtain ⟨hc, hr⟩ := tzero_spec (w := w) hv
  have hrel := (VRel.of_constOk (π := π) hc).vlist (constOk_not_poison hc)
  have := gives_new hs (k := k) (e := t) hrel
  simpa [alloc, Instr.alloc, hr, newVar, newRow, World.alloc_eq] using this
theorem gives_box {t : TypeId} {x x' : Value} (hx : VRel π x x') :
    Gives π H w (box t x k H) ((Instr.box t x').run P w) := by
  unfold box
  cases hb : bad x with
  | true => exact Gives.no rfl
  | false =>
    have hnp : x ≠ poison := by rintro rfl; cases hb
    have := gives_new hs (k := k) (e := t) (hx.vlist hnp)
    simpa [Instr.box, newVar, newRow, World.alloc_eq] using this

theorem gives_fld {s : TypeId} {fs : Array Field} {i : Nat} {f : Field} {m : Nat} {x x' : Value} (hx : VRel π x x') (hu : P.underlying s = some (.struct fs)) (hf : fs.toList[i]? = some f)
    (hm : tSize P f.type = some (m + 1)) : Gives π H w (fld f.offset x k H) ((Instr.fieldAt s x' i).run P w) := by
  unfold fld
  split
  · obtain ⟨a', rfl, har⟩ := hx.arel
    refine Gives.same hs rfl ?_ (har.mv f.offset).vrel
    rw [Array.getElem?_toList] at hf
    simp [Instr.fieldAt, run_underlying hu, hf, Instr.sureAddr, fieldPlace, run_tsize hm]
  · exact Gives.no rfl

theorem gives_pck {c a b c' a' b' : Value} (hc : VRel π c c') (ha : VRel π a a') (hb : VRel π b b') :
    Gives π H w (pck c a b k H) ((do pure (if ← asBool c' then a' else b') : Sem Value).run P w) := by
  unfold pck
  split
  · cases hc; exact Gives.same hs rfl (by simp [asBool]) ha
  · cases hc; exact Gives.same hs rfl (by simp [asBool]) hb
  · exact Gives.no rfl

theorem gives_ext {i : Nat} {t t' : Value} (ht : VRel π t t') : Gives π H w (ext i t k H) ((Instr.extract t' i).run P w) := by
  unfold ext
  split
  · rename_i vs
    cases ht with
    | tuple xs xs' hx =>
      cases hv : xs[i]? with
      | none => exact Gives.no (by simp [hv, M.fail])
      | some v =>
        obtain ⟨v', h1, h2⟩ := hx.get i v hv
        exact Gives.same hs (by simp [hv, M.pure]) (by simp [Instr.extract, h1]) h2
  · exact Gives.no rfl

theorem gives_un {op : UnOp} {x x' : Value} (hx : VRel π x x') : Gives π H w (un op x k H) ((Op.unary op x').run P w) := by
  unfold un
  split
  · cases hx; exact Gives.same hs rfl rfl (.bool _)
  · cases hx; exact Gives.same hs rfl rfl (.int _ _)
  · cases hx; exact Gives.same hs rfl rfl (.int _ _)
  · exact Gives.no rfl

theorem gives_cvt {src dst : TypeId} {ki : IntKind} {x x' : Value} {ds : TypeDesc} (hx : VRel π x x') (h1 : P.underlying src = some ds) (h2 : P.underlying dst = some (.int ki)) :
    Gives π H w (cvt ki x k H) ((convert src dst x').run P w) := by
  unfold cvt
  split
  · cases hx
    refine Gives.same hs rfl ?_ (.int _ _)
    simp [convert, run_underlying h1, run_underlying h2, Conv.intToInt]
  · exact Gives.no rfl

theorem gives_mx {x y x' y' : Value} (hx : VRel π x x') (hy : VRel π y y') (ts : Array TypeId) (t : TypeId) : Gives π H w (mx x y k H) ((Builtin.max_ ts t #[x', y']).run P w) := by
  unfold mx
  split
  · rename_i k1 a k2 b
    cases hx; cases hy
    by_cases hk : k1 = k2
    · subst hk
      simp only [decide_true, cond_true]
      exact Gives.same hs rfl (by simp [Builtin.max_, Builtin.max2]) (.int _ _)
    · simp only [hk, decide_false, cond_false]; exact Gives.no rfl
  · exact Gives.no rfl
theorem gives_mn {x y x' y' : Value} (hx : VRel π x x') (hy : VRel π y y') (ts : Array TypeId) (t : TypeId) : Gives π H w (mn x y k H) ((Builtin.min_ ts t #[x', y']).run P w) := by
  unfold mn
  split
  · rename_i k1 a k2 b
    cases hx; cases hy
    by_cases hk : k1 = k2
    · subst hk
      simp only [decide_true, cond_true]
      exact Gives.same hs rfl (by simp [Builtin.min_, Builtin.min2]) (.int _ _)
    · simp only [hk, decide_false, cond_false]; exact Gives.no rfl
  · exact Gives.no rfl

theorem gives_idxP {t el : TypeId} {n s : Nat} {x x' i i' : Value} (hx : VRel π x x') (hi : VRel π i i') (hu : P.underlying t = some (.array n el)) (hz : tSize P el = some s) :
    Gives π H w (idxP n s x i k H) ((Instr.indexAt t x' i').run P w) := by
  unfold idxP
  split
  · obtain ⟨a', rfl, har⟩ := hx.arel
    cases hi
    rename_i ki j
    by_cases hb : 0 ≤ j ∧ j < (n : Int)
    · simp only [hb.1, hb.2, decide_true, Bool.and_self, cond_true]
      refine Gives.same hs rfl ?_ (har.mv _).vrel
      simp [Instr.indexAt, asIntOf, run_underlying hu, Instr.sureAddr, hb, run_tsize hz]
    · have : (decide (0 ≤ j) && decide (j < (n : Int))) = false := by simpa using hb
      rw [this]; exact Gives.no rfl
  · exact Gives.no rfl
theorem gives_idxS {t el : TypeId} {s : Nat} {x x' i i' : Value} (hx : VRel π x x') (hi : VRel π i i') (hu : P.underlying t = some (.slice el)) (hz : tSize P el = some s) :
    Gives π H w (idxS s x i k H) ((Instr.indexAt t x' i').run P w) := by
  unfold idxS
  split
  · cases hi
    rename_i a len tag ki j
    by_cases hb : 0 ≤ j ∧ j < (len : Int)
    · simp only [hb.1, hb.2, decide_true, Bool.and_self, cond_true]
      have key : ∃ a' cap', x' = .slice (some a') len cap' ∧ ARel π a a' := by
        cases hx with
        | slcB b o _ cap => exact ⟨_, _, rfl, .base b o⟩
        | slcN i off _ _ cap' l h ht => exact ⟨_, _, rfl, .new i off l h⟩
        | slcE => omega
      obtain ⟨a', cap', rfl, har⟩ := key
      refine Gives.same hs rfl ?_ (har.mv _).vrel
      simp [Instr.indexAt, asIntOf, run_underlying hu, hb, run_tsize hz]
    · have : (decide (0 ≤ j) && decide (j < (len : Int))) = false := by simpa using hb
      rw [this]; exact Gives.no rfl
  · exact Gives.no rfl

omit hs in
theorem sub_rel {xs xs' : List Value} (h : VRels π xs xs') (off n : Nat) : VRels π ((xs.drop off).take n) ((xs'.drop off).take n) := (h.drop off).take n

theorem gives_part {t : TypeId} {a : Bool} {n off : Nat} {xs xs' : List Value} (hx : VRels π xs xs') (ha : tAgg P t = some a) (hn : tSize P t = some n) :
    Gives π H w (partV n a ((xs.drop off).take n) k H) ((part t ⟨xs'⟩ off).run P w) := by
  have hsub := sub_rel hx off n
  generalize hg0 : (xs.drop off).take n = l at hsub
  cases a with
  | true =>
    simp only [partV]
    cases hb : Nat.beq l.length n with
    | false => exact Gives.no rfl
    | true =>
      refine Gives.same hs rfl ?_ (.agg _ _ hsub)
      simp only [part, Sem.run_bind, run_tagg ha, Result.andThen_ok, if_true, Sem.run_map, run_tsize hn]
      congr 2
      simp [List.extract_eq_take_drop]
  | false =>
    generalize hg : (xs'.drop off).take n = l' at hsub
    cases hsub with
    | nil => exact Gives.no rfl
    | cons v v' r r' hv hr =>
      cases hr with
      | cons => exact Gives.no rfl
      | nil =>
        refine Gives.same hs rfl ?_ hv
        have : xs'[off]? = some v' := by
          have h0 : ((xs'.drop off).take n)[0]? = some v' := by rw [hg]; rfl
          rw [List.getElem?_take] at h0
          split at h0
          · simpa using h0
          · cases h0
        simp [part, run_tagg ha, this]

theorem gives_fldV {s : TypeId} {fs : Array Field} {i : Nat} {f : Field} {a : Bool} {n : Nat} {x x' : Value} (hx : VRel π x x') (hu : P.underlying s = some (.struct fs)) (hf : fs.toList[i]? = some f)
    (ha : tAgg P f.type = some a) (hn : tSize P f.type = some n) : Gives π H w (fldV f.offset n a x k H) ((Instr.field s x' i).run P w) := by
  unfold fldV
  split
  · cases hx with
    | agg xs xs' h =>
      have := gives_part (P := P) hs (k := k) (off := f.offset) h ha hn
      rw [Array.getElem?_toList] at hf
      simpa [Instr.field, run_underlying hu, hf, asAgg] using this
  · exact Gives.no rfl
theorem gives_idxV {t el : TypeId} {n s : Nat} {a : Bool} {x x' i i' : Value} (hx : VRel π x x') (hi : VRel π i i') (hu : P.underlying t = some (.array n el)) (hz : tSize P el = some s) (ha : tAgg P el = some a) :
    Gives π H w (idxV n s a x i k H) ((Instr.index t x' i').run P w) := by
  unfold idxV
  split
  · cases hi
    rename_i cs ki j
    cases hx with
    | agg xs xs' h =>
      by_cases hb : 0 ≤ j ∧ j < (n : Int)
      · simp only [hb.1, hb.2, decide_true, Bool.and_self, cond_true]
        have := gives_part (P := P) hs (k := k) (off := j.toNat * s) h ha hz
        simpa [Instr.index, asIntOf, run_underlying hu, hb, run_tsize hz] using this
      · have : (decide (0 ≤ j) && decide (j < (n : Int))) = false := by simpa using hb
        rw [this]; exact Gives.no rfl
  · exact Gives.no rfl
theorem gives_idxB {t : TypeId} {x x' i i' : Value} (hx : VRel π x x') (hi : VRel π i i') (hu : P.underlying t = some .string) :
    Gives π H w (idxB x i k H) ((Instr.index t x' i').run P w) := by
  unfold idxB
  split
  · cases hi
    cases hx
    rename_i s ki j
    by_cases hb : 0 ≤ j
    · simp only [hb, decide_true, cond_true]
      cases hv : s.data.toList[j.toNat]? with
      | none => exact Gives.no rfl
      | some b =>
        refine Gives.same hs rfl ?_ (.int _ _)
        have hlt := (List.getElem?_eq_some_iff.1 hv).1
        have hlt' : j.toNat < s.size := by simpa using hlt
        have : s[j.toNat]? = some b := by
          rw [getElem?_pos s j.toNat hlt']
          have := (List.getElem?_eq_some_iff.1 hv).2
          simp at this
          exact congrArg some this
        simp [Instr.index, asIntOf, run_underlying hu, hb, this]
    · simp only [hb, decide_false, cond_false]; exact Gives.no rfl
  · exact Gives.no rfl
end
end Go.Am
