/- What each operation of the model does to a world, an abstract heap does too: copy, clear, len, maps. -/
import Derived.Test.YtcagogdllnlihaaGreatAm8
set_option linter.all false
namespace Go.Am

section
variable {P : Program} {π : Ren} {H : Heap} {w : World} (hs : Sim π H w) {k : Nat}
include hs

theorem gives_cpy {sT xT ty e : TypeId} {size : Nat} {d x d' x' : Value} (hD : VRel π d d') (hX : VRel π x x') (hu : P.underlying sT = some (.slice e)) (hsz : tSize P e = some size) :
    Gives π H w (cpy size d x k H) ((Builtin.copy_ #[sT, xT] ty #[d', x']).run P w) := by
  unfold cpy
  cases d with
  | slice b sl tag =>
    cases hl : lenV (.slice b sl tag) with
    | none => exact Gives.no rfl
    | some l =>
    cases hn : lenV x with
    | none => exact Gives.no rfl
    | some n =>
    simp only
    have hlx := run_lenOf (P := P) (w := w) hX hn
    obtain rfl := lenV_slice hl
    have hd : ∃ b' cap', d' = .slice b' l cap' := by cases hD <;> exact ⟨_, _, rfl⟩
    cases h0 : Nat.beq (min n l) 0 with
    | true =>
      simp only [cond_true]
      have hmin : Nat.min n l = 0 := Nat.eq_of_beq_eq_true h0
      refine Gives.same hs rfl ?_ (.int _ _)
      have h00 := run_first0 (P := P) (size := size) (v := w) hX hn
      obtain ⟨b', cap', rfl⟩ := hd
      cases b' <;> simp [Builtin.copy_, run_underlying hu, hlx, hmin, run_tsize hsz, h00, storeCells, goInt]
    | false =>
      simp only [cond_false]
      cases b with
      | none => exact Gives.no rfl
      | some a =>
        cases hmore : H.cellsOf size (min n l) x with
        | none => exact Gives.no rfl
        | some more =>
          simp only
          cases hlen : Nat.beq more.length (min n l * size) with
          | false => exact Gives.no rfl
          | true =>
            simp only [cond_true]
            cases hput : putCells H a more with
            | none => exact Gives.no rfl
            | some H' =>
              simp only
              obtain ⟨more', r1, c1⟩ := run_first (P := P) hs hX ⟨n, hn, Nat.min_le_left _ _⟩ hmore
              have har : ∃ a' cap', d' = .slice (some a') l cap' ∧ ARel π a a' := by
                cases hD with
                | slcB bb oo _ cap => exact ⟨_, _, rfl, .base _ _⟩
                | slcN i off _ _ cap' lc hlc ht => exact ⟨_, _, rfl, .new _ _ _ hlc⟩
                | slcE => simp at h0
              obtain ⟨a', cap', rfl, har⟩ := har
              obtain ⟨w', hst, haft⟩ := hs.putCells (P := P) har r1 hput
              refine Gives.of rfl ?_ (.int _ _) haft
              have hc := c1 w rfl
              have hmm : Nat.min n l = min n l := rfl
              simp [Builtin.copy_, run_underlying hu, hlx, run_tsize hsz, hmm, hc, hst, goInt]
  | _ => exact Gives.no rfl

theorem gives_clr {sT ty e : TypeId} {z : List Value} {x x' : Value} (hX : VRel π x x') (hu : P.underlying sT = some (.slice e)) (hz : tZero P e = some z) (hzl : 0 < z.length) :
    Gives π H w (clr z x k H) ((Builtin.clear_ #[sT] ty #[x']).run P w) := by
  obtain ⟨zv, hzv, rfl⟩ := tzero_cells hz
  obtain ⟨zc, hrz⟩ := tzero_spec (w := w) hzv
  have hrel := (VRel.of_constOk (π := π) zc).vlist (constOk_not_poison zc)
  have hsz : zv.cells.size = (vlist zv).length := by rw [← Array.length_toList, vlist_cells]
  unfold clr
  split
  · rename_i a n tag
    cases h0 : Nat.beq n 0 with
    | true =>
      obtain rfl := Nat.eq_of_beq_eq_true h0
      simp only [cond_true]
      refine Gives.same hs rfl ?_ .undef
      cases hX <;> simp [Builtin.clear_, run_underlying hu, undef]
    | false =>
      simp only [cond_false]
      cases hput : putCells H a (rep n (vlist zv)) with
      | none => exact Gives.no rfl
      | some H' =>
        simp only
        have hn : n ≠ 0 := by rintro rfl; simp at h0
        have har : ∃ a' cap', x' = .slice (some a') n cap' ∧ ARel π a a' := by
          cases hX with
          | slcB bb oo _ cap => exact ⟨_, _, rfl, .base _ _⟩
          | slcN i off _ _ cap' lc hlc ht => exact ⟨_, _, rfl, .new _ _ _ hlc⟩
          | slcE => exact absurd rfl hn
        obtain ⟨a', cap', rfl, har⟩ := har
        obtain ⟨w', hst, haft⟩ := hs.putCells (P := P) har (hrel.rep n) hput
        have hzz : (Builtin.zeroCells zv.cells n).toList = rep n zv.cells.toList := range_rep zv.cells _ hsz hzl _ _ (by rw [hsz])
        refine Gives.of rfl ?_ .undef haft
        obtain ⟨m, rfl⟩ : ∃ m, n = m + 1 := ⟨n - 1, by omega⟩
        simp [Builtin.clear_, run_underlying hu, hrz, hzz, hst, undef]
  · cases hX
    refine Gives.same hs rfl ?_ .undef
    simp [Builtin.clear_, run_underlying hu, undef]
  · exact Gives.no rfl

/-! ### maps -/
omit hs in
theorem EsRel.length : ∀ {a b : List MapEntry}, EsRel π a b → a.length = b.length
  | _, _, .nil => rfl
  | _, _, .cons _ _ _ _ _ hs => by simp [EsRel.length hs]
omit hs in
theorem mfind_rel {kk : IntKind} {n : Int} {q : IntKind} : ∀ {es es' : List MapEntry} (i : Nat) (r : Option (Nat × Value)), EsRel π es es' → mfind kk n es i = some r →
    ∃ r', Instr.findNow (.int q) (.int kk n) es' i = some r' ∧ (match r, r' with
      | none, none => True
      | some (a, v), some (b, v') => a = b ∧ VRel π v v' ∧ i ≤ a ∧ ∃ e, es[a - i]? = some e ∧ e.key = .int kk n
      | _, _ => False)
  | _, _, i, r, .nil, h => by simp [mfind] at h; subst h; exact ⟨none, rfl, trivial⟩
  | _, _, i, r, .cons e e' es es' he hes, h => by
    simp only [mfind] at h
    unfold keyIs at h
    cases hk : e.key <;> simp only [hk] at h <;> first
      | (cases h; done)
      | skip
    rename_i k' m
    have hk' : e'.key = .int k' m := by rw [← he.key]; exact hk
    by_cases hkk : kk = k'
    · subst hkk
      simp only [decide_true, cond_true] at h
      by_cases hnm : n = m
      · subst hnm
        simp only [BEq.rfl] at h
        obtain rfl := Option.some.inj h
        exact ⟨some (i, e'.val), by simp [Instr.findNow, hk', Instr.sameNow], rfl, he.val, Nat.le_refl _, e, by simp, hk⟩
      · have hb : (n == m) = false := by simpa using hnm
        simp only [hb] at h
        obtain ⟨r', h1, h2⟩ := mfind_rel (q := q) (i + 1) r hes h
        refine ⟨r', by simp [Instr.findNow, hk', Instr.sameNow, hb, h1], ?_⟩
        cases r with
        | none => cases r' with
          | none => trivial
          | some => exact h2
        | some p =>
          cases r' with
          | none => exact h2
          | some p' =>
            obtain ⟨a1, a2, a3, e2, a4, a5⟩ := h2
            refine ⟨a1, a2, by omega, e2, ?_, a5⟩
            rw [show p.1 - i = (p.1 - (i + 1)) + 1 by omega]
            simpa using a4
    · simp [hkk] at h

omit hs in
theorem run_checkKey {kt : TypeId} {q kk : IntKind} {n : Int} {b : Bool} (hk : P.underlying kt = some (.int q)) : ∀ d, (Instr.checkKey b (d + 1) kt (.int kk n)).run P w = .ok () w := fun d => by
  simp [Instr.checkKey, run_underlying hk]
omit hs in
theorem run_findKey {kt : TypeId} {q kk : IntKind} {n : Int} {es' : List MapEntry} {r' : Option (Nat × Value)} (hk : P.underlying kt = some (.int q)) (h : Instr.findNow (.int q) (.int kk n) es' 0 = some r') : (Instr.findKey kt (.int kk n) es').run P w = .ok r' w := by
  simp [Instr.findKey, run_underlying hk, h]

theorem map_get {i : Nat} {l : Loc} {es : List MapEntry} {c : Nat} (hg : H.get i = some (.map es c)) (hl : π i = some l) : ∃ es', w.heap[l.blk]? = some (.map es' c) ∧ EsRel π es es'.toList := by
  exact (hs.obs i _ l hg rfl hl).2
omit hs in
theorem run_getMap {b : Nat} {es' : Array MapEntry} {c : Nat} (h : w.heap[b]? = some (.map es' c)) : (getObj b).run P w = .ok (.map es' c) w := by
  simp [getObj, Sem.run, h]
omit hs in
theorem run_setMap {b : Nat} {es' : Array MapEntry} {c : Nat} {o : Obj} (h : w.heap[b]? = some (.map es' c)) : (setObj b o).run P w = .ok () { w with heap := w.heap.setIfInBounds b o } := by
  simp [setObj, Sem.run, h]

theorem gives_lkp {t kt e : TypeId} {q : IntKind} {z : Value} {ok : Bool} {m x m' x' : Value} (hM : VRel π m m') (hX : VRel π x x') (hu : P.underlying t = some (.map kt e)) (hk : P.underlying kt = some (.int q)) (hz : tZeroV P e = some z) :
    Gives π H w (lkp z ok m x k H) ((Instr.lookup t m' x' ok).run P w) := by
  obtain ⟨zc, hrz⟩ := tzero_spec (w := w) hz
  unfold lkp
  split
  · rename_i es c kk n hes
    cases hX
    have key : ∃ es' : Array MapEntry, EsRel π es es'.toList ∧ ((m' = .map none ∧ es' = #[]) ∨ ∃ bl cl, m' = .map (some bl) ∧ w.heap[bl]? = some (.map es' cl)) := by
      unfold Heap.map? at hes
      split at hes
      · cases hM; obtain ⟨rfl, rfl⟩ := Prod.mk.inj (Option.some.inj hes); exact ⟨#[], .nil, .inl ⟨rfl, rfl⟩⟩
      · split at hes
        · rename_i hg
          obtain ⟨rfl, rfl⟩ := Prod.mk.inj (Option.some.inj hes)
          cases hM with
          | mapN i l hl =>
            obtain ⟨es', h1, h2⟩ := map_get hs hg hl
            exact ⟨es', h2, .inr ⟨_, _, rfl, h1⟩⟩
        · cases hes
      · cases hes
    obtain ⟨es', hrel, hm'⟩ := key
    have hck := fun b => run_checkKey (P := P) (w := w) (b := b) (kk := kk) (n := n) hk 9999
    cases hf : mfind kk n es 0 with
    | none => exact Gives.no rfl
    | some r =>
      obtain ⟨r', h1, h2⟩ := mfind_rel (q := q) 0 r hrel hf
      have hfk := run_findKey (P := P) (w := w) hk h1
      have h10 : (Instr.checkKey es'.isEmpty 10000 kt (.int kk n)).run P w = .ok () w := hck _
      have hall : (Instr.lookup t m' (.int kk n) ok).run P w = ((match r' with
          | some (_, v) => pure (v, true)
          | none => do pure (← zeroValue e, false) : Sem (Value × Bool)).run P w).andThen fun p w => .ok (if ok then .tuple #[p.1, .bool p.2] else p.1) w := by
        rcases hm' with ⟨rfl, rfl⟩ | ⟨bl, cl, rfl, hb⟩
        · unfold Instr.lookup
          simp only [Sem.run_bind, run_underlying hu, Result.andThen_ok, Sem.run_pure, h10, hfk]
          cases r' with
          | none => simp [hrz]
          | some p => simp
        · unfold Instr.lookup
          simp only [Sem.run_bind, run_underlying hu, Result.andThen_ok, run_getMap hb, Sem.run_pure, h10, hfk]
          cases r' with
          | none => simp [hrz]
          | some p => simp
      cases r with
      | none =>
        cases r' with
        | some p => exact h2.elim
        | none =>
          have hzr : VRel π z z := .of_constOk zc
          refine Gives.same hs rfl (v' := if ok then .tuple #[z, .bool false] else z) ?_ ?_
          · rw [hall]; simp [hrz]
          · cases ok
            · exact hzr
            · exact .tuple [z, .bool false] [z, .bool false] (.cons _ _ _ _ hzr (.cons _ _ _ _ (.bool _) .nil))
      | some p =>
        cases r' with
        | none => exact h2.elim
        | some p' =>
          obtain ⟨_, hv, _⟩ := h2
          refine Gives.same hs rfl (v' := if ok then .tuple #[p'.2, .bool true] else p'.2) ?_ ?_
          · rw [hall]; simp
          · cases ok
            · exact hv
            · exact .tuple [p.2, .bool true] [p'.2, .bool true] (.cons _ _ _ _ hv (.cons _ _ _ _ (.bool _) .nil))
  · exact Gives.no rfl

omit hs in
theorem set_heap {b i : Nat} {o : Obj} (hb : b < w.heap.size) : ({ w with heap := w.heap.setIfInBounds b o } : World).heap[i]? = if i = b then some o else w.heap[i]? := by
  show (w.heap.setIfInBounds b o)[i]? = _
  by_cases h : i = b
  · subst h; simp [hb]
  · rw [if_neg h, Array.getElem?_setIfInBounds_ne (Ne.symm h)]

theorem map_set {i : Nat} {l : Loc} {es : List MapEntry} {c : Nat} {es2 : List MapEntry} {es2' : Array MapEntry} {c2 : Nat} (hg : H.get i = some (.map es c)) (hl : π i = some l) (hr : EsRel π es2 es2'.toList) :
    After π H w π (H.set i (.map es2 c2)) { w with heap := w.heap.setIfInBounds l.blk (.map es2' c2) } := by
  have hb := hs.blk_lt hg rfl hl
  refine hs.set hg rfl rfl hl (by simp) (fun b hne => ?_) ⟨es2', ?_, hr⟩
  · rw [set_heap hb, if_neg hne]
  · rw [set_heap hb, if_pos rfl]

omit hs in
theorem EsRel.modify {a b : List MapEntry} (h : EsRel π a b) {f g : MapEntry → MapEntry} (hfg : ∀ e e', ERel π e e' → ERel π (f e) (g e')) : ∀ i, EsRel π (a.modify i f) (b.modify i g) := by
  induction h with
  | nil => intro i; cases i <;> exact .nil
  | cons e e' es es' he _ ih =>
    intro i
    cases i with
    | zero => simpa using .cons _ _ _ _ (hfg _ _ he) ‹_›
    | succ i => simpa using .cons _ _ _ _ he (ih i)
omit hs in
theorem EsRel.append {a b c d : List MapEntry} (h : EsRel π a b) (h' : EsRel π c d) : EsRel π (a ++ c) (b ++ d) := by
  induction h with
  | nil => exact h'
  | cons e e' es es' he _ ih => exact .cons _ _ _ _ he ih
omit hs in
theorem EsRel.eraseIdx {a b : List MapEntry} (h : EsRel π a b) : ∀ i, EsRel π (a.eraseIdx i) (b.eraseIdx i) := by
  induction h with
  | nil => intro i; exact .nil
  | cons e e' es es' he h2 ih =>
    intro i
    cases i with
    | zero => simpa using h2
    | succ i => simpa using .cons _ _ _ _ he (ih i)
omit hs in
theorem EsRel.get {a b : List MapEntry} (h : EsRel π a b) : ∀ (i : Nat) (e : MapEntry), a[i]? = some e → ∃ e', b[i]? = some e' ∧ ERel π e e' := by
  induction h with
  | nil => intro i e h; simp at h
  | cons e e' es es' he _ ih =>
    intro i x hx
    cases i with
    | zero => simp at hx; subst hx; exact ⟨e', by simp, he⟩
    | succ i => simpa using ih i x (by simpa using hx)

theorem gives_mupd {t kt e : TypeId} {q : IntKind} {m x v m' x' v' : Value} (hM : VRel π m m') (hX : VRel π x x') (hV : VRel π v v') (hu : P.underlying t = some (.map kt e)) (hk : P.underlying kt = some (.int q)) :
    ∀ Q E, (mupd m x v k H).Sat Q E → ∃ H' w', Q undef H' ∧ (Instr.mapUpdate t m' x' v').run P w = .ok () w' ∧ After π H w π H' w' := by
  intro Q E hsat
  unfold mupd at hsat
  split at hsat
  · rename_i i kk n
    cases hX
    split at hsat
    · rename_i es c hg
      cases hM with
      | mapN _ l hl =>
        obtain ⟨es', h1, h2⟩ := map_get hs hg hl
        have hck : (Instr.checkKey false 10000 kt (.int kk n)).run P w = .ok () w := run_checkKey hk 9999
        cases hf : mfind kk n es 0 with
        | none => rw [hf] at hsat; exact hsat.elim
        | some r =>
          rw [hf] at hsat
          obtain ⟨r', g1, g2⟩ := mfind_rel (q := q) 0 r h2 hf
          have hfk := run_findKey (P := P) (w := w) hk g1
          cases r with
          | none =>
            cases r' with
            | some p => exact g2.elim
            | none =>
              refine ⟨_, _, hsat, ?_, map_set hs hg hl (es2' := es'.push { key := .int kk n, val := v', born := c }) ?_⟩
              · simp only [Instr.mapUpdate, Sem.run_bind, run_underlying hu, Result.andThen_ok, run_getMap h1, hck, hfk, run_setMap h1]
              · rw [Array.toList_push]; exact h2.append (.cons _ _ _ _ ⟨rfl, hV, rfl, _, _, rfl⟩ .nil)
          | some p =>
            cases r' with
            | none => exact g2.elim
            | some p' =>
              obtain ⟨a1, a2, _, e0, a4, a5⟩ := g2
              obtain ⟨e0', b1, b2⟩ := h2.get _ _ a4
              have b1' : es'[p'.1]? = some e0' := by rw [← a1]; simpa using b1
              refine ⟨_, _, hsat, ?_, map_set hs hg hl (es2' := es'.modify p'.1 fun e => { e with key := .int kk n, val := v' }) ?_⟩
              · have hst : (Instr.keyThatStays (((es'[p'.1]?).map (·.key)).getD (.int kk n)) (.int kk n)).run P w = .ok (.int kk n) w := by
                  rw [b1']
                  simp only [Option.map_some, Option.getD_some, ← b2.key, a5, Instr.keyThatStays, Instr.sameBits]
                  simp
                obtain ⟨pi, pv⟩ := p'
                simp only [Instr.mapUpdate, Sem.run_bind, run_underlying hu, Result.andThen_ok, run_getMap h1, hck, hfk, hst, run_setMap h1]
              · rw [Array.toList_modify, ← a1]
                exact h2.modify (f := fun e => { e with key := .int kk n, val := v }) (g := fun e => { e with key := .int kk n, val := v' }) (fun e e' he => ⟨rfl, hV, he.born, _, _, rfl⟩) _
    · exact hsat.elim
  · exact hsat.elim

theorem gives_mdel {t kt e ty : TypeId} {q : IntKind} {m x m' x' : Value} (hM : VRel π m m') (hX : VRel π x x') (hu : P.underlying t = some (.map kt e)) (hk : P.underlying kt = some (.int q)) (t2 : TypeId) :
    Gives π H w (mdel m x k H) ((Builtin.delete_ #[t, t2] ty #[m', x']).run P w) := by
  unfold mdel
  split
  · rename_i i kk n
    cases hX
    split
    · rename_i es c hg
      cases hM with
      | mapN _ l hl =>
        obtain ⟨es', h1, h2⟩ := map_get hs hg hl
        have hck : ∀ b, (Instr.checkKey b 10000 kt (.int kk n)).run P w = .ok () w := fun b => run_checkKey hk 9999
        cases hf : mfind kk n es 0 with
        | none => exact Gives.no rfl
        | some r =>
          obtain ⟨r', g1, g2⟩ := mfind_rel (q := q) 0 r h2 hf
          have hfk := run_findKey (P := P) (w := w) hk g1
          cases r with
          | none =>
            cases r' with
            | some p => exact g2.elim
            | none =>
              have hb := hs.blk_lt hg rfl hl
              have hself : ({ w with heap := w.heap.setIfInBounds l.blk (.map es' c) } : World).heap = w.heap := by
                apply Array.ext_getElem?
                intro j
                rw [set_heap hb]
                split
                · rename_i hj; subst hj; exact h1.symm
                · rfl
              refine Gives.of (H' := H) rfl ?_ .undef ((After.refl hs).heap_eq hself)
              simp [Builtin.delete_, run_underlying hu, run_getMap h1, hck, hfk, run_setMap h1, undef]
          | some p =>
            cases r' with
            | none => exact g2.elim
            | some p' =>
              obtain ⟨a1, _⟩ := g2
              obtain ⟨pi, pv⟩ := p'
              obtain ⟨qi, qv⟩ := p
              simp only at a1
              subst a1
              refine Gives.of rfl ?_ .undef (map_set hs hg hl (es2' := es'.eraseIdxIfInBounds qi) (c2 := c) ?_)
              · simp [Builtin.delete_, run_underlying hu, run_getMap h1, hck, hfk, run_setMap h1, undef]
              · rw [Array.toList_eraseIdxIfInBounds]; exact h2.eraseIdx _
    · exact Gives.no rfl
  · rename_i kk n
    cases hX; cases hM
    have hck : (Instr.checkKey true 10000 kt (.int kk n)).run P w = .ok () w := run_checkKey hk 9999
    refine Gives.same hs rfl ?_ .undef
    simp [Builtin.delete_, run_underlying hu, hck, undef]
  · exact Gives.no rfl

theorem gives_mkMap {t : TypeId} : Gives π H w (mkMap k H) ((Instr.makeMap t none).run P w) := by
  have h := hs.push (.map [] 0) (.map #[] 0) ⟨w.heap.size, 0, 0⟩ rfl rfl ⟨#[], heap_new, .nil⟩
  refine Gives.of (v' := .map (some w.heap.size)) rfl ?_ ?_ h
  · simp [Instr.makeMap]
  · exact .mapN H.next _ (Ren.put_self _ _ _)

theorem gives_lenL {t ty e : TypeId} {x x' : Value} (hX : VRel π x x') (hu : P.underlying t = some (.slice e)) : Gives π H w (lenL x k H) ((Builtin.len_ #[t] ty #[x']).run P w) := by
  unfold lenL
  split
  · cases hX
    exact Gives.same hs rfl (by simp [Builtin.len_, run_underlying hu, goInt]) (.int _ _)
  · refine Gives.same hs rfl ?_ (.int _ _)
    cases hX <;> simp [Builtin.len_, run_underlying hu, goInt]
  · exact Gives.no rfl
theorem gives_lenT {t ty : TypeId} {x x' : Value} (hX : VRel π x x') (hu : P.underlying t = some .string) : Gives π H w (lenT x k H) ((Builtin.len_ #[t] ty #[x']).run P w) := by
  unfold lenT
  split
  · cases hX
    exact Gives.same hs rfl (by simp [Builtin.len_, run_underlying hu, goInt]) (.int _ _)
  · exact Gives.no rfl
theorem gives_lenM {t ty kt e : TypeId} {x x' : Value} (hX : VRel π x x') (hu : P.underlying t = some (.map kt e)) : Gives π H w (lenM x k H) ((Builtin.len_ #[t] ty #[x']).run P w) := by
  unfold lenM
  split
  · cases hX
    exact Gives.same hs rfl (by simp [Builtin.len_, run_underlying hu, goInt]) (.int _ _)
  · split
    · rename_i es c hg
      cases hX with
      | mapN i l hl =>
        obtain ⟨es', h1, h2⟩ := map_get hs hg hl
        refine Gives.same hs rfl ?_ (.int _ _)
        have := h2.length
        simp [Builtin.len_, run_underlying hu, run_getMap h1, goInt]
        simp at this
        omega
    · exact Gives.no rfl
  · exact Gives.no rfl
end
end Go.Am
