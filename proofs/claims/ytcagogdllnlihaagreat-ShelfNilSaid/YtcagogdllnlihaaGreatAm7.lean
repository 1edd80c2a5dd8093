/- What each operation of the model does to a world, an abstract heap does too: building, slices. -/
import Derived.Test.YtcagogdllnlihaaGreatAm6
import Derived.IntWalk
set_option linter.all false
namespace Go.Am

theorem foldl_set : ∀ (xs : List Value) (cs : Array Value) (off i : Nat), off + i + xs.length ≤ cs.size →
    ((xs.zipIdx i).foldl (fun cs (p : Value × Nat) => cs.setIfInBounds (off + p.2) p.1) cs).toList = splice cs.toList (off + i) xs
  | [], cs, off, i, _ => by simp [splice]
  | x :: xs, cs, off, i, h => by
    simp only [List.length_cons] at h
    rw [List.zipIdx_cons, List.foldl_cons]
    rw [foldl_set xs _ off (i + 1) (by simp; omega)]
    apply List.ext_getElem?
    intro k
    rw [splice_get _ _ _ _ (by simp; omega), splice_get _ _ _ _ (by simp; omega)]
    simp only [Array.toList_setIfInBounds, List.length_cons]
    by_cases h1 : off + i ≤ k ∧ k < off + i + (xs.length + 1)
    · rw [if_pos h1]
      by_cases h2 : k = off + i
      · subst h2; rw [if_neg (by omega)]; simp only [Nat.sub_self, List.getElem?_cons_zero]; rw [List.getElem?_set_self (by simp; omega)]
      · rw [if_pos (by omega)]
        rw [show k - (off + i) = (k - (off + (i + 1))) + 1 by omega, List.getElem?_cons_succ]
    · rw [if_neg h1, if_neg (by omega)]
      rw [List.getElem?_set_ne (by omega)]

theorem VRels.splice {π : Ren} {c c' xs xs' : List Value} (hc : VRels π c c') (hx : VRels π xs xs') (off : Nat) : VRels π (splice c off xs) (splice c' off xs') := by
  unfold Am.splice
  rw [hx.length]
  exact (hc.take off).append (hx.append (hc.drop _))

inductive PRel (π : Ren) : List (Nat × Value) → List (Nat × Value) → Prop
  | nil : PRel π [] []
  | cons (i : Nat) (v v' : Value) (l l' : List (Nat × Value)) (h : VRel π v v') (hs : PRel π l l') : PRel π ((i, v) :: l) ((i, v') :: l')

theorem fill_rel {π : Ren} (place : Nat → Option (Nat × Nat)) : ∀ (ps ps' : List (Nat × Value)) (l : List (Nat × Nat × Value)) (c r : List Value) (c' : Array Value), PRel π ps ps' → partsOf place ps = some l → VRels π c c'.toList →
    lay c l = some r → ∃ r', Instr.fill place c' ps' = some r' ∧ VRels π r r'.toList
  | _, _, l, c, r, c', .nil, hp, hc, hl => by
    simp [partsOf] at hp; subst hp
    simp [lay] at hl; subst hl
    exact ⟨c', rfl, hc⟩
  | _, _, l, c, r, c', .cons i v v' ps ps' hv hs, hp, hc, hl => by
    simp only [partsOf] at hp
    split at hp
    · rename_i o n l2 h1 h2
      obtain rfl := Option.some.inj hp
      simp only [lay] at hl
      cases hb : (!bad v && (Nat.beq (vlist v).length n && Nat.ble (o + n) c.length)) with
      | false => simp [hb] at hl
      | true =>
          have hnp : v ≠ poison := by rintro rfl; simp [bad, poison] at hb
          have hv' := hv.vlist hnp
          simp only [hb, cond_true] at hl
          simp only [Bool.and_eq_true] at hb
          replace hb := hb.2
          have e1 := Nat.eq_of_beq_eq_true hb.1
          have e2 := Nat.le_of_ble_eq_true hb.2
          have e3 := hv'.length
          have e4 := hc.length
          have hsz : v'.cells.size = n := by rw [← Array.length_toList, ← e3]; exact e1
          have hcs : c'.size = c.length := by simpa using e4.symm
          have hfold := foldl_set v'.cells.toList c' o 0 (by simp; omega)
          have hf2 : v'.cells.zipIdx.foldl (fun cs (p : Value × Nat) => cs.setIfInBounds (o + p.2) p.1) c' = (v'.cells.toList.zipIdx).foldl (fun cs (p : Value × Nat) => cs.setIfInBounds (o + p.2) p.1) c' := by
            rw [← Array.foldl_toList, Array.toList_zipIdx]
          obtain ⟨r', hr1, hr2⟩ := fill_rel place ps ps' l2 _ r (v'.cells.zipIdx.foldl (fun cs (p : Value × Nat) => cs.setIfInBounds (o + p.2) p.1) c') hs h2 (by rw [hf2, hfold]; exact hc.splice hv' o) hl
          refine ⟨r', ?_, hr2⟩
          rw [← hr1]
          simp only [Instr.fill, h1]
          rw [if_neg]
          simp only [hsz, hcs]
          simp
          exact e2
    · cases hp

section
variable {P : Program} {π : Ren} {H : Heap} {w : World} (hs : Sim π H w) {k : Nat}

theorem run_places {P : Program} {w : World} : ∀ (fs : List Field) (pl : List (Nat × Nat)), fieldPlaces P fs = some pl →
    (fs.mapM (fun (f : Field) => do pure (f.offset, ← sizeOf f.type) : Field → Sem (Nat × Nat))).run P w = .ok pl w
  | [], pl, h => by simp [fieldPlaces] at h; subst h; rfl
  | f :: fs, pl, h => by
    simp only [fieldPlaces] at h
    split at h
    · rename_i n l hn hl
      obtain rfl := Option.some.inj h
      have := run_places (w := w) fs l hl
      simp only [List.mapM_cons, Sem.run_bind, run_tsize hn, Result.andThen_ok, Sem.run_pure, this]
    · cases h
theorem run_placesA {P : Program} {w : World} (fs : Array Field) (pl : List (Nat × Nat)) (h : fieldPlaces P fs.toList = some pl) :
    (fs.mapM (fun (f : Field) => do pure (f.offset, ← sizeOf f.type) : Field → Sem (Nat × Nat))).run P w = .ok pl.toArray w := by
  rw [Array.mapM_eq_mapM_toList, Sem.run_map, run_places _ _ h]
  rfl

include hs
theorem gives_bldS {t : TypeId} {fs : Array Field} {pl : List (Nat × Nat)} {z : List Value} {ps ps' : List (Nat × Value)} {l : List (Nat × Nat × Value)} (hz : tZero P t = some z) (hu : P.underlying t = some (.struct fs)) (hf : fieldPlaces P fs.toList = some pl)
    (hp : PRel π ps ps') (hl : partsOf (fun i : Nat => pl[i]?) ps = some l) : Gives π H w (bld z l k H) ((Instr.build t ⟨ps'⟩).run P w) := by
  unfold bld
  cases hr : lay z l with
  | none => exact Gives.no rfl
  | some r =>
    obtain ⟨v, hv, rfl⟩ := tzero_cells hz
    obtain ⟨hc, hrz⟩ := tzero_spec (w := w) hv
    have hrel := (VRel.of_constOk (π := π) hc).vlist (constOk_not_poison hc)
    have hpl : (fun i : Nat => pl[i]?) = (fun i : Nat => (pl.toArray)[i]?) := by funext i; simp
    obtain ⟨r', h1, h2⟩ := fill_rel (fun i : Nat => pl[i]?) ps ps' l _ r v.cells hp hl hrel hr
    refine Gives.same hs rfl ?_ (.agg _ _ h2)
    rw [hpl] at h1
    simp only [Instr.build, Sem.run_bind, hrz, Result.andThen_ok, run_underlying hu, run_placesA _ _ hf, h1, Sem.run_pure]
theorem gives_bldA {t el : TypeId} {n s : Nat} {z : List Value} {ps ps' : List (Nat × Value)} {l : List (Nat × Nat × Value)} (hz : tZero P t = some z) (hu : P.underlying t = some (.array n el)) (hf : tSize P el = some s)
    (hp : PRel π ps ps') (hl : partsOf (fun i => some (i * s, s)) ps = some l) : Gives π H w (bld z l k H) ((Instr.build t ⟨ps'⟩).run P w) := by
  unfold bld
  cases hr : lay z l with
  | none => exact Gives.no rfl
  | some r =>
    obtain ⟨v, hv, rfl⟩ := tzero_cells hz
    obtain ⟨hc, hrz⟩ := tzero_spec (w := w) hv
    have hrel := (VRel.of_constOk (π := π) hc).vlist (constOk_not_poison hc)
    obtain ⟨r', h1, h2⟩ := fill_rel (fun i => some (i * s, s)) ps ps' l _ r v.cells hp hl hrel hr
    refine Gives.same hs rfl ?_ (.agg _ _ h2)
    simp only [Instr.build, Sem.run_bind, hrz, Result.andThen_ok, run_underlying hu, run_tsize hf, h1, Sem.run_pure]
end

theorem rep_get (z : List Value) (s : Nat) (hz : z.length = s) (hpos : 0 < s) : ∀ (n k : Nat), k < n * s → (rep n z)[k]? = z[k % s]?
  | 0, k, h => by simp at h
  | n + 1, k, h => by
    have hm : (n + 1) * s = n * s + s := by rw [Nat.add_mul]; omega
    unfold rep
    rw [List.replicate_succ, List.flatten_cons]
    by_cases hk : k < s
    · rw [List.getElem?_append_left (by omega), Nat.mod_eq_of_lt hk]
    · rw [List.getElem?_append_right (by omega), hz]
      have := rep_get z s hz hpos n (k - s) (by omega)
      unfold rep at this
      rw [this]; congr 1; exact (Nat.mod_eq_sub_mod (by omega)).symm
theorem rep_length (z : List Value) : ∀ n, (rep n z).length = n * z.length := fun n => flat_len z n
theorem range_rep (z : Array Value) (s : Nat) (hz : z.size = s) (hpos : 0 < s) (n m : Nat) (hm : m = n * s) : ((Array.range m).map (fun i => z[i % z.size]!)).toList = rep n z.toList := by
  subst hm
  apply List.ext_getElem?
  intro k
  by_cases hk : k < n * s
  · rw [rep_get z.toList s (by simpa using hz) hpos n k hk]
    have hlt : k % s < z.size := by rw [hz]; exact Nat.mod_lt _ hpos
    simp [hk, hz]
    rw [getElem!_pos z _ hlt, Array.getElem?_eq_getElem hlt]
  · rw [List.getElem?_eq_none (by simp; omega), List.getElem?_eq_none (by rw [rep_length]; simp [hz]; omega)]
theorem VRels.rep {π : Ren} {z z' : List Value} (h : VRels π z z') : ∀ n, VRels π (rep n z) (rep n z')
  | 0 => .nil
  | n + 1 => by unfold Am.rep; rw [List.replicate_succ, List.flatten_cons, List.replicate_succ, List.flatten_cons]; exact h.append (VRels.rep h n)

section
variable {P : Program} {π : Ren} {H : Heap} {w : World} (hs : Sim π H w) {k : Nat}
include hs
/-- a row is made, and a slice of it -/
theorem gives_row {e : TypeId} {c : List Value} {c' more : List Value} {len cap' size : Nat} (hv : VRels π c c') (hlen : len ≤ cap') (hcap : cap' * size ≤ (c' ++ more).length) :
    ∃ π', VRel π' (.slice (some (new H.next 0)) len (size + 2)) (.slice (some ⟨w.heap.size, 0, none⟩) len cap') ∧ After π H w π' (H.push (.cells e c)) (w.alloc (.cells ⟨c' ++ more⟩ e (0, 0))) := by
  refine ⟨_, ?_, row_new hs (e := e) (more := more) hv⟩
  refine .slcN H.next 0 len (size + 2) cap' _ (Ren.put_self _ _ _) ⟨hlen, by omega, fun s h => ?_⟩
  obtain rfl : s = size := by omega
  simpa using hcap

theorem gives_bldSlice {t el : TypeId} {n s : Nat} {z : List Value} {ps ps' : List (Nat × Value)} {l : List (Nat × Nat × Value)} (hz : tZero P el = some z) (hu : P.underlying t = some (.slice el)) (hf : tSize P el = some (s + 1)) (hn : n * (s + 1) ≤ 2 ^ 24) (hzl : z.length = s + 1)
    (hp : PRel π ps ps') (hl : partsOf (fun i => some (i * (s + 1), s + 1)) ps = some l) : Gives π H w (bldSlice el (s + 1) z n l k H) ((Instr.buildSlice t n ⟨ps'⟩).run P w) := by
  unfold bldSlice
  cases hr : lay (rep n z) l with
  | none => exact Gives.no rfl
  | some r =>
    obtain ⟨v, hv, rfl⟩ := tzero_cells hz
    obtain ⟨hc, hrz⟩ := tzero_spec (w := w) hv
    have hrel := (VRel.of_constOk (π := π) hc).vlist (constOk_not_poison hc)
    have hvl : v.cells.size = s + 1 := by rw [← Array.length_toList, vlist_cells]; exact hzl
    have hrr : ((Array.range (n * (s + 1))).map (fun i => v.cells[i % v.cells.size]!)).toList = rep n v.cells.toList := range_rep v.cells (s + 1) hvl (by omega) n _ rfl
    obtain ⟨r', h1, h2⟩ := fill_rel (fun i => some (i * (s + 1), s + 1)) ps ps' l _ r ((Array.range (n * (s + 1))).map (fun i => v.cells[i % v.cells.size]!)) hp hl (by rw [hrr]; exact hrel.rep n) hr
    have hlen : r.length = n * (s + 1) := by
      have := lay_len _ _ _ hr
      rw [this, rep_length, hzl]
    have hlen' := h2.length
    obtain ⟨π', g1, g2⟩ := gives_row hs (e := el) (more := []) (len := n) (cap' := n) (size := s + 1) h2 (Nat.le_refl _) (by simp; simp at hlen'; omega)
    refine Gives.of rfl ?_ g1 (by simpa using g2)
    by_cases hn0 : n * (s + 1) = 0
    · have hn1 : n = 0 := by rcases Nat.mul_eq_zero.1 hn0 with h | h <;> omega
      subst hn1
      have h1' : Instr.fill (fun i => some (i * (s + 1), s + 1)) ((Array.range (0 * (s + 1))).map fun i => (#[] : Array Value)[i % (#[] : Array Value).size]!) ps' = some r' := by
        rw [← h1]; congr 1; simp
      simp at h1'
      simp [Instr.buildSlice, run_underlying hu, run_tsize hf, h1', newRow]
    · have hno : ¬ (n * (s + 1) > 2 ^ 24) := by omega
      simp only [Instr.buildSlice, Sem.run_bind, run_underlying hu, Result.andThen_ok, run_tsize hf, Sem.run_ite, hno, if_false, hn0, hrz, Sem.run_pure, h1, newRow, run_newObj]
      rfl
where
  lay_len : ∀ (l : List (Nat × Nat × Value)) (c r : List Value), lay c l = some r → r.length = c.length
    | [], c, r, h => by simp [lay] at h; subst h; rfl
    | (o, n, v) :: l, c, r, h => by
      simp only [lay] at h
      cases hb : (!bad v && (Nat.beq (vlist v).length n && Nat.ble (o + n) c.length)) with
      | false => simp [hb] at h
      | true =>
          simp only [hb, cond_true] at h
          simp only [Bool.and_eq_true] at hb
          replace hb := hb.2
          have e1 := Nat.eq_of_beq_eq_true hb.1
          have e2 := Nat.le_of_ble_eq_true hb.2
          rw [lay_len l _ r h, splice_length _ _ _ (by omega)]

theorem gives_mkSlice {t el : TypeId} {s b : Nat} {z : List Value} {x y x' y' : Value} (hz : tZero P el = some z) (hu : P.underlying t = some (.slice el)) (hf : tSize P el = some (s + 1)) (hb : tBytes P el = some b) (hzl : z.length = s + 1)
    (hx : VRel π x x') (hy : VRel π y y') : Gives π H w (mkSlice el (s + 1) b z x y k H) ((Instr.makeSlice t x' y').run P w) := by
  unfold mkSlice
  split
  · rename_i l c
    cases hx; cases hy
    cases hcond : (decide (0 ≤ l) && decide (l ≤ c) && decide ((b : Int) * c ≤ 2 ^ 47) && decide (c < 2 ^ 62)) with
    | false => exact Gives.no rfl
    | true =>
      simp only [Bool.and_eq_true, decide_eq_true_eq] at hcond
      obtain ⟨⟨⟨h0, h1⟩, h2⟩, h3⟩ := hcond
      obtain ⟨v, hv, rfl⟩ := tzero_cells hz
      obtain ⟨hc, hrz⟩ := tzero_spec (w := w) hv
      have hrel := (VRel.of_constOk (π := π) hc).vlist (constOk_not_poison hc)
      have hvl : v.cells.size = s + 1 := by rw [← Array.length_toList, vlist_cells]; exact hzl
      have wl : IntKind.i64.wrap l = l := IntWalk.i64_in _ (by omega)
      have wc : IntKind.i64.wrap c = c := IntWalk.i64_in _ (by omega)
      have hrr : ((Array.range (c.toNat * (s + 1))).map (fun i => v.cells[i % v.cells.size]!)).toList = rep c.toNat v.cells.toList := range_rep v.cells (s + 1) hvl (by omega) _ _ rfl
      obtain ⟨i, hi, hib⟩ := run_tinfo_bytes hb
      have hsplit : rep c.toNat v.cells.toList = rep l.toNat v.cells.toList ++ rep (c.toNat - l.toNat) v.cells.toList := by
        unfold rep; rw [← List.flatten_append, List.replicate_append_replicate]; congr 2; omega
      have hr2 : VRels π (rep l.toNat (vlist v)) (rep l.toNat v.cells.toList) := hrel.rep _
      obtain ⟨π', g1, g2⟩ := gives_row hs (e := el) (more := rep (c.toNat - l.toNat) v.cells.toList) (len := l.toNat) (cap' := c.toNat) (size := s + 1) hr2 (by omega) (by
        rw [← hsplit, rep_length, Array.length_toList, hvl]; omega)
      refine Gives.of rfl ?_ g1 g2
      have ht : ∀ n : Int, (decide (n < 0) || decide ((i.bytes : Int) * n > 2 ^ 48)) = (decide (n < 0) || decide ((b : Int) * n > 2 ^ 48)) := fun n => by rw [hib]
      have hcc : ¬ ((c < 0 ∨ 2 ^ 48 < (b : Int) * c) ∨ l < 0 ∨ c < l) := by omega
      rw [← hsplit, ← hrr]
      simp only [Instr.makeSlice, Sem.run_bind, run_underlying hu, Result.andThen_ok, asInt, asIntOf, Sem.run_pure, typeInfo, run_program, hi, wl, wc, hib, run_tsize hf, hrz, newRow, run_newObj, run_askRoom]
      have hcf : ¬ (decide (c < 0) || decide ((b : Int) * c > 2 ^ 48) || decide (l < 0) || decide (l > c)) = true := by simp; omega
      rw [if_neg hcf]
      by_cases h00 : c.toNat * (s + 1) = 0
      · simp only [Sem.run_bind, run_askRoom, Result.andThen_ok, run_tsize hf, Sem.run_ite, h00, if_true, Sem.run_pure, run_newObj]
        simp
        congr 2
        apply Array.ext'
        simp
      · simp only [Sem.run_bind, run_askRoom, Result.andThen_ok, run_tsize hf, Sem.run_ite, h00, if_false, Sem.run_pure, run_newObj, hrz]
        rfl
  · exact Gives.no rfl

omit hs in
theorem run_bound {v v' : Value} {d y m : Nat} {code : BoundsCode} (hv : VRel π v v') (hb : bnd d (some v) = some m) (hm : m ≤ y) : (Instr.sliceBound v' y code).run P w = .ok m w := by
  cases v <;> simp only [bnd, reduceCtorEq] at hb
  rename_i ki i
  cases hv
  by_cases h0 : 0 ≤ i
  · simp only [h0, decide_true, cond_true, Option.some.injEq] at hb
    subst hb
    have : 0 ≤ i ∧ i ≤ (y : Int) := ⟨h0, by omega⟩
    simp [Instr.sliceBound, asIntOf, this]
  · simp [h0] at hb
inductive ORel (π : Ren) : Option Value → Option Value → Prop
  | none : ORel π none none
  | some (v v' : Value) (h : VRel π v v') : ORel π (some v) (some v')
omit hs in
theorem run_bounds {lo hi mx lo' hi' mx' : Option Value} {len cap cap' l h m : Nat} {is : Bool} (hlo : ORel π lo lo') (hhi : ORel π hi hi') (hmx : ORel π mx mx') (hb : bnds len cap lo hi mx = some (l, h, m)) (hcap : cap ≤ cap') :
    l ≤ h ∧ h ≤ m ∧ m ≤ cap ∧ (mx = none → m = cap) ∧ (Instr.sliceBounds is len cap' lo' hi' mx').run P w = .ok (l, h, if mx.isSome then m else cap') w := by
  unfold bnds at hb
  cases hmh : mx.isSome && hi.isNone with
  | true => simp [hmh] at hb
  | false =>
    simp only [hmh, cond_false] at hb
    split at hb
    · rename_i m1 h1 l1 e1 e2 e3
      cases hle : (Nat.ble l1 h1 && (Nat.ble h1 m1 && Nat.ble m1 cap)) with
      | false => simp [hle] at hb
      | true =>
        simp only [hle, cond_true, Option.some.injEq, Prod.mk.injEq] at hb
        obtain ⟨rfl, rfl, rfl⟩ := hb
        simp only [Bool.and_eq_true] at hle
        have q1 := Nat.le_of_ble_eq_true hle.1
        have q2 := Nat.le_of_ble_eq_true hle.2.1
        have q3 := Nat.le_of_ble_eq_true hle.2.2
        refine ⟨q1, q2, q3, ?_, ?_⟩
        · rintro rfl; simp [bnd] at e1; exact e1.symm
        · cases hmx with
          | none =>
            simp [bnd] at e1; subst e1
            cases hhi with
            | none =>
              simp [bnd] at e2; subst e2
              cases hlo with
              | none => simp [bnd] at e3; subst e3; simp [Instr.sliceBounds]
              | some vl vl' hvl =>
                have lw := fun code => run_bound (P := P) (w := w) (code := code) hvl e3 q1
                simp [Instr.sliceBounds, lw]
            | some v v' hv =>
              have hw := fun code => run_bound (P := P) (w := w) (code := code) hv e2 (show h1 ≤ cap' by omega)
              cases hlo with
              | none => simp [bnd] at e3; subst e3; simp [Instr.sliceBounds, hw]
              | some vl vl' hvl =>
                have lw := fun code => run_bound (P := P) (w := w) (code := code) hvl e3 q1
                simp [Instr.sliceBounds, hw, lw]
          | some vm vm' hvm =>
            have mw := fun code => run_bound (P := P) (w := w) (code := code) hvm e1 (show m1 ≤ cap' by omega)
            cases hhi with
            | none => simp at hmh
            | some v v' hv =>
              have hw := fun code => run_bound (P := P) (w := w) (code := code) hv e2 q2
              cases hlo with
              | none => simp [bnd] at e3; subst e3; simp [Instr.sliceBounds, mw, hw]
              | some vl vl' hvl =>
                have lw := fun code => run_bound (P := P) (w := w) (code := code) hvl e3 q1
                simp [Instr.sliceBounds, mw, hw, lw]
    · cases hb

theorem gives_slcA {t el : TypeId} {n s : Nat} {x x' : Value} {lo hi mx lo' hi' mx' : Option Value} (hx : VRel π x x') (hlo : ORel π lo lo') (hhi : ORel π hi hi') (hmx : ORel π mx mx') (hu : P.underlying t = some (.array n el)) (hz : tSize P el = some s) :
    Gives π H w (slcA n s x lo hi mx k H) ((Instr.sliceAt t x' lo' hi' mx').run P w) := by
  unfold slcA
  split
  · rename_i a
    obtain ⟨a', rfl, har⟩ := hx.arel
    split
    · rename_i l h m hb
      obtain ⟨q1, q2, q3, q4, hr⟩ := run_bounds (P := P) (w := w) (is := false) hlo hhi hmx hb (Nat.le_refl _)
      have hmm : (if mx.isSome then m else n) = m := by
        cases hmx with
        | none => simp [q4 rfl]
        | some => rfl
      rw [hmm] at hr
      have hrun : (Instr.sliceAt t (.pointer (some a')) lo' hi' mx').run P w = .ok (.slice (some (if m = l then a' else a'.add (l * s))) (h - l) (m - l)) w := by
        simp only [Instr.sliceAt, Sem.run_bind, run_underlying hu, Result.andThen_ok, Instr.sureAddr, Sem.run_pure, hr, run_tsize hz]
      cases har with
      | base b o =>
        simp only
        refine Gives.same hs rfl hrun ?_
        unfold behind
        by_cases hml : m = l
        · rw [beqT hml, if_pos hml]; exact .slcB _ _ _ _
        · have hadd : (⟨b, o, none⟩ : Addr).add (l * s) = ⟨b, o + l * s, none⟩ := by unfold Addr.add; split <;> simp_all
          rw [beqF hml, if_neg hml, hadd]
          exact .slcB _ _ _ _
      | new i off lo2 hi2 =>
        simp only
        split
        · rename_i e c hg
          cases hle : Nat.ble (off + n * s) c.length with
          | false => exact Gives.no rfl
          | true =>
            simp only [cond_true]
            refine Gives.same hs rfl hrun ?_
            by_cases hml : m = l
            · subst hml
              have : behind m m s ⟨i, off, some 0⟩ = ⟨i, off, some 0⟩ := by unfold behind; rw [beqT rfl]; rfl
              rw [this, if_pos rfl, beqT rfl]
              exact .slcN _ _ _ _ _ _ hi2 ⟨by omega, by omega, fun q hq => by simp at hq⟩
            · have h1 : behind m l s ⟨i, off, some 0⟩ = ⟨i, off + l * s, some 0⟩ := by unfold behind; rw [beqF hml]; rfl
              have h2 : (⟨lo2.blk, lo2.sh + off, none⟩ : Addr).add (l * s) = ⟨lo2.blk, lo2.sh + (off + l * s), none⟩ := by unfold Addr.add; split <;> simp_all <;> omega
              rw [h1, if_neg hml, h2, beqF hml]
              exact .slcN _ _ _ _ _ _ hi2 ⟨by omega, by simp, fun q hq => by simp at hq⟩
        · exact Gives.no rfl
    · exact Gives.no rfl
  · exact Gives.no rfl

theorem gives_slcS {t el : TypeId} {s : Nat} {x x' : Value} {lo hi mx lo' hi' mx' : Option Value} (hx : VRel π x x') (hlo : ORel π lo lo') (hhi : ORel π hi hi') (hmx : ORel π mx mx') (hu : P.underlying t = some (.slice el)) (hz : tSize P el = some s) :
    Gives π H w (slcS s x lo hi mx k H) ((Instr.sliceAt t x' lo' hi' mx').run P w) := by
  have hrun : ∀ {a : Option Addr} {len cap l h m : Nat}, (Instr.sliceBounds true len cap lo' hi' mx').run P w = .ok (l, h, m) w →
      (Instr.sliceAt t (.slice a len cap) lo' hi' mx').run P w = .ok (.slice (if m = l then a else a.map (·.add (l * s))) (h - l) (m - l)) w := by
    intro a len cap l h m hr
    simp only [Instr.sliceAt, Sem.run_bind, run_underlying hu, Result.andThen_ok, Instr.slice, hr, run_tsize hz, Sem.run_pure]
  unfold slcS
  split
  · cases hx
    split
    · rename_i r hb
      obtain ⟨l, h, m⟩ := r
      obtain ⟨q1, q2, q3, q4, hr⟩ := run_bounds (P := P) (w := w) (is := true) hlo hhi hmx hb (Nat.le_refl _)
      have : (if mx.isSome then m else 0) = 0 := by split <;> omega
      rw [this] at hr
      refine Gives.same hs rfl (hrun hr) ?_
      obtain rfl : l = 0 := by omega
      obtain rfl : h = 0 := by omega
      simp only [if_true, Nat.sub_self]
      exact .nilSlice 0 0
    · exact Gives.no rfl
  · rename_i a len tag
    split
    · rename_i sp hsp
      split
      · rename_i l h m hb
        cases hx with
        | slcB => simp at hsp
        | slcE i off _ b o lc hlc =>
          obtain ⟨q1, q2, q3, q4, hr⟩ := run_bounds (P := P) (w := w) (is := true) hlo hhi hmx hb (Nat.le_refl _)
          have : (if mx.isSome then m else 0) = 0 := by split <;> omega
          rw [this] at hr
          obtain rfl : l = 0 := by omega
          obtain rfl : h = 0 := by omega
          obtain rfl : m = 0 := by omega
          have h2 := hrun (a := some ⟨b, o, none⟩) hr
          simp only [if_true, Nat.sub_self] at h2
          cases hms : mx.isSome
          · exact Gives.same hs rfl h2 (.slcE _ _ _ _ _ _ hlc)
          · refine Gives.same hs rfl h2 ?_
            have : behind 0 0 s ⟨i, off, some 0⟩ = ⟨i, off, some 0⟩ := rfl
            rw [this]
            exact .slcE _ _ _ _ _ _ hlc
        | slcN i off _ _ cap' lc hlc ht =>
          obtain ⟨t1, t2, t3⟩ := ht
          obtain ⟨q1, q2, q3, q4, hr⟩ := run_bounds (P := P) (w := w) (is := true) hlo hhi hmx hb t1
          have hadd : (⟨lc.blk, lc.sh + off, none⟩ : Addr).add (l * s) = ⟨lc.blk, lc.sh + (off + l * s), none⟩ := by unfold Addr.add; split <;> simp_all <;> omega
          cases hms : mx.isSome
          · rw [hms] at hr
            simp only [Bool.false_eq_true, if_false] at hr
            refine Gives.same hs rfl (hrun hr) ?_
            by_cases hcl : cap' = l
            · rw [if_pos hcl]
              have e1 : h - l = 0 := by omega
              have e2 : cap' - l = 0 := by omega
              rw [e1, e2]
              exact .slcE _ _ _ _ _ _ hlc
            · rw [if_neg hcl]
              simp only [Option.map_some, hadd]
              refine .slcN _ _ _ _ _ _ hlc ⟨by omega, ?_, ?_⟩
              · intro h0
                unfold tagOf at h0
                cases hbq : Nat.beq tag (s + 2) with
                | true => rw [hbq] at h0; have := Nat.eq_of_beq_eq_true hbq; simp at h0; omega
                | false => rw [hbq] at h0; simp at h0
              · intro q hq
                unfold tagOf at hq
                cases hbq : Nat.beq tag (s + 2) with
                | true =>
                  have e := Nat.eq_of_beq_eq_true hbq
                  rw [hbq] at hq
                  simp only [cond_true] at hq
                  obtain rfl : q = s := by omega
                  have a0 := t3 q e
                  have a1 : cap' * q = (cap' - l) * q + l * q := by rw [← Nat.add_mul]; congr 1; omega
                  show lc.sh + (off + l * q) + (cap' - l) * q ≤ lc.csz
                  omega
                | false => rw [hbq] at hq; simp at hq
          · rw [hms] at hr
            simp only [if_true] at hr
            refine Gives.same hs rfl (hrun hr) ?_
            by_cases hml : m = l
            · subst hml
              have : behind m m s ⟨i, off, some 0⟩ = ⟨i, off, some 0⟩ := by unfold behind; rw [beqT rfl]; rfl
              rw [this, if_pos rfl, beqT rfl]
              exact .slcN _ _ _ _ _ _ hlc ⟨by omega, by omega, fun q hq => by simp at hq⟩
            · have h1 : behind m l s ⟨i, off, some 0⟩ = ⟨i, off + l * s, some 0⟩ := by unfold behind; rw [beqF hml]; rfl
              rw [h1, if_neg hml, beqF hml]
              simp only [Option.map_some, hadd]
              exact .slcN _ _ _ _ _ _ hlc ⟨by omega, by simp, fun q hq => by simp at hq⟩
      · exact Gives.no rfl
    · rename_i hsp
      split
      · rename_i l h m hb
        cases hx with
        | slcN => simp at hsp
        | slcE => simp at hsp
        | slcB b o _ cap =>
          obtain ⟨q1, q2, q3, q4, hr⟩ := run_bounds (P := P) (w := w) (is := true) hlo hhi hmx hb (Nat.le_refl _)
          have hmm : (if mx.isSome then m else tag) = m := by
            cases hmx with
            | none => simp [q4 rfl]
            | some => rfl
          rw [hmm] at hr
          refine Gives.same hs rfl (hrun hr) ?_
          unfold behind
          by_cases hml : m = l
          · rw [beqT hml, if_pos hml]; exact .slcB _ _ _ _
          · have hadd : (⟨b, o, none⟩ : Addr).add (l * s) = ⟨b, o + l * s, none⟩ := by unfold Addr.add; split <;> simp_all
            rw [beqF hml, if_neg hml]
            simp only [Option.map_some, hadd]
            exact .slcB _ _ _ _
      · exact Gives.no rfl
  · exact Gives.no rfl

theorem gives_slcB {t : TypeId} {x x' : Value} {lo hi lo' hi' : Option Value} (hx : VRel π x x') (hlo : ORel π lo lo') (hhi : ORel π hi hi') (hu : P.underlying t = some .string) :
    Gives π H w (slcB x lo hi k H) ((Instr.sliceAt t x' lo' hi' none).run P w) := by
  unfold slcB
  split
  · rename_i str
    cases hx
    split
    · rename_i l h m hb
      obtain ⟨q1, q2, q3, q4, hr⟩ := run_bounds (P := P) (w := w) (is := false) hlo hhi (.none (π := π)) hb (Nat.le_refl _)
      refine Gives.same hs rfl ?_ (.string _)
      simp only [Instr.sliceAt, Sem.run_bind, run_underlying hu, Result.andThen_ok, Instr.slice, Option.isSome_none, Bool.false_eq_true, if_false, hr, Sem.run_pure]
    · exact Gives.no rfl
  · exact Gives.no rfl
end
end Go.Am
