/- What is made can be made later. -/
import Derived.Test.YtcagogdllnlihaaGreatAm12
set_option linter.all false
namespace Go.Am

/-- m makes one new thing; so does s -/
def Mk (P : Program) (π : Ren) (m : M Value) (s : World → Result Value) : Prop :=
  (∀ k H, m k H = .fail) ∨ ∃ (ob : Ob) (mv : Nat → Value) (x : Obj) (mv' : Nat → Value) (csz : Nat), alive ob = true ∧ (∀ k H, m k H = .ok (mv H.next) (H.push ob)) ∧
    ∀ w, s w = .ok (mv' w.heap.size) (w.alloc x) ∧ ∀ i π', Ext π π' → π' i = some ⟨w.heap.size, 0, csz⟩ → OChk π' ⟨w.heap.size, 0, csz⟩ (w.alloc x) ob ∧ VRel π' (mv i) (mv' w.heap.size)

theorem lay_len : ∀ (l : List (Nat × Nat × Value)) (c r : List Value), lay c l = some r → r.length = c.length
  | [], c, r, h => by simp [lay] at h; subst h; rfl
  | (o, n, v) :: l, c, r, h => by
    simp only [lay] at h
    cases hb : (!bad v && (Nat.beq (vlist v).length n && Nat.ble (o + n) c.length)) with
    | false => simp [hb] at h
    | true =>
      simp only [hb, cond_true] at h
      simp only [Bool.and_eq_true] at hb
      have e1 := Nat.eq_of_beq_eq_true hb.2.1
      have e2 := Nat.le_of_ble_eq_true hb.2.2
      rw [lay_len l _ r h, splice_length _ _ _ (by omega)]

section
variable {P : Program} {π : Ren}
theorem mk_row {e : TypeId} {c c' more : List Value} (hv : VRels π c c') {w : World} {π' : Ren} (he : Ext π π') : OChk π' ⟨w.heap.size, 0, (c' ++ more).length⟩ (w.alloc (.cells ⟨c' ++ more⟩ e (0, 0))) (.cells e c) := by
  refine ocells_new (c' := c' ++ more) heap_new rfl rfl (by have := hv.length; simp; omega) ?_
  intro k v hk
  obtain ⟨v', h1, h2⟩ := hv.get k v hk
  refine ⟨v', ?_, h2.mono he⟩
  rw [List.getElem?_append_left (List.getElem?_eq_some_iff.1 h1).1]; exact h1
theorem mk_new {e : TypeId} {c : List Value} {c' : Array Value} {s : World → Result Value} (hv : VRels π c c'.toList) (hs : ∀ w, s w = .ok (.pointer (some ⟨w.heap.size, 0, none⟩)) (w.alloc (.cells c' e (0, 0)))) : Mk P π (newOb (.cells e c)) s := by
  refine .inr ⟨.cells e c, fun i => .pointer (some (new i 0)), .cells c' e (0, 0), fun n => .pointer (some ⟨n, 0, none⟩), c'.toList.length, rfl, fun _ _ => rfl, fun w => ⟨hs w, fun i π' he hi => ⟨?_, .ptrN i 0 _ hi⟩⟩⟩
  have := mk_row (e := e) (more := []) hv (w := w) he
  simpa using this
theorem mk_alloc {t : TypeId} {z : List Value} (hz : tZero P t = some z) : Mk P π (alloc t z) (fun w => (Instr.alloc t true (.tuple #[])).run P w) := by
  obtain ⟨v, hv, rfl⟩ := tzero_cells hz
  have hc := (tzero_spec (w := default) hv).1
  refine mk_new (c' := v.cells) ((VRel.of_constOk (π := π) hc).vlist (constOk_not_poison hc)) fun w => ?_
  have hr := (tzero_spec (w := w) hv).2
  simp [Instr.alloc, hr, newVar, newRow, World.alloc_eq]
theorem mk_box {t : TypeId} {x x' : Value} (hx : VRel π x x') : Mk P π (box t x) (fun w => (Instr.box t x').run P w) := by
  unfold box
  cases hb : bad x with
  | true => exact .inl fun _ _ => rfl
  | false =>
    have hnp : x ≠ poison := by rintro rfl; cases hb
    refine mk_new (c' := x'.cells) (hx.vlist hnp) fun w => ?_
    simp [Instr.box, newVar, newRow, World.alloc_eq]
theorem mk_mkMap {t : TypeId} : Mk P π mkMap (fun w => (Instr.makeMap t none).run P w) :=
  .inr ⟨.map [] 0, fun i => .map (some i), .map #[] 0, fun n => .map (some n), 0, rfl, fun _ _ => rfl, fun w => ⟨by simp [Instr.makeMap], fun i π' _ hi => ⟨⟨#[], heap_new, .nil⟩, .mapN i _ hi⟩⟩⟩
theorem mk_bldSlice {t el : TypeId} {n s : Nat} {z : List Value} {ps ps' : List (Nat × Value)} {l : List (Nat × Nat × Value)} (hz : tZero P el = some z) (hu : P.underlying t = some (.slice el)) (hf : tSize P el = some (s + 1)) (hn : n * (s + 1) ≤ 2 ^ 24) (hzl : z.length = s + 1)
    (hp : PRel π ps ps') (hl : partsOf (fun i => some (i * (s + 1), s + 1)) ps = some l) : Mk P π (bldSlice el (s + 1) z n l) (fun w => (Instr.buildSlice t n ⟨ps'⟩).run P w) := by
  unfold bldSlice
  cases hr : lay (rep n z) l with
  | none => exact .inl fun _ _ => rfl
  | some r =>
    obtain ⟨v, hv, rfl⟩ := tzero_cells hz
    have hc := (tzero_spec (w := default) hv).1
    have hrel := (VRel.of_constOk (π := π) hc).vlist (constOk_not_poison hc)
    have hvl : v.cells.size = s + 1 := by rw [← Array.length_toList, vlist_cells]; exact hzl
    have hrr : ((Array.range (n * (s + 1))).map (fun i => v.cells[i % v.cells.size]!)).toList = rep n v.cells.toList := range_rep v.cells (s + 1) hvl (by omega) n _ rfl
    obtain ⟨r', h1, h2⟩ := fill_rel (fun i => some (i * (s + 1), s + 1)) ps ps' l _ r ((Array.range (n * (s + 1))).map (fun i => v.cells[i % v.cells.size]!)) hp hl (by rw [hrr]; exact hrel.rep n) hr
    have hlen : r.length = n * (s + 1) := by
      rw [lay_len _ _ _ hr, rep_length, hzl]
    have hlen' := h2.length
    refine .inr ⟨.cells el r, fun i => .slice (some (new i 0)) n (s + 1 + 2), .cells r' el (0, 0), fun m => .slice (some ⟨m, 0, none⟩) n n, r'.toList.length, rfl, fun _ _ => rfl, fun w => ⟨?_, fun i π' he hi => ⟨?_, ?_⟩⟩⟩
    · have hrz := (tzero_spec (w := w) hv).2
      by_cases hn0 : n * (s + 1) = 0
      · have hn1 : n = 0 := by rcases Nat.mul_eq_zero.1 hn0 with h | h <;> omega
        subst hn1
        have h1' : Instr.fill (fun i => some (i * (s + 1), s + 1)) ((Array.range (0 * (s + 1))).map fun i => (#[] : Array Value)[i % (#[] : Array Value).size]!) ps' = some r' := by
          rw [← h1]; congr 1; simp
        simp at h1'
        simp [Instr.buildSlice, run_underlying hu, run_tsize hf, h1', newRow]
      · have hno : ¬ (n * (s + 1) > 2 ^ 24) := by omega
        simp only [Instr.buildSlice, Sem.run_bind, run_underlying hu, Result.andThen_ok, run_tsize hf, Sem.run_ite, hno, if_false, hn0, hrz, Sem.run_pure, h1, newRow, run_newObj]
        rfl
    · have := mk_row (e := el) (more := []) h2 (w := w) he
      simpa using this
    · refine .slcN i 0 n _ n _ hi ⟨Nat.le_refl _, by omega, fun q hq => ?_⟩
      obtain rfl : q = s + 1 := by omega
      simp only [Nat.zero_add]; omega
theorem mk_mkSlice {t el : TypeId} {s b : Nat} {z : List Value} {x y x' y' : Value} (hz : tZero P el = some z) (hu : P.underlying t = some (.slice el)) (hf : tSize P el = some (s + 1)) (hb : tBytes P el = some b) (hzl : z.length = s + 1)
    (hx : VRel π x x') (hy : VRel π y y') : Mk P π (mkSlice el (s + 1) b z x y) (fun w => (Instr.makeSlice t x' y').run P w) := by
  have nofail : (∀ l c : Int, ¬ (x = .int .i64 l ∧ y = .int .i64 c)) → Mk P π (mkSlice el (s + 1) b z x y) (fun w => (Instr.makeSlice t x' y').run P w) := by
    intro h
    refine .inl fun k H => ?_
    unfold mkSlice
    split
    · exact absurd ⟨rfl, rfl⟩ (h _ _)
    · rfl
  by_cases hint : ∃ l c : Int, x = .int .i64 l ∧ y = .int .i64 c
  · obtain ⟨l, c, rfl, rfl⟩ := hint
    cases hx; cases hy
    cases hcond : (decide (0 ≤ l) && decide (l ≤ c) && decide ((b : Int) * c ≤ 2 ^ 47) && decide (c < 2 ^ 62)) with
    | false => exact .inl fun k H => by simp only [mkSlice, hcond, cond_false]
    | true =>
      have hm : ∀ k H, mkSlice el (s + 1) b z (.int .i64 l) (.int .i64 c) k H = .ok (.slice (some (new H.next 0)) l.toNat (s + 1 + 2)) (H.push (.cells el (rep l.toNat z))) := fun k H => by simp only [mkSlice, hcond, cond_true]
      -- by the run in a world with an empty heap
      simp only [Bool.and_eq_true, decide_eq_true_eq] at hcond
      obtain ⟨⟨⟨h0, h1⟩, h2⟩, h3⟩ := hcond
      obtain ⟨v, hv, rfl⟩ := tzero_cells hz
      have hc := (tzero_spec (w := default) hv).1
      have hrel := (VRel.of_constOk (π := π) hc).vlist (constOk_not_poison hc)
      have hvl : v.cells.size = s + 1 := by rw [← Array.length_toList, vlist_cells]; exact hzl
      have wl : IntKind.i64.wrap l = l := IntWalk.i64_in _ (by omega)
      have wc : IntKind.i64.wrap c = c := IntWalk.i64_in _ (by omega)
      have hrr : ((Array.range (c.toNat * (s + 1))).map (fun i => v.cells[i % v.cells.size]!)).toList = rep c.toNat v.cells.toList := range_rep v.cells (s + 1) hvl (by omega) _ _ rfl
      obtain ⟨i, hi, hib⟩ := run_tinfo_bytes hb
      have hsplit : rep c.toNat v.cells.toList = rep l.toNat v.cells.toList ++ rep (c.toNat - l.toNat) v.cells.toList := by
        unfold rep; rw [← List.flatten_append, List.replicate_append_replicate]; congr 2; omega
      have hr2 : VRels π (rep l.toNat (vlist v)) (rep l.toNat v.cells.toList) := hrel.rep _
      have hlen : (rep c.toNat v.cells.toList).length = c.toNat * (s + 1) := by rw [rep_length, Array.length_toList, hvl]
      refine .inr ⟨.cells el (rep l.toNat (vlist v)), fun i => .slice (some (new i 0)) l.toNat (s + 1 + 2), .cells ⟨rep c.toNat v.cells.toList⟩ el (0, 0), fun m => .slice (some ⟨m, 0, none⟩) l.toNat c.toNat, (rep c.toNat v.cells.toList).length, rfl, hm, fun w => ⟨?_, fun j π' he hj => ⟨?_, ?_⟩⟩⟩
      · have hrz := (tzero_spec (w := w) hv).2
        have hcf : ¬ (decide (c < 0) || decide ((b : Int) * c > 2 ^ 48) || decide (l < 0) || decide (l > c)) = true := by simp; omega
        rw [← hrr]
        simp only [Instr.makeSlice, Sem.run_bind, run_underlying hu, Result.andThen_ok, asInt, asIntOf, Sem.run_pure, typeInfo, run_program, hi, wl, wc, hib]
        rw [if_neg hcf]
        by_cases h00 : c.toNat * (s + 1) = 0
        · simp only [Sem.run_bind, run_askRoom, Result.andThen_ok, run_tsize hf, Sem.run_ite, h00, if_true, Sem.run_pure, newRow, run_newObj]
          simp
          congr 2
          apply Array.ext'
          simp
        · simp only [Sem.run_bind, run_askRoom, Result.andThen_ok, run_tsize hf, Sem.run_ite, h00, if_false, Sem.run_pure, newRow, run_newObj, hrz]
          rfl
      · have := mk_row (e := el) (more := rep (c.toNat - l.toNat) v.cells.toList) hr2 (w := w) he
        rw [← hsplit] at this
        exact this
      · refine .slcN j 0 l.toNat _ c.toNat _ hj ⟨by omega, by omega, fun q hq => ?_⟩
        obtain rfl : q = s + 1 := by omega
        simp only [Nat.zero_add, hlen]; omega
  · exact nofail fun l c h => hint ⟨l, c, h⟩

/-- the operations that make -/
theorem make_ok {e : Env} {a : Act} (he : EnvRel π e a) {call : CallF} {o : Oper} (ho : operandsOk o = true) (hk : kindOf o = .make) :
    ∃ s : World → Result Value, Mk P π (evalOp P call e o) s ∧ ∀ w v w', s w = .ok v w' → (execOp a.eval o).run P w = .ok (.value v) w' := by
  have hop := operandsOk_spec ho
  have fin : ∀ (m : M Value) (s : Sem Value), Mk P π m (fun w => s.run P w) → evalOp P call e o = m → execOp a.eval o = (do pure (.value (← s))) →
      ∃ s : World → Result Value, Mk P π (evalOp P call e o) s ∧ ∀ w v w', s w = .ok v w' → (execOp a.eval o).run P w = .ok (.value v) w' := by
    rintro m s h rfl h2
    refine ⟨fun w => s.run P w, h, fun w v w' hr => ?_⟩
    rw [h2]
    have hr' : s.run P w = .ok v w' := hr
    simp [hr']
  have nof : ∀ {s : Sem Value}, evalOp P call e o = M.fail → execOp a.eval o = (do pure (.value (← s))) → ∃ s : World → Result Value, Mk P π (evalOp P call e o) s ∧ ∀ w v w', s w = .ok v w' → (execOp a.eval o).run P w = .ok (.value v) w' := by
    intro s h h2
    exact fin M.fail s (.inl fun _ _ => rfl) h h2
  obtain ⟨dst, op, type, pos, after, guard⟩ := o
  simp only at hop
  cases op <;> simp only [kindOf, reduceCtorEq] at hk <;> simp only [Op.operands, List.mem_cons, List.not_mem_nil, or_false, forall_eq] at hop
  case call c =>
    exfalso
    obtain ⟨callee, args, ats⟩ := c
    cases callee with
    | builtin b => cases b <;> simp at hk
    | value => simp at hk
    | invoke => simp at hk
  case alloc t =>
    cases hz : tZero P t with
    | none => exact nof (by simp [evalOp, hz]) rfl
    | some z => exact fin _ _ (mk_alloc hz) (by simp [evalOp, hz]) rfl
  case box t x => exact fin _ _ (mk_box (he.ev hop)) rfl rfl
  case makeMap t r =>
    cases r with
    | some r => exact nof rfl rfl
    | none => exact fin _ _ mk_mkMap rfl rfl
  case buildSlice t n ps =>
    have hp := prel_of he ps.toList (fun p hp => hop p.2 (by simpa using ⟨p.1, Array.mem_toList_iff.1 hp⟩))
    have hps : (ps.map fun (x : Nat × Operand) => (x.1, a.eval x.2)) = ⟨ps.toList.map fun x => (x.1, a.eval x.2)⟩ := by apply Array.ext'; simp
    cases hu : P.underlying t with
    | none => exact nof (by simp [evalOp, sliceElem, hu]) rfl
    | some d =>
      by_cases hd : ∃ el, d = .slice el
      · obtain ⟨el, rfl⟩ := hd
        cases hsz : tSize P el with
        | none => exact nof (by simp [evalOp, sliceElem, hu, hsz]) rfl
        | some s =>
          cases s with
          | zero => exact nof (by simp [evalOp, sliceElem, hu, hsz]) rfl
          | succ s =>
            cases hz : tZero P el with
            | none => exact nof (by simp [evalOp, sliceElem, hu, hsz, hz]) rfl
            | some z =>
              cases hb : (Nat.ble (n * (s + 1)) (2 ^ 24) && Nat.beq z.length (s + 1)) with
              | false => exact nof (by simp only [evalOp, sliceElem, hu, hsz, hz, hb, cond_false]) rfl
              | true =>
                cases hl : partsOf (fun i => some (i * (s + 1), s + 1)) (ps.toList.map fun x => (x.1, ev e x.2)) with
                | none => exact nof (by simp only [evalOp, sliceElem, hu, hsz, hz, hb, cond_true, hl]) rfl
                | some l =>
                  have hb2 := hb
                  simp only [Bool.and_eq_true] at hb2
                  refine fin _ (Instr.buildSlice t n ⟨ps.toList.map fun x => (x.1, a.eval x.2)⟩) (mk_bldSlice hz hu hsz (Nat.le_of_ble_eq_true hb2.1) (Nat.eq_of_beq_eq_true hb2.2) hp hl) (by simp only [evalOp, sliceElem, hu, hsz, hz, hb, cond_true, hl]) ?_
                  rw [← hps]; rfl
      · refine nof ?_ rfl
        have : sliceElem P t = none := by unfold sliceElem; rw [hu]; cases d <;> first | rfl | exact absurd ⟨_, rfl⟩ hd
        simp [evalOp, this]
  case makeSlice t x y =>
    cases hu : P.underlying t with
    | none => exact nof (by simp [evalOp, sliceElem, hu]) rfl
    | some d =>
      by_cases hd : ∃ el, d = .slice el
      · obtain ⟨el, rfl⟩ := hd
        cases hsz : tSize P el with
        | none => exact nof (by simp [evalOp, sliceElem, hu, hsz]) rfl
        | some s =>
          cases s with
          | zero => exact nof (by simp [evalOp, sliceElem, hu, hsz]) rfl
          | succ s =>
            cases hby : tBytes P el with
            | none => exact nof (by simp [evalOp, sliceElem, hu, hsz, hby]) rfl
            | some b =>
              cases hz : tZero P el with
              | none => exact nof (by simp [evalOp, sliceElem, hu, hsz, hby, hz]) rfl
              | some z =>
                cases hl : Nat.beq z.length (s + 1) with
                | false => exact nof (by simp only [evalOp, sliceElem, hu, hsz, hby, hz, hl, cond_false]) rfl
                | true => exact fin _ _ (mk_mkSlice hz hu hsz hby (Nat.eq_of_beq_eq_true hl) (he.ev (hop x (.inl rfl))) (he.ev (hop y (.inr rfl)))) (by simp only [evalOp, sliceElem, hu, hsz, hby, hz, hl, cond_true]) rfl
      · refine nof ?_ rfl
        have : sliceElem P t = none := by unfold sliceElem; rw [hu]; cases d <;> first | rfl | exact absurd ⟨_, rfl⟩ hd
        simp [evalOp, this]
end
end Go.Am
