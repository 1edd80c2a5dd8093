/- Calls: what a function answers abstractly, it answers. -/
import Derived.Test.YtcagogdllnlihaaGreatAm19
set_option linter.all false
namespace Go.Am

section
variable {P : Program} {π : Ren} {H : Heap} {w : World} {k : Nat}

theorem ld_same (hs : Sim π H w) {t : TypeId} {p p' : Value} (hp : VRel π p p') {Q : Value → Heap → Prop} {E : Value → Heap → Prop} (hq : (ldT P t p k H).Sat Q E) :
    ∃ v v', Q v H ∧ (Instr.loadAt t p').run P w = .ok v' w ∧ VRel π v v' := by
  unfold ldT at hq
  cases ha : tAgg P t with
  | none => rw [ha] at hq; exact hq.elim
  | some b =>
    cases hn : tSize P t with
    | none => rw [ha, hn] at hq; exact hq.elim
    | some n =>
      rw [ha, hn] at hq
      simp only at hq
      unfold ld at hq
      split at hq
      · rename_i ad
        obtain ⟨a', rfl, har⟩ := hp.arel
        split at hq
        · rename_i l hl
          obtain ⟨h1, l', h2, h3⟩ := hs.cells har hl
          have hlen := h2.length
          split at hq
          · refine ⟨_, .agg ⟨l'⟩, hq, ?_, .agg _ l' h2⟩
            have := run_loadCells_list (P := P) w a' l' h3
            rw [← hlen, h1] at this
            simp [Instr.loadAt, Instr.sureAddr, loadVar, run_tagg ha, run_tsize hn, this]
          · rename_i x
            cases h2 with
            | cons _ x' _ _ hx hnil =>
              cases hnil
              refine ⟨_, x', hq, ?_, hx⟩
              have := h3 0 x' (by simp)
              rw [har.add0] at this
              simp [Instr.loadAt, Instr.sureAddr, loadVar, run_tagg ha, this]
          · exact hq.elim
        · exact hq.elim
      · exact hq.elim

def resF (tmps : Array Value) : ResultVar → Sem Value
  | .tmp t => pure (tmps.getD t undef)
  | .cell a t => do loadVar t (← asAddr (tmps.getD a undef))
theorem results_eq (fn : Func) (tmps : Array Value) : results fn tmps = (do
    let vs ← List.toArray <$> (fn.results.toList.mapM (resF tmps))
    pure (if h : vs.size = 1 then vs[0] else .tuple vs)) := by
  unfold results
  rw [← Array.mapM_eq_mapM_toList]
  have : (fun | .tmp t => pure (tmps.getD t undef) | .cell a t => do loadVar t (← asAddr (tmps.getD a undef)) : ResultVar → Sem Value) = resF tmps := by
    funext x; cases x <;> rfl
  rw [← this]
  rfl
theorem results_list (hs : Sim π H w) {e : Env} {a : Act} (he : EnvRel π e a) : ∀ (rs : List ResultVar) {Q : List Value → Heap → Prop} {E : Value → Heap → Prop}, (resultsM P e rs k H).Sat Q E →
    ∃ vs vs', Q vs H ∧ (rs.mapM (resF a.tmps)).run P w = .ok vs' w ∧ VRels π vs vs'
  | [], Q, E, h => ⟨[], [], h, by simp, .nil⟩
  | .tmp t :: rs, Q, E, h => by
    obtain ⟨vs, vs', h1, h2, h3⟩ := results_list hs he rs (Out.Sat.of_bind (o := resultsM P e rs k H) h)
    exact ⟨e t :: vs, a.tmps.getD t undef :: vs', h1, by simp [List.mapM_cons, resF, h2], .cons _ _ _ _ (he.slot t) h3⟩
  | .cell ad t :: rs, Q, E, h => by
    obtain ⟨v, v', h1, h2, h3⟩ := ld_same hs (he.slot ad) (Out.Sat.of_bind (o := ldT P t (e ad) k H) h)
    obtain ⟨vs, vs', h4, h5, h6⟩ := results_list hs he rs (Out.Sat.of_bind (o := resultsM P e rs k H) h1)
    refine ⟨v :: vs, v' :: vs', h4, ?_, .cons _ _ _ _ h3 h6⟩
    have hl : (resF a.tmps (.cell ad t)).run P w = .ok v' w := by
      have hsl := he.slot ad
      have hadr : ∃ b, e ad = .pointer (some b) := by
        have hh := Out.Sat.of_bind (o := ldT P t (e ad) k H) h
        generalize e ad = x at hh
        unfold ldT at hh
        cases ha : tAgg P t with
        | none => rw [ha] at hh; exact hh.elim
        | some q =>
          cases hn : tSize P t with
          | none => rw [ha, hn] at hh; exact hh.elim
          | some n =>
            rw [ha, hn] at hh
            simp only at hh
            unfold ld at hh
            split at hh
            · exact ⟨_, rfl⟩
            · exact hh.elim
      obtain ⟨b, hb⟩ := hadr
      rw [hb] at hsl
      obtain ⟨b', hb', _⟩ := hsl.arel
      simp only [resF, hb'] at h2 ⊢
      simpa [Instr.loadAt, Instr.sureAddr, asAddr] using h2
    simp [List.mapM_cons, hl, h5]
theorem results_ok (hs : Sim π H w) {e : Env} {a : Act} (he : EnvRel π e a) {fn : Func} {Q : Value → Heap → Prop} {E : Value → Heap → Prop} (h : ((M.bind (resultsM P e fn.results.toList) fun vs => M.pure (tup vs)) k H).Sat Q E) :
    ∃ v v', Q v H ∧ (results fn a.tmps).run P w = .ok v' w ∧ VRel π v v' := by
  obtain ⟨vs, vs', h1, h2, h3⟩ := results_list hs he fn.results.toList (Out.Sat.of_bind (o := resultsM P e fn.results.toList k H) h)
  rw [results_eq]
  refine ⟨tup vs, (if h : vs'.toArray.size = 1 then vs'.toArray[0] else .tuple vs'.toArray), h1, by simp [h2], ?_⟩
  cases h3 with
  | nil => exact .tuple _ _ .nil
  | cons x y xs ys hx hxs =>
    cases hxs with
    | nil => simpa [tup] using hx
    | cons x2 y2 xs ys hx2 hxs =>
      have : ¬ (y :: y2 :: ys).toArray.size = 1 := by simp
      rw [dif_neg this]
      exact .tuple _ _ (.cons _ _ _ _ hx (.cons _ _ _ _ hx2 hxs))

/-- a function's answer, taken from elsewhere -/
def ExtOk (P : Program) (f : FuncId) (m : List Value → M Value) : Prop :=
  ∀ k args args' π H w Q E, Sim π H w → VRels π args args' → (m args k H).Sat Q E →
    (∃ fn, P.funcs[f]? = some fn ∧ fn.body.isSome = true ∧ (fn.name == "runtime.NumGoroutine") = false) ∧ Calls P f ⟨args'⟩ w (CallPost π H w Q E)
def NamesOk (P : Program) : Prop := ∀ (f : FuncId) (fn : Func), P.funcs[f]? = some fn → (fn.name == "runtime.NumGoroutine") = false

theorem func_ok (hfol : P.follows .mixedOrders = true) (hn : NamesOk P) {X : Exts} {A : Ann} (hx : ∀ f m, X f = some m → ExtOk P f m) : ∀ n k, CallOk P (fun g xs _ H => func P X A n g xs H) k := by
  intro n
  induction n with
  | zero => intro k g args args' π H w Q E _ _ h; exact h.elim
  | succ n ih =>
    intro k g args args' π H w Q E hs hv h
    have h' : (fun1 P X A (fun g xs _ H' => func P X A n g xs H') g args n H).Sat Q E := h
    unfold fun1 at h'
    cases hX : X g with
    | some m => rw [hX] at h'; exact hx g m hX n args args' π H w Q E hs hv h'
    | none =>
      rw [hX] at h'
      cases hf : P.funcs[g]? with
      | none => rw [hf] at h'; exact h'.elim
      | some fn =>
        rw [hf] at h'
        simp only at h'
        cases hb : fn.body with
        | none => rw [hb] at h'; exact h'.elim
        | some c =>
          rw [hb] at h'
          simp only at h'
          cases hl : Nat.ble args.length fn.ntmps with
          | false => rw [hl] at h'; exact h'.elim
          | true =>
            rw [hl] at h'
            simp only [cond_true] at h'
            refine ⟨⟨fn, rfl, by rw [hb]; rfl, hn g fn hf⟩, calls_of_wp hf hb ?_⟩
            have hle := Nat.le_of_ble_eq_true hl
            have hlen := hv.length
            have he : EnvRel π (fun i => args.getD i undef) { tmps := ⟨args'⟩ ++ Array.replicate (fn.ntmps - (⟨args'⟩ : Array Value).size) undef, defers := [] } := by
              refine ⟨fun t => ?_⟩
              show VRel π (args.getD t undef) ((⟨args'⟩ ++ Array.replicate (fn.ntmps - (⟨args'⟩ : Array Value).size) undef : Array Value).getD t undef)
              rw [Array.getD_eq_getD_getElem?, List.getD_eq_getElem?_getD, Array.getElem?_append]
              by_cases ht : t < args.length
              · have ht' : t < args'.length := by omega
                rw [if_pos (by simpa using ht')]
                obtain ⟨v', h1, h2⟩ := hv.get t args[t] (List.getElem?_eq_getElem ht)
                rw [List.getElem?_eq_getElem ht]
                simp only [List.getElem?_toArray, h1, Option.getD_some]
                exact h2
              · have ht' : ¬ t < args'.length := by omega
                rw [if_neg (by simpa using ht'), List.getElem?_eq_none (by omega), Array.getElem?_replicate]
                split <;> exact .undef
            have hsz : ({ tmps := ⟨args'⟩ ++ Array.replicate (fn.ntmps - (⟨args'⟩ : Array Value).size) undef, defers := [] } : Act).tmps.size = fn.ntmps := by
              simp; omega
            have hcode := Out.Sat.of_bind (o := code P (fun g xs _ H' => func P X A n g xs H') (A.keep g) (A.head g) fn.ntmps c (fun i => args.getD i undef) n H) h'
            refine wp_mono (code_ok hfol (ih n) c hs he hsz hcode) fun en a' w' hp => ?_
            cases en with
            | normal =>
              obtain ⟨e', H', π', h1, h2, h3, h4, h5⟩ := hp
              obtain ⟨v, v', q1, q2, q3⟩ := results_ok h3.sim h2 h1
              exact ⟨h4, v', q2, .inl ⟨v, H', v', π', q1, rfl, q3, h3⟩⟩
            | exit id => obtain ⟨e', H', π', h1, _⟩ := hp; exact h1.elim
            | ret =>
              obtain ⟨e', H', π', h1, h2, h3, h4, h5⟩ := hp
              obtain ⟨v, v', q1, q2, q3⟩ := results_ok h3.sim h2 h1
              exact ⟨h4, v', q2, .inl ⟨v, H', v', π', q1, rfl, q3, h3⟩⟩
            | panic ch =>
              obtain ⟨v, H', v', π', h1, rfl, h3, h4, h5⟩ := hp
              exact ⟨h5, .inr ⟨v, H', v', π', h1, rfl, h3, h4⟩⟩
            | goto l => exact hp.elim
            | outgrown => exact hp.elim
end
end Go.Am
