/- What each operation of the model does to a world, an abstract heap does too: x op y. -/
import Derived.Test.YtcagogdllnlihaaGreatAm5
set_option linter.all false
namespace Go.Am

def binRun (P : Program) (op : BinOp) (t : TypeId) (xo yo : Operand) (x y : Value) : Sem Value := do eqGuard op t xo yo x y; binOp op t x y

section
variable {P : Program} {π : Ren} {H : Heap} {w : World} (hs : Sim π H w) {k : Nat}
include hs

theorem gives_okO {r : Option Value} {c : Result Value} (h : ∀ v, r = some v → VRel π v v ∧ c = .ok v w) : Gives π H w (okO r H) c := by
  cases r with
  | none => exact Gives.no rfl
  | some v => obtain ⟨h1, h2⟩ := h v rfl; exact Gives.same hs rfl h2 h1

omit hs in
theorem eqRes_some {op : BinOp} {r : Option Bool} {v : Value} (h : eqRes op r = some v) : ∃ b, r = some b ∧ ((op = .eql ∧ v = .bool b) ∨ (op = .neq ∧ v = .bool (!b))) := by
  cases r with
  | none => cases op <;> simp [eqRes] at h
  | some b => cases op <;> simp [eqRes] at h <;> subst h <;> simp
/-- == and != by the model's equality -/
theorem gives_eq {op : BinOp} {t : TypeId} {xo yo : Operand} {x' y' : Value} {r : Option Bool} (hg : (eqGuard op t xo yo x' y').run P w = .ok () w)
    (hb : ∀ op, op = .eql ∨ op = .neq → binOp op t x' y' = (match op with
      | .eql => (do pure (.bool (← Op.equal t x' y')) : Sem Value)
      | _ => (do pure (.bool (!(← Op.equal t x' y'))) : Sem Value)))
    (he : ∀ b, r = some b → (Op.equal t x' y').run P w = .ok b w) : Gives π H w (okO (eqRes op r) H) ((binRun P op t xo yo x' y').run P w) := by
  refine gives_okO hs fun v hv => ?_
  obtain ⟨b, rfl, ⟨rfl, rfl⟩ | ⟨rfl, rfl⟩⟩ := eqRes_some hv
  · exact ⟨.bool _, by simp [binRun, hg, hb .eql (.inl rfl), he b rfl]⟩
  · exact ⟨.bool _, by simp [binRun, hg, hb .neq (.inr rfl), he b rfl]⟩

omit hs in
theorem guard_plain {op : BinOp} {t : TypeId} {xo yo : Operand} {x y : Value} (h1 : x ≠ .nilIface ∨ y ≠ .nilIface) (h2 : (∀ a, x ≠ .agg a) ∨ (∀ a, y ≠ .agg a)) : (eqGuard op t xo yo x y).run P w = .ok () w := by
  unfold eqGuard
  cases op <;> simp only [reduceCtorEq, Bool.not_true, Bool.not_false, Bool.false_eq_true, if_true, if_false] <;> first | rfl | skip
  all_goals
    cases x <;> first
      | (simp; done)
      | (cases y <;> first | rfl | (simp at h1; done) | (simp at h2; done))

theorem gives_binI {op : BinOp} {t : TypeId} {xo yo : Operand} {x y x' y' : Value} (hx : VRel π x x') (hy : VRel π y y') :
    Gives π H w (binI op x y k H) ((binRun P op t xo yo x' y').run P w) := by
  unfold binI
  split
  · rename_i k1 a k2 b
    cases hx; cases hy
    refine gives_okO hs fun v hv => ?_
    have hg : (eqGuard op t xo yo (.int k1 a) (.int k2 b)).run P w = .ok () w := guard_plain (by simp) (by simp)
    cases hop : isShift op with
    | true =>
      rw [hop] at hv
      have hb : 0 ≤ b := by
        by_cases h : b < 0
        · simp [shf, h] at hv
        · omega
      have hb' : ¬ b < 0 := by omega
      cases op <;> simp [isShift] at hop <;> simp only [shf, hb', decide_false, cond_false, Option.some.injEq] at hv <;> subst hv <;>
        exact ⟨.int _ _, by simp [binRun, hg, binOp, Op.shift, hb']⟩
    | false =>
      rw [hop] at hv
      by_cases hk : k1 = k2
      · subst hk
        simp only [decide_true, cond_true] at hv
        cases op <;> simp [isShift] at hop <;> simp only [intOp, reduceCtorEq, Option.some.injEq] at hv
        case quo => by_cases h0 : b = 0 <;> simp [h0] at hv; subst hv; exact ⟨.int _ _, by simp [binRun, hg, binOp, Op.intDiv, h0]⟩
        case rem => by_cases h0 : b = 0 <;> simp [h0] at hv; subst hv; exact ⟨.int _ _, by simp [binRun, hg, binOp, Op.intDiv, h0]⟩
        all_goals
          subst hv
          exact ⟨by constructor, by simp [binRun, hg, binOp, Op.intArith, Op.intBits, Op.intCmp]⟩
      · simp [hk] at hv
  · exact Gives.no rfl

theorem gives_binB {op : BinOp} {t : TypeId} {xo yo : Operand} {x y x' y' : Value} (hx : VRel π x x') (hy : VRel π y y') (hu : P.underlying t = some .bool) :
    Gives π H w (binB op x y k H) ((binRun P op t xo yo x' y').run P w) := by
  unfold binB
  split
  · cases hx; cases hy
    refine gives_eq hs (guard_plain (by simp) (by simp)) (fun op h => by rcases h with rfl | rfl <;> rfl) fun b hb => ?_
    obtain rfl := Option.some.inj hb
    exact run_equal_bool w t _ _ hu
  · exact Gives.no rfl
theorem gives_binS {op : BinOp} {t : TypeId} {xo yo : Operand} {x y x' y' : Value} (hx : VRel π x x') (hy : VRel π y y') :
    Gives π H w (binS op x y k H) ((binRun P op t xo yo x' y').run P w) := by
  unfold binS
  split
  · rename_i a b
    cases hx; cases hy
    have hg : (eqGuard op t xo yo (.string a) (.string b)).run P w = .ok () w := guard_plain (by simp) (by simp)
    refine gives_okO hs fun v hv => ?_
    cases op <;> simp only [eqRes, reduceCtorEq, Option.some.injEq] at hv
    case add =>
      cases hle : Nat.ble (a.size + b.size) (2 ^ 48) with
      | false => simp only [hle, cond_false, reduceCtorEq] at hv
      | true =>
        simp only [hle, cond_true, Option.some.injEq] at hv
        have := Nat.le_of_ble_eq_true hle
        subst hv
        have hno : ¬ (((a.size + b.size : Nat) : Int) > IntKind.i64.max) := by
          have : IntKind.i64.max = 9223372036854775807 := by rfl
          rw [this]; omega
        exact ⟨.string _, by simp only [binRun, Sem.run_bind, hg, Result.andThen_ok, binOp, Op.stringOp, hno, if_false, Sem.run_pure]⟩
    all_goals
      subst hv
      exact ⟨by constructor, by simp [binRun, hg, binOp, Op.stringOp, beq_toListBytes]⟩
  · exact Gives.no rfl
theorem gives_binN {kd : NilK} {op : BinOp} {t : TypeId} {xo yo : Operand} {x y x' y' : Value} {d : TypeDesc} (hx : VRel π x x') (hy : VRel π y y') (hu : P.underlying t = some d)
    (hd : match kd, d with | .slice, .slice _ | .map, .map .. | .func, .func .. | .iface, .interface _ => True | _, _ => False) :
    Gives π H w (binN kd op x y k H) ((binRun P op t xo yo x' y').run P w) := by
  unfold binN
  cases hr : nilEq kd x y with
  | none => exact Gives.no (by cases op <;> rfl)
  | some r =>
    have key : (x' ≠ .nilIface ∨ y' ≠ .nilIface) ∧ ((∀ a, x' ≠ .agg a) ∨ (∀ a, y' ≠ .agg a)) ∧ (∀ op, op = .eql ∨ op = .neq → binOp op t x' y' = (match op with
        | .eql => (do pure (.bool (← Op.equal t x' y')) : Sem Value)
        | _ => (do pure (.bool (!(← Op.equal t x' y'))) : Sem Value))) ∧ ∀ d, (Op.equalIn (d + 1) t x' y').run P w = .ok r w := by
      cases kd <;> cases d <;> simp only at hd <;> unfold nilEq at hr <;> split at hr <;> first
        | (rename_i h; cases h; done)
        | (cases hr; done)
        | skip
      all_goals
        obtain rfl := Option.some.inj hr
        cases hx <;> cases hy <;>
        exact ⟨by simp, by simp, fun op h => by rcases h with rfl | rfl <;> rfl, fun d => by simp [Op.equalIn, run_underlying hu]⟩
    obtain ⟨k1, k2, k3, k4⟩ := key
    refine gives_eq hs (guard_plain k1 k2) k3 fun b hb => ?_
    obtain rfl := Option.some.inj hb
    exact k4 9999

omit hs in
theorem sameAddr_other {a b : Addr} {ca cb : Array Value} {ea eb : TypeId} (ha : w.heap[a.block]? = some (.cells ca ea (0, 0))) (hb : w.heap[b.block]? = some (.cells cb eb (0, 0))) (hne : a.block ≠ b.block) :
    (sameAddr a b).run P w = .ok false w := by
  have fa : ∀ o s, w.frozen? ⟨a.block, o, s⟩ = false := fun o s => by simp [World.frozen?, ha]
  have fb : ∀ o s, w.frozen? ⟨b.block, o, s⟩ = false := fun o s => by simp [World.frozen?, hb]
  have fa' : w.frozen? a = false := fa a.off a.spot
  have fb' : w.frozen? b = false := fb b.off b.spot
  have sa : w.shape? a.block = some (ea, ca.size) := by simp [World.shape?, ha]
  have sb : w.shape? b.block = some (eb, cb.size) := by simp [World.shape?, hb]
  simp [sameAddr, hne, fa', fb', noView, viewAt, sa, sb, mayBeOne, stringish, fa, fb]

theorem live_blk {i : Nat} {l : Loc} (h : live H i = true) (hl : π i = some l) : ∃ c e, w.heap[l.blk]? = some (.cells c e (0, 0)) ∧ ∃ o, H.get i = some o ∧ alive o = true := by
  unfold live at h
  split at h
  · rename_i t c hg
    obtain ⟨_, h3⟩ := hs.obs i _ l hg rfl hl
    obtain ⟨c', hc, _⟩ := h3.blk
    exact ⟨c', t, hc, _, hg, rfl⟩
  · cases h

theorem gives_binP {op : BinOp} {t e : TypeId} {m : Nat} {xo yo : Operand} {x y x' y' : Value} (hx : VRel π x x') (hy : VRel π y y') (hu : P.underlying t = some (.pointer e)) (hm : tSize P e = some (m + 1)) :
    Gives π H w (binP op x y k H) ((binRun P op t xo yo x' y').run P w) := by
  have no : ptrEq H x y = none → Gives π H w (binP op x y k H) ((binRun P op t xo yo x' y').run P w) := fun h => by
    unfold binP; rw [h]; exact Gives.no (by cases op <;> rfl)
  by_cases hn : ptrEq H x y = none
  · exact no hn
  · have hp : (∃ a, x = .pointer a) ∧ ∃ b, y = .pointer b := by
      unfold ptrEq at hn
      split at hn
      · exact ⟨⟨_, rfl⟩, ⟨_, rfl⟩⟩
      · exact absurd rfl hn
    obtain ⟨⟨a, rfl⟩, ⟨b, rfl⟩⟩ := hp
    have key : ∀ r, ptrEq H (.pointer a) (.pointer b) = some r → (∃ p q, x' = .pointer p ∧ y' = .pointer q ∧ ∀ d, (Op.equalIn (d + 1) t (.pointer p) (.pointer q)).run P w = .ok r w) := by
      intro r hr
      cases a with
      | none =>
        cases hx
        cases b with
        | none => cases hy; simp [ptrEq, ptrEqA] at hr; subst hr; exact ⟨_, _, rfl, rfl, fun d => by simp [Op.equalIn, run_underlying hu]⟩
        | some b =>
          obtain ⟨b', rfl, _⟩ := hy.arel
          simp [ptrEq, ptrEqA] at hr; subst hr; exact ⟨_, _, rfl, rfl, fun d => by simp [Op.equalIn, run_underlying hu]⟩
      | some a =>
        obtain ⟨a', rfl, ra⟩ := hx.arel
        cases b with
        | none => cases hy; simp [ptrEq, ptrEqA] at hr; subst hr; exact ⟨_, _, rfl, rfl, fun d => by simp [Op.equalIn, run_underlying hu]⟩
        | some b =>
          obtain ⟨b', rfl, rb⟩ := hy.arel
          refine ⟨_, _, rfl, rfl, fun d => ?_⟩
          cases ra with
          | base => simp [ptrEq, ptrEqA] at hr
          | new i off l hl =>
            cases rb with
            | base => simp [ptrEq, ptrEqA] at hr
            | new j off' l' hl' =>
              simp only [ptrEq, ptrEqA] at hr
              cases hij : Nat.beq i j with
              | true =>
                obtain rfl := Nat.eq_of_beq_eq_true hij
                simp only [hij, cond_true, Option.some.injEq] at hr
                obtain rfl : l' = l := by rw [hl] at hl'; exact (Option.some.inj hl').symm
                have : ((⟨l'.blk, l'.sh + off, none⟩ : Addr) == ⟨l'.blk, l'.sh + off', none⟩) = r := by
                  subst hr
                  cases hb : Nat.beq off off' with
                  | true => obtain rfl := Nat.eq_of_beq_eq_true hb; simp
                  | false => simp; intro he; subst he; simp at hb
                simp [Op.equalIn, run_underlying hu, run_tsize hm, sameAddr, this]
              | false =>
                cases hlv : (live H i && live H j) with
                | false => simp [hij, hlv] at hr
                | true =>
                  simp only [hij, hlv, cond_true, cond_false, Option.some.injEq] at hr
                  subst hr
                  simp only [Bool.and_eq_true] at hlv
                  obtain ⟨c1, e1, h1, o1, g1, v1⟩ := live_blk hs hlv.1 hl
                  obtain ⟨c2, e2, h2, o2, g2, v2⟩ := live_blk hs hlv.2 hl'
                  have hne : l.blk ≠ l'.blk := fun he => by
                    have := hs.inj i j o1 o2 l l' g1 v1 g2 v2 hl hl' he
                    subst this; simp at hij
                  have := sameAddr_other (P := P) (w := w) (a := ⟨l.blk, l.sh + off, none⟩) (b := ⟨l'.blk, l'.sh + off', none⟩) h1 h2 hne
                  simp [Op.equalIn, run_underlying hu, run_tsize hm, this]
    cases hr : ptrEq H (.pointer a) (.pointer b) with
    | none => exact no hr
    | some r =>
      obtain ⟨p, q, rfl, rfl, he⟩ := key r hr
      unfold binP
      rw [hr]
      refine gives_eq hs (guard_plain (by simp) (by simp)) (fun op h => by rcases h with rfl | rfl <;> rfl) fun b hb => ?_
      obtain rfl := Option.some.inj hb
      exact he 9999

omit hs in
theorem cellEq_rel {sh : Sh} {x y x' y' : Value} {r : Bool} (hx : VRel π x x') (hy : VRel π y y') (h : cellEq sh x y = some r) : cellEq sh x' y' = some r := by
  cases sh <;> cases x <;> simp only [cellEq, reduceCtorEq] at h <;> cases y <;> simp only [reduceCtorEq] at h <;> cases hx <;> cases hy <;> exact h
omit hs in
theorem cellsEq_rel : ∀ {ss : List Sh} {xs ys xs' ys' : List Value} {r : Bool}, VRels π xs xs' → VRels π ys ys' → cellsEq ss xs ys = some r → cellsEq ss xs' ys' = some r
  | [], _, _, _, _, _, .nil, .nil, h => h
  | [], _, _, _, _, _, .nil, .cons .., h => by simp [cellsEq] at h
  | [], _, _, _, _, _, .cons .., _, h => by simp [cellsEq] at h
  | _ :: _, _, _, _, _, _, .nil, _, h => by simp [cellsEq] at h
  | _ :: _, _, _, _, _, _, .cons .., .nil, h => by simp [cellsEq] at h
  | s :: ss, _, _, _, _, r, .cons x x' xs xs' hx hxs, .cons y y' ys ys' hy hys, h => by
    simp only [cellsEq] at h
    split at h
    · rename_i a b ha hb
      simp only [cellsEq, cellEq_rel hx hy ha, cellsEq_rel hxs hys hb]; exact h
    · cases h
theorem gives_binA {op : BinOp} {t : TypeId} {xo yo : Operand} {x y x' y' : Value} {sh : List Sh} (hx : VRel π x x') (hy : VRel π y y') (hp : plainS P 8 t = some sh) (hg : P.eqGuardType P.depth t = false) (ha : tAgg P t = some true) :
    Gives π H w (binA sh op x y k H) ((binRun P op t xo yo x' y').run P w) := by
  unfold binA
  split
  · rename_i a b
    cases hx with
    | agg xs xs' hxs =>
      cases hy with
      | agg ys ys' hys =>
        refine gives_eq hs (run_eqGuard_agg w op t xo yo _ _ hg) (fun op h => by rcases h with rfl | rfl <;> rfl) fun b hb => ?_
        exact eqc 8 10000 t sh (by omega) hp w xs' ys' b _ _ (.inl ⟨ha, rfl⟩) (.inl ⟨ha, rfl⟩) (cellsEq_rel hxs hys hb)
  · exact Gives.no rfl

theorem gives_binT {op : BinOp} {t : TypeId} {xo yo : Operand} {x y x' y' : Value} (hx : VRel π x x') (hy : VRel π y y') :
    Gives π H w (binT P op t xo yo x y k H) ((binRun P op t xo yo x' y').run P w) := by
  unfold binT
  cases hu : P.underlying t with
  | none => exact Gives.no rfl
  | some d =>
    have agg : tAgg P t = some true → Gives π H w ((bif P.eqGuardType P.depth t then M.fail else (match plainS P 8 t with
        | some s => binA s op x y
        | none => M.fail) : M Value) k H) ((binRun P op t xo yo x' y').run P w) := by
      intro ha
      cases hg : P.eqGuardType P.depth t with
      | true => exact Gives.no rfl
      | false =>
        simp only [cond_false]
        cases hp : plainS P 8 t with
        | none => exact Gives.no rfl
        | some sh => exact gives_binA hs hx hy hp hg ha
    cases d <;> simp only
    case struct fs => exact agg (by unfold tAgg; rw [hu])
    case array n e => exact agg (by unfold tAgg; rw [hu])
    case pointer e =>
      cases hm : tSize P e with
      | none => exact Gives.no rfl
      | some m => cases m with
        | zero => exact Gives.no rfl
        | succ m => exact gives_binP hs hx hy hu hm
    case int => exact gives_binI hs hx hy
    case bool => exact gives_binB hs hx hy hu
    case string => exact gives_binS hs hx hy
    case slice => exact gives_binN hs hx hy hu trivial
    case map => exact gives_binN hs hx hy hu trivial
    case func => exact gives_binN hs hx hy hu trivial
    case interface =>
      cases hc : isConstO xo || isConstO yo with
      | false => exact Gives.no rfl
      | true => exact gives_binN (k := k) hs hx hy hu trivial
    all_goals exact Gives.no rfl
end
end Go.Am
