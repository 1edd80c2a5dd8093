/- What each operation of the model does to a world, an abstract heap does too: comparing and reckoning. -/
import Derived.Test.YtcagogdllnlihaaGreatAm4
import Derived.Laws.StructEq
import Derived.ChangeKeysEq
set_option linter.all false
namespace Go.Am

theorem cellsEq_len : ∀ (ss : List Sh) (xs ys : List Value) (r : Bool), cellsEq ss xs ys = some r → xs.length = ss.length ∧ ys.length = ss.length
  | [], [], [], _, _ => ⟨rfl, rfl⟩
  | [], [], _ :: _, _, h => by simp [cellsEq] at h
  | [], _ :: _, _, _, h => by simp [cellsEq] at h
  | _ :: _, [], _, _, h => by simp [cellsEq] at h
  | _ :: _, _ :: _, [], _, h => by simp [cellsEq] at h
  | s :: ss, x :: xs, y :: ys, r, h => by
    simp only [cellsEq] at h
    split at h
    · rename_i a b ha hb; have := cellsEq_len ss xs ys b hb; simp [this]
    · cases h
theorem cellsEq_app : ∀ (s1 s2 : List Sh) (xs ys : List Value) (r : Bool), cellsEq (s1 ++ s2) xs ys = some r →
    ∃ a b, cellsEq s1 (xs.take s1.length) (ys.take s1.length) = some a ∧ cellsEq s2 (xs.drop s1.length) (ys.drop s1.length) = some b ∧ r = (a && b)
  | [], s2, xs, ys, r, h => ⟨true, r, by simp [cellsEq], by simpa using h, by simp⟩
  | s :: s1, s2, [], _, r, h => by simp [cellsEq] at h
  | s :: s1, s2, _ :: _, [], r, h => by simp [cellsEq] at h
  | s :: s1, s2, x :: xs, y :: ys, r, h => by
    simp only [List.cons_append, cellsEq] at h
    split at h
    · rename_i a b ha hb
      obtain rfl := Option.some.inj h
      obtain ⟨c, d, h1, h2, rfl⟩ := cellsEq_app s1 s2 xs ys b hb
      refine ⟨a && c, d, ?_, by simpa using h2, by simp [Bool.and_assoc]⟩
      simp [cellsEq, ha, h1]
    · cases h

/-- a value of a type whose cells are l -/
def Formed (P : Program) (t : TypeId) (l : List Value) (v : Value) : Prop :=
  (tAgg P t = some true ∧ v = .agg ⟨l⟩) ∨ (tAgg P t = some false ∧ l = [v])
theorem run_part {P : Program} {w : World} {t : TypeId} {n off : Nat} {b : Bool} {xs : List Value} (ha : tAgg P t = some b) (hn : tSize P t = some n) (hb : b = false → n = 1) (hl : off + n ≤ xs.length) :
    ∃ v, (part t ⟨xs⟩ off).run P w = .ok v w ∧ Formed P t ((xs.drop off).take n) v := by
  cases b with
  | true =>
    refine ⟨.agg ⟨(xs.drop off).take n⟩, ?_, .inl ⟨ha, rfl⟩⟩
    simp only [part, Sem.run_bind, run_tagg ha, Result.andThen_ok, if_true, Sem.run_map, run_tsize hn]
    congr 2
    simp [List.extract_eq_take_drop]
  | false =>
    obtain rfl := hb rfl
    have hlt : off < xs.length := by omega
    refine ⟨xs[off], ?_, .inr ⟨ha, ?_⟩⟩
    · simp [part, run_tagg ha, hlt]
    · rw [List.drop_eq_getElem_cons hlt]; rfl
def EqC (P : Program) (d : Nat) (t : TypeId) (s : List Sh) : Prop :=
  ∀ (w : World) (xs ys : List Value) (r : Bool) (x y : Value), Formed P t xs x → Formed P t ys y → cellsEq s xs ys = some r → (Op.equalIn d t x y).run P w = .ok r w
theorem agg_size {P : Program} {d : Nat} {t : TypeId} {s : List Sh} (h : plainS P d t = some s) : ∃ b, tAgg P t = some b ∧ (b = false → s.length = 1) := by
  cases d with
  | zero => simp [plainS] at h
  | succ d =>
    unfold plainS at h
    unfold tAgg
    cases hu : P.underlying t with
    | none => simp [hu] at h
    | some k => cases k <;> simp [hu] at h ⊢ <;> (subst h; rfl)

theorem run_eqFields {P : Program} {d dd : Nat} (ih : ∀ t s, plainS P d t = some s → EqC P dd t s) (xs ys : List Value) : ∀ (fs : List Field) (off : Nat) (s : List Sh) (w : World) (r : Bool),
    tiles P (plainS P d) fs off = some s → xs.length = off + s.length → ys.length = off + s.length → cellsEq s (xs.drop off) (ys.drop off) = some r → (Op.eqFields dd ⟨xs⟩ ⟨ys⟩ fs).run P w = .ok r w
  | [], off, s, w, r, h, hl, hl', hc => by
    simp [tiles] at h
    subst h
    simp only [List.length_nil, Nat.add_zero] at hl hl'
    rw [List.drop_of_length_le (by omega), List.drop_of_length_le (by omega)] at hc
    simp [cellsEq] at hc
    subst hc
    rfl
  | f :: fs, off, s, w, r, h, hl, hl', hc => by
    simp only [tiles] at h
    split at h
    · rename_i s1 n hs hn
      cases hb : (Nat.beq s1.length n && Nat.beq f.offset off && f.name != "_") with
      | false => simp [hb] at h
      | true =>
        simp only [hb, cond_true] at h
        simp only [Bool.and_eq_true] at hb
        have hlen := Nat.eq_of_beq_eq_true hb.1.1
        have hoff := Nat.eq_of_beq_eq_true hb.1.2
        have hname : f.name ≠ "_" := by simpa using hb.2
        split at h
        · rename_i s2 hs2
          obtain rfl := Option.some.inj h
          rw [List.length_append] at hl hl'
          obtain ⟨b, hag, hsz⟩ := agg_size hs
          obtain ⟨a1, b1, h1, h2, rfl⟩ := cellsEq_app _ _ _ _ r hc
          rw [hlen] at h1 h2 hsz
          obtain ⟨x, hx, fx⟩ := run_part (P := P) (w := w) hag hn hsz (xs := xs) (off := off) (by omega)
          obtain ⟨y, hy, fy⟩ := run_part (P := P) (w := w) hag hn hsz (xs := ys) (off := off) (by omega)
          have he := ih f.type s1 hs w _ _ a1 x y fx fy h1
          have hrest := run_eqFields ih xs ys fs (off + n) s2 w b1 hs2 (by omega) (by omega) (by simpa [List.drop_drop] using h2)
          rw [← hoff] at hx hy
          simp only [Op.eqFields, hname, ne_eq, not_false_eq_true, if_true, Sem.run_bind, hx, hy, he, Result.andThen_ok]
          cases a1
          · simp
          · simpa using hrest
        · cases h
    · cases h

theorem run_eqItems {P : Program} {dd : Nat} {e : TypeId} {s : List Sh} {n : Nat} {b : Bool} (hag : tAgg P e = some b) (hsz : b = false → n = 1) (hs : tSize P e = some n) (hn : s.length = n) (ih : EqC P dd e s) (xs ys : List Value) : ∀ (m i : Nat) (w : World) (r : Bool),
    xs.length = i * n + m * n → ys.length = i * n + m * n → cellsEq (List.replicate m s).flatten (xs.drop (i * n)) (ys.drop (i * n)) = some r → (Op.eqItems dd e n ⟨xs⟩ ⟨ys⟩ (List.range' i m)).run P w = .ok r w
  | 0, i, w, r, hl, hl', hc => by
    simp only [Nat.zero_mul, Nat.add_zero] at hl hl'
    rw [List.drop_of_length_le (by omega), List.drop_of_length_le (by omega)] at hc
    simp [cellsEq] at hc
    subst hc
    rfl
  | m + 1, i, w, r, hl, hl', hc => by
    have hmul : (m + 1) * n = n + m * n := by rw [Nat.add_mul]; omega
    have himul : (i + 1) * n = i * n + n := by rw [Nat.add_mul]; omega
    rw [List.replicate_succ, List.flatten_cons] at hc
    obtain ⟨a1, b1, h1, h2, rfl⟩ := cellsEq_app _ _ _ _ r hc
    rw [hn] at h1 h2
    obtain ⟨x, hx, fx⟩ := run_part (P := P) (w := w) hag hs hsz (xs := xs) (off := i * n) (by omega)
    obtain ⟨y, hy, fy⟩ := run_part (P := P) (w := w) hag hs hsz (xs := ys) (off := i * n) (by omega)
    have he := ih w _ _ a1 x y fx fy h1
    have hrest := run_eqItems hag hsz hs hn ih xs ys m (i + 1) w b1 (by omega) (by omega) (by rw [himul]; simpa [List.drop_drop] using h2)
    simp only [List.range'_succ, Op.eqItems, Sem.run_bind, hx, hy, he, Result.andThen_ok]
    cases a1
    · simp
    · simpa using hrest

theorem tsize_info {P : Program} {t : TypeId} {n : Nat} (h : tSize P t = some n) : ∃ i, P.info? t = some i ∧ P.cellsOf t = n := by
  unfold tSize at h
  split at h
  · rename_i i hi; exact ⟨i, hi, by rw [Program.cellsOf, hi]; exact Option.some.inj h⟩
  · cases h

theorem flat_len {α : Type} (s : List α) : ∀ m, (List.replicate m s).flatten.length = m * s.length
  | 0 => by simp
  | m + 1 => by rw [List.replicate_succ, List.flatten_cons, List.length_append, flat_len s m, Nat.add_mul]; omega

theorem eqc {P : Program} : ∀ (d : Nat) (dd : Nat) (t : TypeId) (s : List Sh), d ≤ dd → plainS P d t = some s → EqC P dd t s
  | 0, _, _, _, _, h => by simp [plainS] at h
  | d + 1, 0, _, _, hd, _ => by omega
  | d + 1, dd + 1, t, s, hd, h => by
    intro w xs ys r x y fx fy hc
    have ih := eqc (P := P) d dd
    unfold plainS at h
    have scal : ∀ k, P.underlying t = some k → (match k with | .struct _ | .array _ _ => true | _ => false) = false → xs = [x] ∧ ys = [y] := by
      intro k hu hk
      have : tAgg P t = some false := by unfold tAgg; rw [hu]; cases k <;> simp_all
      rcases fx with ⟨h1, _⟩ | ⟨_, rfl⟩
      · rw [this] at h1; cases h1
      · rcases fy with ⟨h1, _⟩ | ⟨_, rfl⟩
        · rw [this] at h1; cases h1
        · exact ⟨rfl, rfl⟩
    have aggs : ∀ k, P.underlying t = some k → (match k with | .struct _ | .array _ _ => true | _ => false) = true → x = .agg ⟨xs⟩ ∧ y = .agg ⟨ys⟩ := by
      intro k hu hk
      have : tAgg P t = some true := by unfold tAgg; rw [hu]; cases k <;> simp_all
      rcases fx with ⟨_, rfl⟩ | ⟨h1, _⟩
      · rcases fy with ⟨_, rfl⟩ | ⟨h1, _⟩
        · exact ⟨rfl, rfl⟩
        · rw [this] at h1; cases h1
      · rw [this] at h1; cases h1
    have one : ∀ q, cellsEq [q] [x] [y] = some r → cellEq q x y = some r := by
      intro q hq
      simp only [cellsEq] at hq
      split at hq
      · rename_i a b ha hb
        simp only [Option.some.injEq] at hb hq
        subst hb; subst hq
        rw [Bool.and_true]; exact ha
      · cases hq
    cases hu : P.underlying t with
    | none => simp [hu] at h
    | some k =>
      cases k <;> simp only [hu] at h <;> try (cases h; done)
      · obtain ⟨rfl, rfl⟩ := scal _ hu rfl
        obtain rfl := Option.some.inj h
        have := one _ hc
        cases x <;> cases y <;> simp only [cellEq, reduceCtorEq] at this
        obtain rfl := Option.some.inj this
        simp [Op.equalIn, run_underlying hu]
      · obtain ⟨rfl, rfl⟩ := scal _ hu rfl
        obtain rfl := Option.some.inj h
        have := one _ hc
        cases x <;> cases y <;> simp only [cellEq, reduceCtorEq] at this
        rename_i k1 a k2 b
        by_cases hk : k1 = k2
        · subst hk
          simp only [decide_true, cond_true] at this
          obtain rfl := Option.some.inj this
          simp [Op.equalIn, run_underlying hu]
        · simp [hk] at this
      · obtain ⟨rfl, rfl⟩ := scal _ hu rfl
        obtain rfl := Option.some.inj h
        have := one _ hc
        cases x <;> cases y <;> simp only [cellEq, reduceCtorEq] at this
        obtain rfl := Option.some.inj this
        simp [Op.equalIn, run_underlying hu]
      · rename_i m e
        obtain ⟨rfl, rfl⟩ := aggs _ hu rfl
        split at h
        · rename_i s1 n hs hn
          cases hb : Nat.beq s1.length n with
          | false => simp [hb] at h
          | true =>
            simp only [hb, cond_true, Option.some.injEq] at h
            have hlen := Nat.eq_of_beq_eq_true hb
            obtain ⟨b, hag, hsz⟩ := agg_size hs
            obtain ⟨i, hi, hci⟩ := tsize_info hn
            subst h
            have hl := cellsEq_len _ _ _ _ hc
            rw [flat_len, hlen] at hl
            rw [run_equalIn_array w dd ⟨xs⟩ ⟨ys⟩ hu hi, hci, List.range_eq_range']
            exact run_eqItems hag (by rw [← hlen]; exact hsz) hn hlen (ih e s1 (by omega) hs) xs ys m 0 w r (by omega) (by omega) (by simpa using hc)
        · cases h
      · rename_i fs
        obtain ⟨rfl, rfl⟩ := aggs _ hu rfl
        cases hst : P.stoodInHeld t with
        | true => simp [hst] at h
        | false =>
          simp only [hst, cond_false] at h
          have hf : P.fieldsOf t = fs := by unfold Program.fieldsOf; rw [hu]
          have hl := cellsEq_len _ _ _ _ hc
          rw [run_equalIn_struct w dd t ⟨xs⟩ ⟨ys⟩ (by rw [hf]; exact hu) hst, hf]
          exact run_eqFields (fun t s hp => ih t s (by omega) hp) xs ys fs.toList 0 s w r h (by omega) (by omega) (by simpa using hc)
end Go.Am
