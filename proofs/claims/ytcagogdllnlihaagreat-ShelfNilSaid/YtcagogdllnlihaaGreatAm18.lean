/- Regions that draw their order, 4: the law. -/
import Derived.Test.YtcagogdllnlihaaGreatAm17
set_option linter.all false
namespace Go.Am

section
variable {P : Program} {call : CallF} {k : Nat} {ops : Array Oper} {keep : List Nat} {nt : Nat} {d : List Deferred} {Q : R → Heap → Prop} {E : Value → Heap → Prop} {π₀ : Ren} {H₀ : Heap} {w₀ : World} {e₀ : Env} {ord : List Nat} {D : Nat → Bool} {who : Nat → Nat} {tr : List (Nat × Value)} {rest : List Nat} {reads : List Read} {π : Ren} {H : Heap} {w : World} {a : Act}

theorem env_put {D' : Nat → Bool} (hord : ordOk ops.toList (befs ops.toList) ord = true) {t1 t2 : List (Nat × Value)} {i : Nat} {o : Oper} {v : Value} {more : List Nat} (ho : ops.toList[i]? = some o) (he : ord = t1.map (·.1) ++ i :: (t2.map (·.1) ++ more))
    (hall : ∀ j, j ∈ ord → ∃ o, ops.toList[j]? = some o) (hD : ∀ j, j ≠ i → D' j = D j) (hi : D' i = true)
    (haft : ∀ p ∈ t2, D p.1 = true → ahead (befs ops.toList) i p.1 = false) :
    envT ops.toList D' e₀ (t1 ++ (i, v) :: t2) = upd (envT ops.toList D e₀ (t1 ++ t2)) o.dst v := by
  rw [he] at hord
  obtain ⟨h1, h2, h3⟩ := ordOk_split hord
  have n2 : ∀ p ∈ t2, p.1 ≠ i := fun p hp hc => h2 (by rw [← hc]; simp only [List.mem_append, List.mem_map]; exact .inl ⟨p, hp, rfl⟩)
  have n1 : ∀ p ∈ t1, p.1 ≠ i := fun p hp => (h3 p.1 (List.mem_map.2 ⟨p, hp, rfl⟩)).2
  rw [envT_append, envT_append, envT_ext ops.toList (D := D') (D' := D) t1 e₀ fun p hp => hD _ (n1 p hp)]
  simp only [envT, hi, cond_true, dstAt_of ho]
  rw [envT_ext ops.toList (D := D') (D' := D) t2 _ fun p hp => hD _ (n2 p hp)]
  funext t
  by_cases hd : o.dst = some t
  · rw [envT_idle]
    · rw [hd]; simp only [upd, beqT rfl, cond_true]
    · intro p hp hDp hdp
      rcases h1 p.1 (by simp only [List.mem_append, List.mem_map]; exact .inl ⟨p, hp, rfl⟩) with hj | ⟨_, hj⟩
      · rw [haft p hp hDp] at hj; cases hj
      · obtain ⟨q, hq⟩ := hall p.1 (by rw [he]; simp only [List.mem_append, List.mem_map, List.mem_cons]; exact .inr (.inr (.inl ⟨p, hp, rfl⟩)))
        rw [dstAt_of hq] at hdp
        exact (clash_spec ho hq hj).2 t hdp (dst_mem_names hd)
  · rw [upd_other hd]
    exact envT_at _ _ _ _ _ _ (upd_other hd)

theorem done_ok (hD : drawOk ops.toList (befs ops.toList) ord = true) (h : Inv P call k ops keep nt d Q E π₀ H₀ w₀ e₀ ord D who tr rest reads π H w a) (hall : ∀ i, i < ops.size → D i = true) :
    CodePost π₀ H₀ w₀ d nt Q E .normal a w := by
  have hD2 := hD
  unfold drawOk at hD2
  simp only [Bool.and_eq_true, List.all_eq_true] at hD2
  have hr : rest = [] := by
    cases hr : rest with
    | nil => rfl
    | cons i r =>
      exfalso
      have ho := h.ord
      rw [hr] at ho
      have hlt := Nat.le_of_ble_eq_true (hD2.1.2 i (by rw [ho]; simp))
      have hoo := hD2.2
      rw [ho] at hoo
      obtain ⟨_, _, h3⟩ := ordOk_split hoo
      exact (h3 i (h.sub i (hall i (by have := Nat.le_of_succ_le hlt; simp at hlt; omega)))).2 rfl
  subst hr
  have hs := h.sat
  unfold evalDraw at hs
  refine ⟨_, H, π, hs, mk_rel ?_ keep, h.after, h.defers, h.size⟩
  have heq : envT ops.toList (fun _ => true) e₀ tr = envT ops.toList D e₀ tr := by
    refine (envT_ext ops.toList tr e₀ fun p hp => hall p.1 ?_).symm
    have := hD2.1.2 p.1 (by rw [h.ord]; simp only [List.mem_append, List.mem_map]; exact .inl ⟨p, hp, rfl⟩)
    have := Nat.le_of_ble_eq_true this
    simp at this; omega
  rw [heq]; exact h.env

theorem chks_sat {α : Type} {l : List α} {f : α → M Value × Value} {h : Heap} {m : M R} {H : Heap} (hs : (chks (l.map fun x => ((f x).1, (f x).2, h)) m k H).Sat Q E) : (∀ x ∈ l, sameR ((f x).1 k h) (f x).2 = true) ∧ (m k H).Sat Q E := by
  induction l with
  | nil => exact ⟨fun x hx => by simp at hx, hs⟩
  | cons x l ih =>
    simp only [List.map_cons, chks] at hs
    obtain ⟨h1, h2⟩ : sameR ((f x).1 k h) (f x).2 = true ∧ _ := hs
    obtain ⟨h3, h4⟩ := ih h2
    refine ⟨fun y hy => ?_, h4⟩
    rcases List.mem_cons.1 hy with rfl | hy
    · exact h1
    · exact h3 y hy

theorem draw_ok (hf0 : ∀ i o, H₀.get i = some o → i < H₀.next) (hcall : CallOk P call k) (hD : drawOk ops.toList (befs ops.toList) ord = true) (hok : ∀ o ∈ ops.toList, opOk nt o = true) : ∀ (fuel : Nat) (U : List Nat) (listed : Array Bool) (a : Act) (w : World) (who : Nat → Nat) (tr : List (Nat × Value)) (rest : List Nat) (reads : List Read) (π : Ren) (H : Heap),
    listed.size = ops.size → U.length ≤ fuel → (∀ j, j < ops.size → listed.getD j false = false → j ∈ U) →
    Inv P call k ops keep nt d Q E π₀ H₀ w₀ e₀ ord (fun i => listed.getD i false) who tr rest reads π H w a → (rest = [] ∨ ∃ i r, rest = i :: r ∧ isAct ops.toList i = true) →
    wpAny P .any ops (CodePost π₀ H₀ w₀ d nt Q E) fuel listed a w := by
  have hD2 := hD
  unfold drawOk at hD2
  simp only [Bool.and_eq_true, List.all_eq_true] at hD2
  have hmem : ∀ j, j ∈ ord → ∃ o, ops.toList[j]? = some o := fun j hj => ⟨_, List.getElem?_eq_getElem (Nat.le_of_ble_eq_true (hD2.1.2 j hj))⟩
  intro fuel
  induction fuel with
  | zero =>
    intro U listed a w who tr rest reads π H hsz hU hu h _
    have hall : ∀ i, i < ops.size → listed.getD i false = true := fun i hi => by
      cases hx : listed.getD i false with
      | true => rfl
      | false =>
        have h1 := hu i hi hx
        have : U = [] := List.length_eq_zero_iff.1 (Nat.le_zero.1 hU)
        rw [this] at h1; cases h1
    refine ⟨?_, done_ok hD h hall⟩
    rw [List.eq_nil_iff_forall_not_mem]
    intro j hj
    obtain ⟨h0, o, ho, _⟩ := mem_ready.1 hj
    have hlt : j < ops.size := (Array.getElem?_eq_some_iff.1 ho).1
    have h1 := hall j hlt
    rw [← hsz] at hlt
    simp [hlt] at h0 h1
    rw [h0] at h1; cases h1
  | succ fuel ih =>
    intro U listed a w who tr rest reads π H hsz hU hu h hhead
    refine ⟨fun hr => done_ok hD h ?_, ?_⟩
    · intro i
      induction i using Nat.strongRecOn with
      | _ i ihi =>
        intro hi
        cases hx : listed.getD i false with
        | true => rfl
        | false =>
          exfalso
          have : i ∈ Region.ready .any ops listed := by
            refine mem_ready.2 ⟨?_, ops[i], Array.getElem?_eq_getElem hi, fun e he hb => ?_⟩
            · have hi' := hi
              rw [← hsz] at hi'
              simp [hi'] at hx ⊢; exact hx
            · have := edgesOk_spec hD2.1.1.1 (o := ops[i]) (i := i) (by rw [Array.getElem?_toList, Array.getElem?_eq_getElem hi]) e he hb
              exact ihi _ this (by omega)
          rw [hr] at this; cases this
    · intro i hi
      obtain ⟨h0, o, hoA, hedge⟩ := mem_ready.1 hi
      have hilt : i < ops.size := (Array.getElem?_eq_some_iff.1 hoA).1
      have hil : i < listed.size := by rw [hsz]; exact hilt
      have hDi : listed.getD i false = false := by
        simp [hil] at h0 ⊢; exact h0
      have ho : ops.toList[i]? = some o := by rw [Array.getElem?_toList]; exact hoA
      have hoo := hok o (List.mem_of_getElem? ho)
      unfold opOk at hoo
      simp only [Bool.and_eq_true] at hoo
      -- the state behind
      have hD' : ∀ j, j ≠ i → (listed.setIfInBounds i true).getD j false = listed.getD j false := fun j hj => getD_set_ne false (Ne.symm hj)
      have hDi' : (listed.setIfInBounds i true).getD i false = true := by simp [hil]
      have hclosed' : ∀ j p, (listed.setIfInBounds i true).getD j false = true → ops[j]? = some p → ∀ e ∈ p.after, Region.binds .any e = true → (listed.setIfInBounds i true).getD e.on false = true := by
        intro j p hj hp e he hb
        by_cases hji : j = i
        · subst hji
          rw [hoA] at hp
          obtain rfl := Option.some.inj hp
          exact getD_set_true (hedge e he hb)
        · rw [hD' j hji] at hj
          exact getD_set_true (h.closed j p hj hp e he hb)
      have hiU : i ∈ U := hu i hilt hDi
      have hU' : (U.erase i).length ≤ fuel := by rw [List.length_erase_of_mem hiU]; omega
      have hu' : ∀ j, j < ops.size → (listed.setIfInBounds i true).getD j false = false → j ∈ U.erase i := by
        intro j hj hx
        by_cases hji : j = i
        · subst hji; rw [hDi'] at hx; cases hx
        · rw [hD' j hji] at hx
          exact (List.mem_erase_of_ne hji).2 (hu j hj hx)
      have go : ∀ (a' : Act) (w' : World) (who' : Nat → Nat) (tr' : List (Nat × Value)) (rest' : List Nat) (reads' : List Read) (π' : Ren) (H' : Heap),
          Inv P call k ops keep nt d Q E π₀ H₀ w₀ e₀ ord (fun i' => (listed.setIfInBounds i true).getD i' false) who' tr' rest' reads' π' H' w' a' → wpAny P .any ops (CodePost π₀ H₀ w₀ d nt Q E) fuel (listed.setIfInBounds i true) a' w' := by
        intro a' w' who' tr' rest' reads' π' H' hinv
        obtain ⟨who2, tr2, rest2, reads2, H2, hinv2, hh2⟩ := advance hD hinv
        exact ih (U.erase i) _ a' w' who2 tr2 rest2 reads2 π' H2 (by simpa using hsz) hU' hu' hinv2 hh2
      have hsound : ∀ x j p, ops.toList[j]? = some p → (∀ e ∈ p.after, Region.binds .any e = true → listed.getD e.on false = true) → ahead (befs ops.toList) x j = true → listed.getD x false = true := fun x j p hj he ha =>
        ahead_sound ops.toList (fun y => listed.getD y false = true) (fun y q hy hq => h.closed y q hy (by rw [← Array.getElem?_toList]; exact hq)) j p x hj he ha
      have hbef : ∀ j, ahead (befs ops.toList) j i = true → listed.getD j false = true := fun j hj => hsound j i o ho hedge hj
      have hnot : ∀ j, listed.getD j false = true → ahead (befs ops.toList) i j = false := by
        intro j hj
        cases hx : ahead (befs ops.toList) i j with
        | false => rfl
        | true =>
          exfalso
          obtain ⟨q, hq⟩ : ∃ q, ops.toList[j]? = some q := hmem j (by rw [h.ord]; exact List.mem_append_left _ (h.sub j hj))
          have := hsound i j q hq (h.closed j q hj (by rw [← Array.getElem?_toList]; exact hq)) hx
          rw [hDi] at this; cases this
      by_cases hin : i ∈ tr.map (·.1)
      · -- gone through before
        obtain ⟨⟨i', v⟩, hpm, hpe⟩ := List.mem_map.1 hin
        simp only at hpe
        subst hpe
        obtain ⟨t1, t2, rfl⟩ := List.append_of_mem hpm
        have hord : ord = t1.map (·.1) ++ i' :: (t2.map (·.1) ++ rest) := by rw [h.ord]; simp
        obtain ⟨o', ho', hlate⟩ := h.late t1 i' v t2 rfl hDi
        rw [ho] at ho'
        obtain rfl := Option.some.inj ho'
        have hnd : ∀ t3 j u t4, t1 ++ (i', v) :: t2 = t3 ++ (j, u) :: t4 → (listed.setIfInBounds i' true).getD j false = false → j ≠ i' ∧ listed.getD j false = false := by
          intro t3 j u t4 _ hd
          have hji : j ≠ i' := fun hc => by subst hc; rw [hDi'] at hd; cases hd
          exact ⟨hji, by rw [hD' j hji] at hd; exact hd⟩
        have envD : envT ops.toList (fun i => listed.getD i false) e₀ (t1 ++ (i', v) :: t2) = envT ops.toList (fun i => listed.getD i false) e₀ (t1 ++ t2) := by
          rw [envT_append, envT_append]; simp only [envT, hDi, cond_false]
        have henv := h.env
        rw [envD] at henv
        have hsame : mOf P call ops.toList (envT ops.toList (fun i => listed.getD i false) e₀ (t1 ++ t2)) o = mOf P call ops.toList (envT ops.toList (fun _ => true) e₀ t1) o :=
          mOf_congr fun t ht => env_names hD2.2 ho hord hmem hbef (fun p _ hp => hnot _ hp) ht
        have hput : envT ops.toList (fun j => (listed.setIfInBounds i' true).getD j false) e₀ (t1 ++ (i', v) :: t2) = upd (envT ops.toList (fun i => listed.getD i false) e₀ (t1 ++ t2)) o.dst v :=
          env_put hD2.2 ho hord hmem hD' hDi' (fun p _ hp => hnot _ hp)
        have hsub' : ∀ j, (listed.setIfInBounds i' true).getD j false = true → j ∈ (t1 ++ (i', v) :: t2).map (·.1) := by
          intro j hj
          by_cases hji : j = i'
          · subst hji; exact hin
          · rw [hD' j hji] at hj; exact h.sub j hj
        have hds := dstOk_spec hoo.2 h.size
        have calm : (mOf P call ops.toList (envT ops.toList (fun i => listed.getD i false) e₀ (t1 ++ t2)) o k H) = .ok v H → wpOp P ops (CodePost π₀ H₀ w₀ d nt Q E) i' (wpAny P .any ops (CodePost π₀ H₀ w₀ d nt Q E) fuel (listed.setIfInBounds i' true)) a w := by
          intro hv
          refine wpOp_ok (Q := fun u H' => u = v ∧ H' = H) (E := fun _ _ => False) h.after.sim hcall henv hoA hoo.1 (by rw [hv]; exact ⟨rfl, rfl⟩) ?_ (fun _ _ _ _ _ hf => hf.elim)
          rintro u H' v' w' π' ⟨rfl, rfl⟩ hvr ha
          refine go _ _ who _ rest reads π' _ ⟨h.ord, hsub', hclosed', ?_, by rw [put_size]; exact h.size, by rw [put_defers]; exact h.defers, h.sat, h.after.trans ha, ?_⟩
          · rw [hput]; exact (henv.mono ha.ext).put hvr hds
          · intro t3 j u t4 he hd
            obtain ⟨hji, hdj⟩ := hnd t3 j u t4 he hd
            obtain ⟨p, hp, hl⟩ := h.late t3 j u t4 he hdj
            refine ⟨p, hp, ?_⟩
            cases hl with
            | still h => exact .still h
            | read h hk hm => exact .read h hk hm
            | make Hx ob h hk hw hn hg hp =>
              obtain ⟨g1, g2⟩ := ha.unb _ _ hg hp
              exact .make Hx ob h hk hw hn g1 g2
        cases hlate with
        | still hv => exact calm (by rw [hsame, hv]; rfl)
        | read hv hk hm => exact calm (by rw [hsame]; exact hv)
        | make Hx ob hv hk hw hn hg hp =>
          rw [← hsame] at hv
          refine wpOp_make h.after.sim henv hoA hoo.1 hk hv hg hp ?_
          intro v' l x hvr hsim hext hold hown
          have ha : After π₀ H₀ w₀ (Ren.put π Hx.next l) H (w.alloc x) := by
            refine ⟨h.after.ext.trans hext, hsim, h.after.base, h.after.next, ?_, ?_, ?_, ?_⟩
            · have := h.after.size; simp only [World.size_alloc]; omega
            · intro b hb hno
              rw [hold b (Nat.lt_of_lt_of_le hb h.after.size)]
              exact h.after.kept b hb hno
            · intro b hb
              rcases hown b hb with h1 | h1
              · exact h.after.own b h1
              · exact .inr (Nat.le_trans h.after.size h1)
            · intro j u hj hpj
              obtain ⟨g1, g2⟩ := h.after.unb j u hj hpj
              have hne : j ≠ Hx.next := by
                rintro rfl
                exact absurd hn (Nat.not_le.2 (hf0 _ _ hj))
              exact ⟨g1, by rw [Ren.put_ne hne]; exact g2⟩
          refine go _ _ who _ rest reads _ _ ⟨h.ord, hsub', hclosed', ?_, by rw [put_size]; exact h.size, by rw [put_defers]; exact h.defers, h.sat, ha, ?_⟩
          · rw [hput]; exact (henv.mono hext).put hvr hds
          · intro t3 j u t4 he hd
            obtain ⟨hji, hdj⟩ := hnd t3 j u t4 he hd
            obtain ⟨p, hp', hl⟩ := h.late t3 j u t4 he hdj
            refine ⟨p, hp', ?_⟩
            cases hl with
            | still h => exact .still h
            | read h hk hm => exact .read h hk hm
            | make Hy ob2 h2 hk2 hw2 hn2 hg2 hp2 =>
              have hne : Hy.next ≠ Hx.next := fun hc => hji (by rw [← hw2, ← hw, hc])
              exact .make Hy ob2 h2 hk2 hw2 hn2 hg2 (by rw [Ren.put_ne hne]; exact hp2)
      · -- the head acts
        have hio : i ∈ ord := drawOk_mem hD (by simpa using hilt)
        rw [h.ord] at hio
        have hir : i ∈ rest := (List.mem_append.1 hio).resolve_left hin
        rcases hhead with rfl | ⟨hd, r, rfl, hact⟩
        · cases hir
        · have hhi : hd = i := by
            rcases List.mem_cons.1 hir with h1 | h1
            · exact h1.symm
            · exfalso
              have hoo2 := hD2.2
              rw [h.ord] at hoo2
              obtain ⟨h2, _, h3⟩ := ordOk_split hoo2
              rcases h2 i h1 with h4 | ⟨h4, _⟩
              · exact (h3 hd (h.sub hd (hbef hd h4))).2 rfl
              · rw [hact] at h4; cases h4
          subst hhi
          have hkind : kindOf o = .act := by
            unfold isAct at hact
            rw [ho] at hact
            simp only at hact
            cases hk : kindOf o <;> simp [hk] at hact ⊢
          have hsame : mOf P call ops.toList (envT ops.toList (fun i => listed.getD i false) e₀ tr) o = mOf P call ops.toList (envT ops.toList (fun _ => true) e₀ tr) o :=
            mOf_congr fun t ht => by
              have := env_names (t1 := tr) (t2 := []) (more := r) (e₀ := e₀) hD2.2 ho (by rw [h.ord]; simp) hmem hbef (fun p hp => by simp at hp) ht
              simpa using this
          have hsat := h.sat
          unfold evalDraw at hsat
          rw [ho] at hsat
          simp only [hkind] at hsat
          have hb := Out.Sat.of_bind (o := mOf P call ops.toList (envT ops.toList (fun _ => true) e₀ tr) o k H) hsat
          rw [← hsame] at hb
          have hds := dstOk_spec hoo.2 h.size
          refine wpOp_ok h.after.sim hcall h.env hoA hoo.1 hb ?_ ?_
          · intro v H' v' w' π' hq hvr ha
            have hput : envT ops.toList (fun j => (listed.setIfInBounds hd true).getD j false) e₀ (tr ++ [(hd, v)]) = upd (envT ops.toList (fun i => listed.getD i false) e₀ tr) o.dst v := by
              have := env_put (D' := fun j => (listed.setIfInBounds hd true).getD j false) (D := fun i => listed.getD i false) (t1 := tr) (t2 := []) (more := r) (e₀ := e₀) (v := v) hD2.2 ho (by rw [h.ord]; simp) hmem hD' hDi' (fun p hp => by simp at hp)
              simpa using this
            obtain ⟨hq1, hq2⟩ : (∀ x ∈ reads.filter (fun x => !ahead (befs ops.toList) x.1 hd), sameR (x.2.1 k H') x.2.2 = true) ∧
                (evalDraw P call keep ops.toList (befs ops.toList) r (upd (envT ops.toList (fun _ => true) e₀ tr) o.dst v) (reads.filter (fun x => !ahead (befs ops.toList) x.1 hd)) k H').Sat Q E := by
              generalize hfl : reads.filter (fun x => !ahead (befs ops.toList) x.1 hd) = fl at hq
              cases fl with
              | nil => exact ⟨fun x hx => by simp at hx, hq⟩
              | cons x l => exact chks_sat (f := fun (x : Read) => x.2) (l := x :: l) hq
            refine go _ _ who (tr ++ [(hd, v)]) r (reads.filter (fun x => !ahead (befs ops.toList) x.1 hd)) π' H' ⟨by rw [h.ord]; simp, ?_, hclosed', ?_, by rw [put_size]; exact h.size, by rw [put_defers]; exact h.defers, ?_, h.after.trans ha, ?_⟩
            · intro j hj
              by_cases hji : j = hd
              · subst hji; simp
              · rw [hD' j hji] at hj
                rw [List.map_append, List.mem_append]; exact .inl (h.sub j hj)
            · rw [hput]; exact (h.env.mono ha.ext).put hvr hds
            · rw [envT_append]
              simp only [envT, cond_true, dstAt_of ho]
              exact hq2
            · refine late_snoc (ops := ops.toList) (X := fun t1 j u => ∃ o, ops.toList[j]? = some o ∧ Late P call k ops.toList who H₀.next (reads.filter (fun x => !ahead (befs ops.toList) x.1 hd)) π' H' j o (envT ops.toList (fun _ => true) e₀ t1) u) ?_ ?_
              · intro t3 j u t4 he hd'
                have hji : j ≠ hd := fun hc => by subst hc; rw [hDi'] at hd'; cases hd'
                rw [hD' j hji] at hd'
                obtain ⟨p, hp, hl⟩ := h.late t3 j u t4 he hd'
                refine ⟨p, hp, ?_⟩
                cases hl with
                | still h => exact .still h
                | read h2 hk hm =>
                  have hmf : (j, mOf P call ops.toList (envT ops.toList (fun _ => true) e₀ t3) p, u) ∈ reads.filter (fun x => !ahead (befs ops.toList) x.1 hd) := by
                    refine List.mem_filter.2 ⟨hm, ?_⟩
                    cases hx : ahead (befs ops.toList) j hd with
                    | false => rfl
                    | true => rw [hbef j hx] at hd'; cases hd'
                  refine .read ?_ hk hmf
                  obtain ⟨H2, hh2⟩ := sameR_sound (hq1 _ hmf)
                  simp only at hh2
                  rcases (reads_mOf (P := P) (call := call) (ops := ops.toList) (e := envT ops.toList (fun _ => true) e₀ t3) hk).same k H' with ⟨v3, h3⟩ | h3
                  · rw [h3] at hh2 ⊢; cases hh2; rfl
                  · rw [h3] at hh2; cases hh2
                | make Hx ob h2 hk hw hn hg hp2 =>
                  obtain ⟨g1, g2⟩ := ha.unb _ _ hg hp2
                  exact .make Hx ob h2 hk hw hn g1 g2
              · intro hx; rw [hDi'] at hx; cases hx
          · intro v H' v' w' π' hq hvr ha
            exact ⟨v, H', v', π', hq, rfl, hvr, h.after.trans ha, h.defers⟩
end
end Go.Am
