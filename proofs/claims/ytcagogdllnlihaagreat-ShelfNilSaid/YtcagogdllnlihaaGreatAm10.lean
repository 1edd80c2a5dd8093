/- What each operation of the model does to a world, an abstract heap does too: going through maps. -/
import Derived.Test.YtcagogdllnlihaaGreatAm9
set_option linter.all false
namespace Go.Am

section
variable {P : Program} {π : Ren} {H : Heap} {w : World}

theorem EsRel.filter {a b : List MapEntry} (h : EsRel π a b) (p : MapEntry → Bool) (hp : ∀ e e', e.born = e'.born → p e = p e') : EsRel π (a.filter p) (b.filter p) := by
  induction h with
  | nil => exact .nil
  | cons e e' es es' he _ ih =>
    simp only [List.filter_cons, hp e e' he.born]
    split
    · exact .cons _ _ _ _ he ih
    · exact ih
theorem EsRel.all {a b : List MapEntry} (h : EsRel π a b) (p : MapEntry → Bool) (hp : ∀ e e', e.born = e'.born → p e = p e') : a.all p = b.all p := by
  induction h with
  | nil => rfl
  | cons e e' es es' he _ ih => simp [hp e e' he.born, ih]
theorem EsRel.isEmpty {a b : List MapEntry} (h : EsRel π a b) : a.isEmpty = b.isEmpty := by cases h <;> rfl
theorem EsRel.find {a b : List MapEntry} (h : EsRel π a b) (p : MapEntry → Bool) (hp : ∀ e e', e.born = e'.born → p e = p e') : ∀ e, a.find? p = some e → ∃ e', b.find? p = some e' ∧ ERel π e e' := by
  induction h with
  | nil => intro e h; simp at h
  | cons x x' es es' he _ ih =>
    intro e hf
    simp only [List.find?_cons, ← hp x x' he.born] at hf ⊢
    split at hf
    · obtain rfl := Option.some.inj hf; exact ⟨x', rfl, he⟩
    · exact ih e hf

variable (hs : Sim π H w) {k : Nat}
include hs

theorem gives_mrange {t kt e : TypeId} {m m' : Value} (hM : VRel π m m') (hu : P.underlying t = some (.map kt e)) : Gives π H w (mrange m k H) ((Instr.range t m').run P w) := by
  unfold mrange
  split
  · cases hM
    have h := hs.push (.iter none 0 #[] 0) (.mapIter none 0 #[] 0) ⟨w.heap.size, 0, 0⟩ rfl rfl ⟨heap_new, rfl⟩
    refine Gives.of (v' := .pointer (some ⟨w.heap.size, 0, none⟩)) rfl ?_ ?_ h
    · simp [Instr.range, run_underlying hu]
    · exact .ptrN H.next 0 _ (Ren.put_self _ _ _)
  · split
    · rename_i es c hg
      cases hM with
      | mapN i l hl =>
        obtain ⟨es', h1, h2⟩ := map_get hs hg hl
        have h := hs.push (.iter (some _) c #[] c) (.mapIter (some l.blk) c #[] c) ⟨w.heap.size, 0, 0⟩ rfl rfl ⟨⟨l, ext_new hs _ _ _ hl, heap_new⟩, rfl⟩
        refine Gives.of (v' := .pointer (some ⟨w.heap.size, 0, none⟩)) rfl ?_ ?_ h
        · simp [Instr.range, run_underlying hu, run_getMap h1]
        · exact .ptrN H.next 0 _ (Ren.put_self _ _ _)
    · exact Gives.no rfl
  · exact Gives.no rfl

omit hs in
theorem run_getIter {b : Nat} {m : Option Nat} {s c : Nat} {n : Array Nat} (h : w.heap[b]? = some (.mapIter m s n c)) : (getObj b).run P w = .ok (.mapIter m s n c) w := by
  simp [getObj, Sem.run, h]
omit hs in
theorem run_setIter {b : Nat} {m : Option Nat} {s c : Nat} {n : Array Nat} {o : Obj} (h : w.heap[b]? = some (.mapIter m s n c)) : (setObj b o).run P w = .ok () { w with heap := w.heap.setIfInBounds b o } := by
  simp [setObj, Sem.run, h]

theorem iter_get {i : Nat} {l : Loc} {m s c : Nat} {n : Array Nat} (hg : H.get i = some (.iter (some m) s n c)) (hl : π i = some l) : (∃ lm, π m = some lm ∧ w.heap[l.blk]? = some (.mapIter (some lm.blk) s n c)) ∧ l.sh = 0 := by
  exact (hs.obs i _ l hg rfl hl).2
theorem iter_get0 {i : Nat} {l : Loc} {s c : Nat} {n : Array Nat} (hg : H.get i = some (.iter none s n c)) (hl : π i = some l) : w.heap[l.blk]? = some (.mapIter none s n c) ∧ l.sh = 0 := by
  exact (hs.obs i _ l hg rfl hl).2

theorem gives_mentry {it it' : Value} (hI : VRel π it it') : Gives π H w (mentry it k H) ((Instr.entry it').run P w) := by
  unfold mentry
  split
  · rename_i r
    cases hI with
    | ptrN _ _ l hl =>
      split
      · rename_i m s n c hg
        obtain ⟨⟨lm, hlm, hb⟩, hsh⟩ := iter_get hs hg hl
        cases hn : n.back? with
        | none => exact Gives.no rfl
        | some stamp =>
          cases hgm : H.get m with
          | none => exact Gives.no rfl
          | some o =>
            cases o with
            | map es clock =>
              simp only
              obtain ⟨es', h1, h2⟩ := map_get hs hgm hlm
              by_cases hc : clock = c
              · simp only [hc, decide_true, cond_true]
                cases hf : es.find? (fun e => e.born == stamp) with
                | none => exact Gives.no rfl
                | some e =>
                  obtain ⟨e', hf', he⟩ := h2.find (fun e => e.born == stamp) (fun a b h => by rw [h]) e hf
                  have hf2 : es'.find? (fun e => e.born == stamp) = some e' := by rw [← Array.find?_toList]; exact hf'
                  refine Gives.same hs rfl (v' := .tuple #[e'.key, e'.val]) ?_ ?_
                  · simp only [Instr.entry, hsh, Nat.zero_add, Sem.run_bind, run_getIter hb, Result.andThen_ok, hn, run_getMap h1, hc, bne_self_eq_false, Bool.false_eq_true, if_false, hf2, Sem.run_pure]
                  · refine .tuple [e.key, e.val] [e'.key, e'.val] (.cons _ _ _ _ ?_ (.cons _ _ _ _ he.val .nil))
                    rw [← he.key]
                    obtain ⟨kk, n, hkn⟩ := he.ik
                    rw [hkn]; exact .int _ _
              · simp only [hc, decide_false, cond_false]; exact Gives.no rfl
            | _ => exact Gives.no rfl
      · exact Gives.no rfl
  · exact Gives.no rfl

theorem iter_set {i : Nat} {l : Loc} {m s c s2 c2 : Nat} {n n2 : Array Nat} {lm : Loc} (hg : H.get i = some (.iter (some m) s n c)) (hl : π i = some l) (hsh : l.sh = 0) (hlm : π m = some lm) :
    After π H w π (H.set i (.iter (some m) s2 n2 c2)) { w with heap := w.heap.setIfInBounds l.blk (.mapIter (some lm.blk) s2 n2 c2) } := by
  have hb := hs.blk_lt hg rfl hl
  refine hs.set hg rfl rfl hl (by simp) (fun b hne => ?_) ⟨⟨lm, hlm, ?_⟩, hsh⟩
  · rw [set_heap hb, if_neg hne]
  · rw [set_heap hb, if_pos rfl]

omit hs in
theorem ne_mapnext {n : Nat} (h : 0 < n) {v : World} : ∃ i v', i < n ∧ v'.heap = v.heap ∧ (choose (.mapNext n)).run P v = .ok i v' ∧ v'.os = v.os ∧ v'.output = v.output := by
  rw [run_choose]
  split
  · exact ⟨0, v, h, rfl, rfl, rfl, rfl⟩
  · exact ⟨_, v.drew, Nat.mod_lt _ h, rfl, rfl, rfl, rfl⟩

theorem gives_mnext {it it' : Value} (hI : VRel π it it') (ty : TypeId) : Gives π H w (mnext it k H) ((Instr.next it' false ty).run P w) := by
  unfold mnext
  split
  · rename_i r
    cases hI with
    | ptrN _ _ l hl =>
      split
      · rename_i s n c hg
        obtain ⟨hb, hsh⟩ := iter_get0 hs hg hl
        refine Gives.same hs rfl (v' := .tuple #[.bool false]) ?_ (.tuple [.bool false] [.bool false] (.cons _ _ _ _ (.bool _) .nil))
        simp [Instr.next, hsh, run_getIter hb]
      · rename_i m since seen last hg
        obtain ⟨⟨lm, hlm, hb⟩, hsh⟩ := iter_get hs hg hl
        cases hgm : H.get m with
        | none => exact Gives.no rfl
        | some o =>
          cases o with
          | map es clock =>
            simp only
            obtain ⟨es', h1, h2⟩ := map_get hs hgm hlm
            have hemp : es'.isEmpty = es.isEmpty := by rw [h2.isEmpty]; simp [Array.isEmpty, List.isEmpty_iff, Bool.eq_iff_iff]
            have hall : es'.all (fun e => decide (e.born ≥ last)) = es.all (fun e => decide (e.born ≥ last)) := by
              rw [h2.all (fun e => decide (e.born ≥ last)) (fun a b h => by rw [h]), Array.all_toList]
            cases hcond : (!seen.isEmpty && !es.isEmpty && es.all (fun e => decide (e.born ≥ last))) with
            | true => exact Gives.no rfl
            | false =>
              simp only [cond_false]
              have hcond' : ¬ (!seen.isEmpty && !es'.isEmpty && es'.all (fun e => decide (e.born ≥ last))) = true := by rw [hemp, hall, hcond]; simp
              have hleft := h2.filter (fun e => !seen.contains e.born) (fun a b h => by rw [h])
              have hold := hleft.filter (fun e => decide (e.born < since)) (fun a b h => by rw [h])
              have hneu := hleft.filter (fun e => decide (e.born ≥ since)) (fun a b h => by rw [h])
              have happ := hold.append hneu
              generalize hO : (es.filter (fun e => !seen.contains e.born)).filter (fun e => decide (e.born < since)) = O at hold happ ⊢
              generalize hN : (es.filter (fun e => !seen.contains e.born)).filter (fun e => decide (e.born ≥ since)) = N at hneu happ ⊢
              let left' := es'.filter fun e => !seen.contains e.born
              let old' := left'.filter (·.born < since)
              let new' := left'.filter (·.born ≥ since)
              have eo : old'.toList = (es'.toList.filter (fun e => !seen.contains e.born)).filter (fun e => decide (e.born < since)) := by simp [old', left']
              have en : new'.toList = (es'.toList.filter (fun e => !seen.contains e.born)).filter (fun e => decide (e.born ≥ since)) := by simp [new', left']
              rw [← eo, ← en] at happ
              rw [← eo] at hold
              let cands' := (if old'.isEmpty then #[none] else #[]) ++ (old' ++ new').map some
              have hisE : old'.isEmpty = O.isEmpty := by rw [hold.isEmpty]; simp [Array.isEmpty, List.isEmpty_iff, Bool.eq_iff_iff]
              have hcl : cands'.toList = (if O.isEmpty then [none] else []) ++ (old'.toList ++ new'.toList).map some := by
                simp only [cands', hisE]
                split <;> simp
              have hlen : cands'.size = ((if O.isEmpty then [none] else []) ++ (O ++ N).map some : List (Option MapEntry)).length := by
                rw [← Array.length_toList, hcl]
                have := happ.length
                simp only [List.length_append, List.length_map] at this ⊢
                omega
              intro Q E hsat
              simp only [Out.Sat] at hsat
              have hpos : 0 < cands'.size := by
                rw [hlen]
                cases O with
                | nil => simp
                | cons => simp
              obtain ⟨i, v', hi, hv', hrun, hvo, hvt⟩ := ne_mapnext (P := P) hpos (v := w)
              have hsi := hsat.2 i (by rw [← hlen]; exact hi)
              have hs' := hs.heap_eq hv' hvo hvt
              have hb' : v'.heap[l.blk]? = some (.mapIter (some lm.blk) since seen last) := by rw [hv']; exact hb
              have hstep : (Instr.next (.pointer (some ⟨l.blk, l.sh + 0, none⟩)) false ty).run P w = (match cands'[i]? with
                  | some (some e) => (do setObj l.blk (.mapIter (some lm.blk) since (seen.push e.born) clock); pure (.tuple #[.bool true, e.key, e.val]) : Sem Value)
                  | some none => pure (.tuple #[.bool false])
                  | none => stuck "Next: no such candidate").run P v' := by
                simp only [Instr.next, hsh, Nat.zero_add, Sem.run_bind, run_getIter hb, Result.andThen_ok, run_getMap h1, hcond', if_false]
                rw [if_neg (by simp), Sem.run_bind]
                show ((choose (.mapNext cands'.size)).run P w).andThen _ = _
                rw [hrun]
                rfl
              have hci : cands'[i]? = ((if O.isEmpty then [none] else []) ++ (old'.toList ++ new'.toList).map some : List (Option MapEntry))[i]? := by rw [← hcl, Array.getElem?_toList]
              cases hq : ((if O.isEmpty then [none] else []) ++ (O ++ N).map some : List (Option MapEntry))[i]? with
              | none => rw [hq] at hsi; exact hsi.elim
              | some oe =>
                rw [hq] at hsi
                have hrel : ∃ oe', cands'[i]? = some oe' ∧ (match oe, oe' with
                    | none, none => True
                    | some e, some e' => ERel π e e'
                    | _, _ => False) := by
                  rw [hci]
                  by_cases hlt : i < (if O.isEmpty then [none] else [] : List (Option MapEntry)).length
                  · rw [List.getElem?_append_left hlt] at hq ⊢
                    refine ⟨oe, hq, ?_⟩
                    have : oe = none := by
                      split at hq
                      · have := List.mem_of_getElem? hq; simpa using this
                      · simp at hq
                    subst this; trivial
                  · rw [List.getElem?_append_right (by omega), List.getElem?_map] at hq ⊢
                    cases hx : (O ++ N)[i - (if O.isEmpty then [none] else [] : List (Option MapEntry)).length]? with
                    | none => rw [hx] at hq; simp at hq
                    | some e =>
                      rw [hx] at hq
                      simp only [Option.map_some, Option.some.injEq] at hq
                      subst hq
                      obtain ⟨e', he1, he2⟩ := happ.get _ _ hx
                      exact ⟨some e', by rw [he1]; rfl, he2⟩
                obtain ⟨oe', hc1, hc2⟩ := hrel
                rw [hc1] at hstep
                cases oe with
                | none =>
                  cases oe' with
                  | some => exact hc2.elim
                  | none =>
                    refine ⟨_, H, .tuple #[.bool false], v', π, hsi, by rw [hstep]; rfl, .tuple [.bool false] [.bool false] (.cons _ _ _ _ (.bool _) .nil), (After.refl hs).heap_eq hv' hvo hvt⟩
                | some e =>
                  cases oe' with
                  | none => exact hc2.elim
                  | some e' =>
                    have haft := iter_set hs' hg hl hsh hlm (s2 := since) (c2 := clock) (n2 := seen.push e.born)
                    refine ⟨_, _, .tuple #[.bool true, e'.key, e'.val], _, π, hsi, ?_, ?_, haft.heap_eq' hv'.symm⟩
                    · rw [hstep]
                      simp only [Sem.run_bind, run_setIter hb', Result.andThen_ok, Sem.run_pure, hc2.born]
                    · refine .tuple [.bool true, e.key, e.val] [.bool true, e'.key, e'.val] (.cons _ _ _ _ (.bool _) (.cons _ _ _ _ ?_ (.cons _ _ _ _ hc2.val .nil)))
                      rw [← hc2.key]
                      obtain ⟨kk, n, hkn⟩ := hc2.ik
                      rw [hkn]; exact .int _ _
          | _ => exact Gives.no rfl
      · exact Gives.no rfl
  · exact Gives.no rfl
end
end Go.Am
