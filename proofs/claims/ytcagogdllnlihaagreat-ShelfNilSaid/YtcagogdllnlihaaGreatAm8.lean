/- What each operation of the model does to a world, an abstract heap does too: append, copy, clear, len. -/
import Derived.Test.YtcagogdllnlihaaGreatAm7
import Derived.Deep.AppendSrc
set_option linter.all false
namespace Go.Am

theorem growBy_le (newLen : Nat) (h : 256 ≤ newLen) : ∀ (r c : Nat), c ≤ 2 * newLen → Builtin.growBy newLen r c ≤ 2 * newLen
  | 0, c, hc => hc
  | r + 1, c, hc => by
    unfold Builtin.growBy
    split
    · exact hc
    · exact growBy_le newLen h r _ (by omega)
theorem nextcap_le (need cap : Nat) (h : cap < need) : Builtin.nextslicecap need cap ≤ 2 * need := by
  unfold Builtin.nextslicecap
  split
  · omega
  · split
    · omega
    · exact growBy_le need (by omega) 4 cap (by omega)

/-- a thing goes, and another one takes its block -/
theorem Sim.take {π : Ren} {H : Heap} {w w' : World} (h : Sim π H w) {i : Nat} {o o' : Ob} {l l' : Loc} (hi : H.get i = some o) (ha : alive o = true) (hl : π i = some l) (hb : l'.blk = l.blk)
    (hs : w'.heap.size = w.heap.size) (hk : ∀ b, b ≠ l.blk → w'.heap[b]? = w.heap[b]?) (hc : OChk (Ren.put π H.next l') l' w' o') (ha' : alive o' = true := by rfl) (eo : w'.os = w.os := by rfl) (et : w'.output = w.output := by rfl) :
    After π H w (Ren.put π H.next l') ((H.set i .gone).push o') w' := by
  have hn : π H.next = none := by
    cases hp : π H.next with
    | none => rfl
    | some m => exact absurd (h.dom _ _ hp) (Nat.lt_irrefl _)
  have e := Ren.ext_put (l := l') hn
  have hlo : H.base.heap.size ≤ l.blk := (h.obs i o l hi ha hl).1
  -- what is there: the new one, or an elder one that is not i
  have hget : ∀ j u, ((H.set i .gone).push o').get j = some u → alive u = true → (j = H.next ∧ u = o') ∨ (j ≠ H.next ∧ j ≠ i ∧ H.get j = some u) := by
    intro j u hj hu
    rw [Heap.get_push] at hj
    split at hj
    · rename_i e; exact .inl ⟨e.symm, (Option.some.inj hj).symm⟩
    · rename_i e
      rw [Heap.get_set] at hj
      split at hj
      · obtain rfl := Option.some.inj hj; simp [alive] at hu
      · rename_i e2; exact .inr ⟨Ne.symm e, Ne.symm e2, hj⟩
  have hother : ∀ j u m, j ≠ i → H.get j = some u → alive u = true → π j = some m → m.blk ≠ l.blk := fun j u m hj hu hau hm he => hj (h.inj j i u o m l hu hau hi ha hm hl he)
  have hgh : ∀ j g, ((H.set i .gone).push o').get j = some (.ghost g) → H.get j = some (.ghost g) := fun j g hj => by
    rw [Heap.get_push] at hj
    split at hj
    · obtain rfl := Option.some.inj hj; cases ha'
    · rw [Heap.get_set] at hj
      split at hj
      · cases hj
      · exact hj
  have hown : ∀ b, OwnO ((H.set i .gone).push o').get (Ren.put π H.next l') b → OwnO H.get π b ∨ w.heap.size ≤ b := by
    rintro b ⟨j, u, m, h1, h2, h3, h4⟩
    rcases hget j u h1 h2 with ⟨rfl, rfl⟩ | ⟨g1, g2, g3⟩
    · rw [Ren.put_self] at h3
      obtain rfl := Option.some.inj h3
      exact .inl ⟨i, o, l, hi, ha, hl, by rw [← h4, hb]⟩
    · rw [Ren.put_ne g1] at h3
      exact .inl ⟨j, u, m, g3, h2, h3, h4⟩
  refine ⟨e, ⟨?_, ?_, ?_, ?_, ?_, ?_, fun b c t r hb2 hw => ?cold, eo.trans h.os, et.trans h.out,
    h.gh.step e rfl rfl (by omega) hgh (fun b hb2 => hk b fun he => h.gh.not (.inl ⟨i, o, l, hi, ha, hl, he.symm⟩) hb2) hown⟩, rfl, Nat.le_succ _, by omega, ?_, own_of rfl hgh hown, ?_⟩
  case cold =>
    by_cases he : b = l'.blk
    · subst he; exact hc.cold ha' c t r hw
    · rw [hk b (by rw [hb] at he; exact he)] at hw; exact h.cold b c t r hb2 hw
  · intro b hb2; rw [hk b (by have : b < H.base.heap.size := hb2; omega)]; exact h.base b hb2
  · have := h.grow; simp only [Heap.base_push, Heap.base_set]; omega
  · intro j u m hj hu hm
    rcases hget j u hj hu with ⟨rfl, rfl⟩ | ⟨h1, h2, h3⟩
    · rw [Ren.put_self] at hm
      obtain rfl := Option.some.inj hm
      exact ⟨by rw [hb]; exact hlo, hc⟩
    · rw [Ren.put_ne h1] at hm
      obtain ⟨g2, g3⟩ := h.obs j u m h3 hu hm
      exact ⟨g2, g3.keep e (hk _ (hother j u m h2 h3 hu hm))⟩
  · intro a b u v la lb hu hau hv hav hla hlb hbl
    rcases hget a u hu hau with ⟨rfl, rfl⟩ | ⟨h1, h2, h3⟩ <;> rcases hget b v hv hav with ⟨rfl, rfl⟩ | ⟨g1, g2, g3⟩
    · rfl
    · rw [Ren.put_self] at hla
      obtain rfl := Option.some.inj hla
      rw [Ren.put_ne g1] at hlb
      exact absurd (by rw [← hbl, hb]) (hother b v lb g2 g3 hav hlb)
    · rw [Ren.put_self] at hlb
      obtain rfl := Option.some.inj hlb
      rw [Ren.put_ne h1] at hla
      exact absurd (by rw [hbl, hb]) (hother a u la h2 h3 hau hla)
    · rw [Ren.put_ne h1] at hla
      rw [Ren.put_ne g1] at hlb
      exact h.inj a b u v la lb h3 hau g3 hav hla hlb hbl
  · intro j u hj
    rw [Heap.get_push] at hj
    simp only [Heap.next_push, Heap.next_set]
    split at hj
    · rename_i e; have : H.next = j := e; omega
    · rw [Heap.get_set] at hj
      split at hj
      · rename_i e; have := h.fresh _ _ hi; omega
      · exact Nat.lt_succ_of_lt (h.fresh j u hj)
  · intro j m hj
    simp only [Heap.next_push, Heap.next_set]
    by_cases he : j = H.next
    · omega
    · rw [Ren.put_ne he] at hj; exact Nat.lt_succ_of_lt (h.dom j m hj)
  · intro b _ hn
    exact hk b fun e => hn (.inl ⟨i, o, l, hi, ha, hl, e.symm⟩)
  · intro j u hj hp
    have hne : i ≠ j := fun he => by subst he; rw [hl] at hp; cases hp
    have hn2 : j ≠ H.next := fun he => by have := h.fresh j u hj; omega
    refine ⟨?_, by rw [Ren.put_ne hn2]; exact hp⟩
    rw [Heap.get_push, if_neg (by exact Ne.symm hn2), Heap.get_set, if_neg hne]; exact hj

/-- a thing goes -/
theorem Sim.gone {π : Ren} {H : Heap} {w : World} (h : Sim π H w) {i : Nat} {o : Ob} {l : Loc} (hi : H.get i = some o) (hl : π i = some l) : After π H w π (H.set i .gone) w := by
  have hget : ∀ j u, (H.set i .gone).get j = some u → alive u = true → H.get j = some u := by
    intro j u hj hu
    rw [Heap.get_set] at hj
    split at hj
    · obtain rfl := Option.some.inj hj; simp [alive] at hu
    · exact hj
  have hgh : ∀ j g, (H.set i .gone).get j = some (.ghost g) → H.get j = some (.ghost g) := fun j g hj => by
    rw [Heap.get_set] at hj
    split at hj
    · cases hj
    · exact hj
  have hown : ∀ b, OwnO (H.set i .gone).get π b → OwnO H.get π b ∨ w.heap.size ≤ b := by
    rintro b ⟨j, u, m, h1, h2, h3, h4⟩
    exact .inl ⟨j, u, m, hget j u h1 h2, h2, h3, h4⟩
  refine ⟨Ext.refl _, ⟨h.base, h.grow, fun j u m hj hu hm => h.obs j u m (hget j u hj hu) hu hm, fun a b u v la lb hu hau hv hav => h.inj a b u v la lb (hget a u hu hau) hau (hget b v hv hav) hav, ?_, h.dom, h.cold, h.os, h.out,
    h.gh.step (Ext.refl _) rfl rfl (Nat.le_refl _) hgh (fun _ _ => rfl) hown⟩, rfl, Nat.le_refl _, Nat.le_refl _, fun _ _ _ => rfl, own_of rfl hgh hown, ?_⟩
  · intro j u hj
    rw [Heap.get_set] at hj
    split at hj
    · rename_i e; subst e; exact h.fresh _ _ hi
    · exact h.fresh j u hj
  · intro j u hj hp
    have hne : i ≠ j := fun he => by subst he; rw [hl] at hp; cases hp
    exact ⟨by rw [Heap.get_set, if_neg hne]; exact hj, hp⟩

section
variable {P : Program} {π : Ren} {H : Heap} {w : World} (hs : Sim π H w) {k : Nat}

theorem run_lenOf {x x' : Value} {n : Nat} (hx : VRel π x x') (h : lenV x = some n) : (Builtin.lenOf x').run P w = .ok n w := by
  unfold lenV at h
  split at h <;> first
    | (cases h; done)
    | skip
  · cases hx; obtain rfl := Option.some.inj h; rfl
  · obtain rfl := Option.some.inj h
    cases hx <;> rfl
  · cases hx; obtain rfl := Option.some.inj h; rfl

theorem extract_take (s : ByteArray) (n : Nat) : (s.extract 0 n).data.toList = s.data.toList.take n := by
  simp [ByteArray.data_extract]

theorem cell?_heap {v w : World} (h : v.heap = w.heap) (a : Addr) : v.cell? a = w.cell? a := by unfold World.cell?; rw [h]
include hs
theorem run_first {x x' : Value} {size n : Nat} {l : List Value} (hx : VRel π x x') (hn : ∃ m, lenV x = some m ∧ n ≤ m) (h : H.cellsOf size n x = some l) :
    ∃ l' : List Value, VRels π l l' ∧ ∀ v : World, v.heap = w.heap → (Builtin.firstCells size n x').run P v = .ok l'.toArray v := by
  obtain ⟨m, hm, hnm⟩ := hn
  unfold lenV at hm
  split at hm <;> first
    | (cases hm; done)
    | skip
  · cases hx
    simp only [Heap.cellsOf, Option.some.injEq] at h
    subst h
    exact ⟨[], .nil, fun v _ => by simp [Builtin.firstCells]⟩
  · obtain rfl := Option.some.inj hm
    rename_i a len tag
    simp only [Heap.cellsOf] at h
    cases hx with
    | slcB b o _ cap =>
      obtain ⟨h1, l', h2, h3⟩ := hs.cells (.base b o) h
      refine ⟨l', h2, fun v hv => ?_⟩
      have := run_loadCells_list (P := P) v ⟨b, o, none⟩ l' (fun j u hj => by rw [cell?_heap hv]; exact h3 j u hj)
      rw [← h2.length, h1] at this
      simpa [Builtin.firstCells] using this
    | slcN i off _ _ cap' lc hlc ht =>
      obtain ⟨h1, l', h2, h3⟩ := hs.cells (.new i off lc hlc) h
      refine ⟨l', h2, fun v hv => ?_⟩
      have := run_loadCells_list (P := P) v ⟨lc.blk, lc.sh + off, none⟩ l' (fun j u hj => by rw [cell?_heap hv]; exact h3 j u hj)
      rw [← h2.length, h1] at this
      simpa [Builtin.firstCells] using this
    | slcE i off _ b o lc hlc =>
      obtain rfl : n = 0 := by omega
      have hl0 : l = [] := by
        simp only [Heap.cellsAt, Nat.zero_mul, List.take_zero] at h
        split at h
        · rename_i c _
          cases hble : Nat.ble (off + 0) c.length with
          | false => rw [hble] at h; cases h
          | true => rw [hble] at h; exact (Option.some.inj h).symm
        · cases h
      subst hl0
      exact ⟨[], .nil, fun v _ => by simp [Builtin.firstCells, loadCells, loadCellsFrom]⟩
  · rename_i s
    cases hx
    simp only [Heap.cellsOf, Option.some.injEq] at h
    subst h
    refine ⟨_, VRels.map (g := fun b => Value.int .u8 b.toNat) _ fun b _ => .int _ _, fun v _ => ?_⟩
    simp only [Builtin.firstCells, Sem.run_pure]
    congr 1
    apply Array.ext'
    rw [Array.toList_map, extract_take]

omit hs in
theorem run_lenOf' {x x' : Value} {n : Nat} {v : World} (hx : VRel π x x') (h : lenV x = some n) : (Builtin.lenOf x').run P v = .ok n v := run_lenOf hx h
theorem src_of {xT : TypeId} {x x' : Value} {size n : Nat} {more : List Value} (hx : VRel π x x') (hn : lenV x = some n) (hk : (∃ e', P.underlying xT = some (.slice e')) ∨ P.underlying xT = some .string) (h : H.cellsOf size n x = some more) (hsc : more.all scalar = true)
    (h1 : more.length = n * size) : ∃ more' : List Value, VRels π more more' ∧ Src P size xT x' n more' w := by
  obtain ⟨l1, r1, c1⟩ := run_first (P := P) hs hx ⟨n, hn, Nat.le_refl _⟩ h
  exact ⟨l1, r1, hk, fun v => run_lenOf hx hn, c1 w rfl, c1 w.drew rfl, by rw [← r1.length]; exact h1, oneCells_of r1 hsc⟩

omit hs in
theorem lenV_slice {b : Option Addr} {l n tag : Nat} (h : lenV (.slice b l tag) = some n) : n = l := by
  cases b with
  | none =>
    cases l with
    | zero => cases tag with
      | zero => exact (Option.some.inj h).symm
      | succ => cases h
    | succ => cases h
  | some a => exact (Option.some.inj h).symm
omit hs in
theorem lenV_nil {l n tag : Nat} (h : lenV (.slice none l tag) = some n) : l = 0 ∧ tag = 0 := by
  cases l with
  | zero => cases tag with
    | zero => exact ⟨rfl, rfl⟩
    | succ => cases h
  | succ => cases h
omit hs in
theorem run_first0 {x x' : Value} {size n : Nat} {v : World} (hx : VRel π x x') (h : lenV x = some n) : (Builtin.firstCells size 0 x').run P v = .ok #[] v := by
  cases x <;> first
    | (cases h; done)
    | skip
  · cases hx
    simp only [Builtin.firstCells, Sem.run_pure]
    congr 1
    apply Array.ext'
    rw [Array.toList_map, extract_take]
    simp
  · cases hx <;> simp [Builtin.firstCells, loadCells, loadCellsFrom]
omit hs in
theorem run_append_zero {sT xT ty e : TypeId} {i : TypeInfo} (hu : P.underlying sT = some (.slice e)) (hk : (∃ e', P.underlying xT = some (.slice e')) ∨ P.underlying xT = some .string) (hi : P.info? e = some i) {base : Option Addr} {l cap : Nat} {x' : Value}
    (hl : (Builtin.lenOf x').run P w = .ok 0 w) (hf : (Builtin.firstCells i.size 0 x').run P w = .ok #[] w) (hc : l ≤ cap) : (Builtin.append_ #[sT, xT] ty #[.slice base l cap, x']).run P w = .ok (.slice base l cap) w := by
  rcases hk with ⟨e', hk⟩ | hk <;> cases base <;> simp [Builtin.append_, run_underlying hu, run_underlying hk, sizeOf, typeInfo, hi, hl, hc, hf, storeCells]
omit hs in
theorem run_append_in {sT xT ty e : TypeId} {i : TypeInfo} (hu : P.underlying sT = some (.slice e)) (hi : P.info? e = some i) {bk off l cap n : Nat} {x' : Value} {more : List Value} {w' : World}
    (hs : Src P i.size xT x' n more w) (hst : (storeCells ⟨bk, off + l * i.size, none⟩ more).run P w = .ok () w') (hc : l + n ≤ cap) :
    (Builtin.append_ #[sT, xT] ty #[.slice (some ⟨bk, off, none⟩) l cap, x']).run P w = .ok (.slice (some ⟨bk, off, none⟩) (l + n) cap) w' := by
  have hadd : (⟨bk, off, none⟩ : Addr).add (l * i.size) = ⟨bk, off + l * i.size, none⟩ := by unfold Addr.add; split <;> simp_all
  rcases hs.kind with ⟨e', hk⟩ | hk <;> simp [Builtin.append_, run_underlying hu, run_underlying hk, sizeOf, typeInfo, hi, hs.len, hc, hs.cells, hadd, hst]

theorem gives_app {sT xT ty e : TypeId} {size b : Nat} {z : List Value} {s x s' x' : Value} (hS : VRel π s s') (hX : VRel π x x') (hu : P.underlying sT = some (.slice e)) (hk : (∃ e', P.underlying xT = some (.slice e')) ∨ P.underlying xT = some .string)
    (hsz : tSize P e = some size) (hby : tBytes P e = some b) (hz : tZero P e = some z) (hzl : z.length = size) : Gives π H w (app e size b s x k H) ((Builtin.append_ #[sT, xT] ty #[s', x']).run P w) := by
  unfold app
  split
  · rename_i l n hl hn
    obtain ⟨i, hi, hib⟩ := run_tinfo_bytes hby
    have hisz : i.size = size := by unfold tSize at hsz; rw [hi] at hsz; exact Option.some.inj hsz
    obtain ⟨zv, hzv, hzc⟩ := tzero_cells hz
    obtain ⟨zc, hrz⟩ := tzero_spec (w := w) hzv
    have hiz : i.zero = some zv := by
      unfold tZeroV at hzv
      rw [hi] at hzv
      simp only at hzv
      split at hzv
      · rename_i q hq; cases hcq : constOk q <;> rw [hcq] at hzv <;> simp at hzv; rw [hq, hzv]
      · cases hzv
    cases hn0 : Nat.beq n 0 with
    | true =>
      obtain rfl := Nat.eq_of_beq_eq_true hn0
      simp only [cond_true]
      cases hf : fitsB s with
      | false => exact Gives.no rfl
      | true =>
        simp only [cond_true]
        have key : ∃ base cap', s' = .slice base l cap' ∧ l ≤ cap' := by
          cases s <;> first
            | (cases hl; done)
            | (cases hf; done)
            | skip
          have := lenV_slice hl
          subst this
          cases hS with
          | nilSlice => obtain ⟨rfl, rfl⟩ := lenV_nil hl; exact ⟨none, 0, rfl, Nat.le_refl _⟩
          | slcB bb oo _ cap => exact ⟨_, _, rfl, by simpa [fitsB] using hf⟩
          | slcN i off _ tag cap' lc hlc ht => exact ⟨_, _, rfl, ht.1⟩
          | slcE => exact ⟨_, _, rfl, Nat.le_refl _⟩
        obtain ⟨base, cap', rfl, hc⟩ := key
        refine Gives.same hs rfl (run_append_zero hu hk hi (run_lenOf hX hn) (run_first0 hX hn) hc) ?_
        have : VRel π s (.slice base l cap') := hS
        exact this
    | false =>
      simp only [cond_false]
      have hnpos : 0 < n := by
        rcases Nat.eq_zero_or_pos n with h | h
        · subst h; simp at hn0
        · exact h
      cases hcond : (Nat.ble ((l + n) * b) (2 ^ 47) && Nat.blt 0 b && Nat.blt 0 size) with
      | false => exact Gives.no rfl
      | true =>
        simp only [cond_true]
        simp only [Bool.and_eq_true] at hcond
        have c1 := Nat.le_of_ble_eq_true hcond.1.1
        have c2 : 0 < b := Nat.le_of_ble_eq_true hcond.1.2
        have c3 : 0 < size := Nat.le_of_ble_eq_true hcond.2
        have c4 : l + n ≤ 2 ^ 47 := Nat.le_trans (Nat.le_mul_of_pos_right _ c2) c1
        cases hold : H.cellsOf size l s with
        | none => exact Gives.no (by cases s <;> rfl)
        | some old =>
        cases hmore : H.cellsOf size n x with
        | none => exact Gives.no (by cases s <;> rfl)
        | some more =>
        cases s with
        | slice bs sl tag =>
          obtain rfl := lenV_slice hl
          simp only
          cases hc5 : (more.all scalar && (Nat.beq more.length (n * size) && Nat.beq old.length (l * size))) with
          | false => exact Gives.no rfl
          | true =>
            simp only [Bool.not_true, cond_false]
            simp only [Bool.and_eq_true] at hc5
            have m1 := Nat.eq_of_beq_eq_true hc5.2.1
            have m2 := Nat.eq_of_beq_eq_true hc5.2.2
            obtain ⟨more', r1, src⟩ := src_of (P := P) hs hX hn hk hmore hc5.1 m1
            obtain ⟨old', r2, cold⟩ := run_first (P := P) hs hS ⟨l, hl, Nat.le_refl _⟩ hold
            have r3 := r2.append r1
            have hl3 := r3.length
            -- new room
            have grow : ∀ (base : Option Addr) (cap : Nat), s' = .slice base l cap → cap < l + n → ∀ (H2 : Heap), Sim π H2 w → H2.next = H.next → (∀ bb, Owned π H2 bb → Owned π H bb) → (∀ i o, H.get i = some o → π i = none → H2.get i = some o ∧ π i = none) → H2.base = H.base →
                Gives π H w (.ok (.slice (some (new H.next 0)) (l + n) (size + 2)) (H2.push (.cells e (old ++ more)))) ((Builtin.append_ #[sT, xT] ty #[s', x']).run P w) := by
              rintro base cap rfl hcap H2 hs2 hnx how hun hba
              have hrun := run_append_grow_src (P := P) w sT xT ty e i zv hu hi hiz base l cap old' (by rw [hisz]; exact cold w.drew rfl) x' n more' (by rw [hisz]; exact src) hcap (by omega) (by
                have := growslice_fits (bytes := i.bytes) hcap (by rw [hib]; omega)
                exact this)
              have hge := grownCap_ge w (l + n) cap e
              generalize grownCap w (l + n) cap e = c at hrun hge
              have hzlen : zv.cells.size = size := by rw [← Array.length_toList, vlist_cells, ← hzc]; exact hzl
              have hzz : (Builtin.zeroCells zv.cells (c - (l + n))).toList = rep (c - (l + n)) zv.cells.toList := range_rep zv.cells size hzlen c3 _ _ (by rw [hzlen])
              have hs3 : Sim π H2 w.drew := hs2.heap_eq rfl
              obtain ⟨π', g1, g2⟩ := gives_row hs3 (e := e) (more := rep (c - (l + n)) zv.cells.toList) (len := l + n) (cap' := c) (size := size) r3 hge (by
                have hz5 : zv.cells.toList.length = size := by rw [Array.length_toList]; exact hzlen
                rw [List.length_append, rep_length, hz5, ← hl3, List.length_append, m1, m2]
                have : c * size = (l + n) * size + (c - (l + n)) * size := by rw [← Nat.add_mul]; congr 1; omega
                have : (l + n) * size = l * size + n * size := Nat.add_mul _ _ _
                omega)
              rw [hnx] at g1
              refine Gives.of rfl hrun g1 ?_
              have g3 := (g2.heap_eq' (u := w) rfl)
              have e1 : (⟨old' ++ more' ++ rep (c - (l + n)) zv.cells.toList⟩ : Array Value) = (old' ++ more').toArray ++ Builtin.zeroCells zv.cells (c - (l + n)) := by
                apply Array.ext'; simp [hzz]
              rw [e1] at g3
              exact ⟨g3.ext, g3.sim, g3.base.trans hba, by rw [← hnx]; exact g3.next, g3.size, fun bb hb hno => g3.kept bb hb fun ho => hno (how bb ho), fun bb hb => (g3.own bb hb).imp (how bb) id, fun i o hi hp => g3.unb i o (hun i o hi hp).1 hp⟩
            cases hno : noRoomB (.slice bs l tag) with
            | true =>
              simp only [cond_true]
              have key : ∃ base, s' = .slice base l 0 := by
                cases hS with
                | nilSlice => obtain ⟨rfl, rfl⟩ := lenV_nil hl; exact ⟨_, rfl⟩
                | slcB bb oo _ cap => simp [noRoomB] at hno; exact ⟨_, by rw [hno.1]⟩
                | slcN i off _ tag cap' lc hlc ht =>
                  simp [noRoomB] at hno
                  exact ⟨_, by rw [ht.2.1 hno.1]⟩
                | slcE => exact ⟨_, rfl⟩
              obtain ⟨base, hb⟩ := key
              exact grow base 0 hb (by omega) H hs rfl (fun _ h => h) (fun _ _ h h' => ⟨h, h'⟩) rfl
            | false =>
              simp only [cond_false]
              cases bs with
              | none => exact Gives.no rfl
              | some a =>
                simp only
                split
                · rename_i sp ee cc hsp hget
                  cases htag : (Nat.beq tag (size + 2) && Nat.beq ee e) with
                  | false => exact Gives.no rfl
                  | true =>
                    simp only [cond_true]
                    simp only [Bool.and_eq_true] at htag
                    have htag' := Nat.eq_of_beq_eq_true htag.1
                    obtain rfl := Nat.eq_of_beq_eq_true htag.2
                    cases hS with
                    | slcB => simp at hsp
                    | slcE i off _ b o lc hlc =>
                      have gone := hs.gone hget hlc
                      exact grow _ 0 rfl (by omega) _ gone.sim rfl (fun bb hb => (gone.own bb hb).elim id (fun h => absurd (gone.sim.owned_lt hb) (by omega))) gone.unb rfl
                    | slcN j off _ _ cap' lc hlc ht =>
                      have gone := hs.gone hget hlc
                      by_cases hroom : l + n ≤ cap'
                      · -- in place
                        obtain ⟨t1, t2, t3⟩ := ht
                        have t4 := t3 size htag'
                        obtain ⟨h2, h3⟩ := hs.obs j _ lc hget rfl hlc
                        obtain ⟨c', hc1, hc2, hc3, hc4⟩ := h3.blk
                        have hml : (l + n) * size = l * size + n * size := Nat.add_mul _ _ _
                        have hmc : (l + n) * size ≤ cap' * size := Nat.mul_le_mul_right _ hroom
                        have hlm := r1.length
                        have hst := run_storeCells_at P lc.blk (lc.sh + off + l * size) ee more' 0 c' w hc1 (by omega) (oneCells_of r1 hc5.1)
                        simp only [Nat.add_zero] at hst
                        have hrun := run_append_in (P := P) (ty := ty) hu hi (by rw [hisz]; exact src) (by rw [hisz]; exact hst) hroom
                        refine Gives.of (π' := Ren.put π H.next ⟨lc.blk, lc.sh + off, lc.csz⟩) rfl hrun ?_ ?_
                        · have := VRel.slcN (π := Ren.put π H.next ⟨lc.blk, lc.sh + off, lc.csz⟩) H.next 0 (l + n) (size + 2) cap' _ (Ren.put_self _ _ _) ⟨hroom, by omega, fun q hq => by
                            obtain rfl : q = size := by omega
                            show lc.sh + off + 0 + cap' * q ≤ lc.csz
                            omega⟩
                          exact this
                        · refine hs.take hget rfl hlc rfl (by simp) (fun bb hb => setRow_other w lc.blk bb _ hb) ?_
                          have hold2 : H.cellsAt ⟨j, off, some 0⟩ (l * size) = some old := hold
                          simp only [Heap.cellsAt, hget] at hold2
                          have hble : Nat.ble (off + l * size) cc.length = true := by
                            cases hq : Nat.ble (off + l * size) cc.length with
                            | true => rfl
                            | false => rw [hq] at hold2; cases hold2
                          rw [hble] at hold2
                          simp only [cond_true, Option.some.injEq] at hold2
                          have hble' := Nat.le_of_ble_eq_true hble
                          have key : (c'.toList.take (lc.sh + off + l * size) ++ more' ++ c'.toList.drop (lc.sh + off + l * size + more'.length)) = splice c'.toList (lc.sh + off + l * size) more' := by
                            unfold splice; rw [List.append_assoc]
                          have hcl : c'.toList.length = lc.csz := by simpa using hc2
                          have hext := ext_new hs (⟨lc.blk, lc.sh + off, lc.csz⟩ : Loc)
                          refine ⟨_, setRow_heap w lc.blk c' _ ee _ hc1, ?_, ?_, ?_⟩
                          · rw [key]; simp only [List.size_toArray]; rw [splice_length _ _ _ (by omega)]; exact hcl
                          · show lc.sh + off + (old ++ more).length ≤ lc.csz
                            rw [List.length_append, m1, m2]; omega
                          · intro q v hq
                            rw [key]
                            simp only [List.getElem?_toArray]
                            rw [splice_get _ _ _ _ (by omega)]
                            by_cases hql : q < l * size
                            · rw [List.getElem?_append_left (by omega)] at hq
                              have hq2 : cc[off + q]? = some v := by
                                rw [← hold2, List.getElem?_take, if_pos hql, List.getElem?_drop] at hq; exact hq
                              obtain ⟨v', g1, g2⟩ := hc4 _ v hq2
                              rw [if_neg (by omega)]
                              refine ⟨v', ?_, g2.mono hext⟩
                              show c'.toList[lc.sh + off + q]? = some v'
                              rw [Array.getElem?_toList, show lc.sh + off + q = lc.sh + (off + q) by omega]; exact g1
                            · rw [List.getElem?_append_right (by omega), m2] at hq
                              obtain ⟨v', g1, g2⟩ := r1.get _ _ hq
                              have := (List.getElem?_eq_some_iff.1 g1).1
                              rw [if_pos (by omega)]
                              refine ⟨v', ?_, g2.mono hext⟩
                              rw [← g1]; congr 1; omega
                      · exact grow _ cap' rfl (by omega) _ gone.sim rfl (fun bb hb => (gone.own bb hb).elim id (fun h => absurd (gone.sim.owned_lt hb) (by omega))) gone.unb rfl
                · exact Gives.no rfl
        | _ => exact Gives.no rfl
  · exact Gives.no rfl
end
end Go.Am
