/- Contracts over ghosts: common words. -/
import Derived.Test.YtcagogdllnlihaaGreatAmS
set_option linter.all false
namespace Go.Am
open Go.Proofs

def noX : Exts := fun _ => none
theorem noX_ok : ∀ f m, noX f = some m → ExtOk Tryz.prog f m := fun _ _ h => by cases h
/-- bytes that are told as cells -/
def decL : List Value → Option Blk
  | [] => some []
  | .int .u8 n :: r => match decL r with
    | some b => some (n :: b)
    | none => none
  | _ => none
def decB (vs : List Value) : Option Blk := bif Nat.beq vs.length 64 then decL vs else none
theorem decL_eq : ∀ {vs : List Value} {b : Blk}, decL vs = some b → vs = encB b
  | [], b, h => by simp [decL] at h; subst h; rfl
  | v :: r, b, h => by
    unfold decL at h
    split at h
    · rename_i heq; cases heq
    · rename_i n r' heq
      cases heq
      split at h
      · rename_i b' hb
        obtain rfl := Option.some.inj h
        rw [decL_eq hb]; rfl
      · cases h
    · cases h
theorem decL_enc : ∀ (b : Blk), decL (encB b) = some b
  | [] => rfl
  | n :: b => by simp [encB, decL]; rw [show b.map (.int .u8) = encB b from rfl, decL_enc b]
theorem decB_eq {vs : List Value} {b : Blk} (h : decB vs = some b) : vs = encB b ∧ b.length = 64 := by
  unfold decB at h
  cases hl : Nat.beq vs.length 64 with
  | false => rw [hl] at h; cases h
  | true =>
    rw [hl] at h
    have h1 := decL_eq h
    have h2 := Nat.eq_of_beq_eq_true hl
    refine ⟨h1, ?_⟩
    rw [h1] at h2; simpa [encB] using h2
theorem decB_enc {b : Blk} (h : b.length = 64) : decB (encB b) = some b := by
  unfold decB; rw [show (encB b).length = 64 by simp [encB, h]]; simp [decL_enc]
theorem encB_len {b : Blk} (h : b.length = 64) : (encB b).length = 64 := by simp [encB, h]
theorem encB_scalar (b : Blk) : (encB b).all scalar = true := by simp [encB, scalar]
theorem flat_encB (b : Blk) : flatL (encB b) = true := flatL_map _ (fun _ => rfl) b
theorem eqV_blk (b : Blk) : eqV 6 (.agg ⟨encB b⟩) (.agg ⟨encB b⟩) = true := eqV_refl_agg _ fun v hv => by
  obtain ⟨n, _, rfl⟩ := List.mem_map.1 hv
  exact eqV_int 4 _ _

def dI (k : IntKind) : Value → Option Int
  | .int k' n => bif decide (k' = k) then some n else none
  | _ => none
theorem dI_eq {k : IntKind} {v : Value} {n : Int} (h : dI k v = some n) : v = .int k n := by
  unfold dI at h
  split at h
  · rename_i k' m
    by_cases he : k' = k
    · subst he; simp at h; rw [h]
    · simp [he] at h
  · cases h
@[simp] theorem dI_int (k : IntKind) (n : Int) : dI k (.int k n) = some n := by simp [dI]
def dBool : Value → Option Bool
  | .bool b => some b
  | _ => none
theorem dBool_eq {v : Value} {b : Bool} (h : dBool v = some b) : v = .bool b := by
  unfold dBool at h
  split at h
  · cases h; rfl
  · cases h
@[simp] theorem dBool_bool (b : Bool) : dBool (.bool b) = some b := rfl
def dBlk : Value → Option Blk
  | .agg ⟨vs⟩ => decB vs
  | _ => none
theorem dBlk_eq {v : Value} {b : Blk} (h : dBlk v = some b) : v = .agg ⟨encB b⟩ ∧ b.length = 64 := by
  unfold dBlk at h
  split at h
  · obtain ⟨rfl, h2⟩ := decB_eq h; exact ⟨rfl, h2⟩
  · cases h
@[simp] theorem dBlk_enc {b : Blk} (h : b.length = 64) : dBlk (.agg ⟨encB b⟩) = some b := decB_enc h
/-- what a pointer leads to: none, or a ghost -/
def dGh (p : Value) (H : Heap) : Option (Option (Nat × Gh)) := match p with
  | .pointer none => some none
  | .pointer (some ⟨i, 0, some 0⟩) => match H.get i with
    | some (.ghost g) => some (some (i, g))
    | _ => none
  | _ => none
theorem dGh_none {p : Value} {H : Heap} (h : dGh p H = some none) : p = .pointer none := by
  unfold dGh at h
  split at h
  · rfl
  · split at h <;> cases h
  · cases h
theorem dGh_some {p : Value} {H : Heap} {i : Nat} {g : Gh} (h : dGh p H = some (some (i, g))) : p = .pointer (some ⟨i, 0, some 0⟩) ∧ H.get i = some (.ghost g) := by
  unfold dGh at h
  split at h
  · cases h
  · split at h
    · rename_i hg; cases h; exact ⟨rfl, hg⟩
    · cases h
  · cases h
def dLine (p : Value) (H : Heap) : Option (Option (Nat × LineS)) := match dGh p H with
  | some none => some none
  | some (some (i, .line L)) => some (some (i, L))
  | _ => none
theorem dLine_none {p : Value} {H : Heap} (h : dLine p H = some none) : p = .pointer none := by
  unfold dLine at h
  split at h
  · rename_i h1; exact dGh_none h1
  · cases h
  · cases h
theorem dLine_some {p : Value} {H : Heap} {i : Nat} {L : LineS} (h : dLine p H = some (some (i, L))) : p = .pointer (some ⟨i, 0, some 0⟩) ∧ H.get i = some (.ghost (.line L)) := by
  unfold dLine at h
  split at h
  · cases h
  · rename_i h1; cases h; exact dGh_some h1
  · cases h
theorem get_push_old {H : Heap} {j : Nat} {o : Ob} (h : j < H.next) : (H.push o).get j = H.get j := by rw [Heap.get_push, if_neg (by omega)]
theorem get_push_new {H : Heap} {o : Ob} : (H.push o).get H.next = some o := by rw [Heap.get_push, if_pos rfl]
theorem get_set_same {H : Heap} {i : Nat} {o : Ob} : (H.set i o).get i = some o := by rw [Heap.get_set, if_pos rfl]
theorem get_set_other {H : Heap} {i j : Nat} {o : Ob} (h : j ≠ i) : (H.set i o).get j = H.get j := by rw [Heap.get_set, if_neg (Ne.symm h)]

theorem sg0 (i n : Nat) : sg i n 0 = i := rfl
theorem Opened.one {H H1 : Heap} {i : Nat} {e : TypeId} {c : List Value} {L : List Ob} (ho : Opened H i (.cells e c :: L) H1) (hc : flatL c = true) : H1.get i = some (.cells e c) := by
  have := ho.at' 0 _ rfl
  rw [sg0] at this
  rw [this]; simp only [rnO, rnL_flat _ hc]
theorem born_head (H : Heap) (v : Value) (i off s : Nat) (r : List Value) : Born H (v :: .pointer (some ⟨i, off, some s⟩) :: r) i := .arg (by simp [menL, men])
/-- the heap that is told: with another ghost at i, or the same one -/
structure Upd (H : Heap) (i : Nat) (g' : Gh) (Hb : Heap) : Prop where
  base : Hb.base = H.base
  next : Hb.next = H.next
  get : Hb.get i = some (.ghost g')
  other : ∀ j, j ≠ i → Hb.get j = H.get j
theorem Upd.set (H : Heap) (i : Nat) (g' : Gh) : Upd H i g' (H.set i (.ghost g')) := ⟨rfl, rfl, get_set_same, fun _ h => get_set_other h⟩
theorem Upd.self {H : Heap} {i : Nat} {g : Gh} (h : H.get i = some (.ghost g)) : Upd H i g H := ⟨rfl, rfl, h, fun _ _ => rfl⟩
theorem Done.updB {H H2 Hb : Heap} {args : List Value} {Q : Value → Heap → Prop} {v : Value} (hf : Fresh H) {i : Nat} {g g' : Gh} (hi : H.get i = some (.ghost g)) (u : Upd H i g' Hb) (hn : H.next ≤ H2.next)
    {L : List Ob} {rest : List Nat} (lay : Lay g' L) (len : (i :: rest).length = L.length) (nd : (i :: rest).Nodup) (hrest : ∀ j, j ∈ rest → H.next ≤ j)
    (hat : ∀ k o, L[k]? = some o → solid o = true ∧ H2.get (nth (i :: rest) H2.next k) = some (rnO (nth (i :: rest) H2.next) o))
    (reach : ∀ k o, 0 < k → L[k]? = some o → alive o = true → ∃ j u, j < k ∧ L[j]? = some u ∧ menO k u = true)
    (hold : ∀ j, j < H.next → j ≠ i → H2.get j = H.get j) (born : Born H2 (v :: args) i) (hv : flat v = true) (hq : Q v Hb) : Done H args Q v H2 := by
  have hin : i < H.next := by
    rcases Nat.lt_or_ge i H.next with h | h
    · exact h
    · rw [hf i h] at hi; cases hi
  refine ⟨H2.shut i rest g', Hb, lowT H.next H2.next, v, .step i rest g' L lay len born nd hat reach (.refl _), ⟨u.base, Nat.le_of_eq u.next.symm, fun j h => if_pos h, fun j h => ?_, fun j j' h h' he => ?_, fun j h => ?_, fun j h h' => absurd (u.next ▸ h') (Nat.not_lt.2 h), fun j h => ?_⟩, (rn_flat _ hv).symm, hq⟩
  · rw [u.next] at h
    rw [Heap.next_shut]; unfold lowT; rw [if_neg (Nat.not_lt.2 h)]; exact Nat.le_refl _
  · rw [u.next] at h h'
    unfold lowT at he; rw [if_pos h, if_pos h'] at he; exact he
  · by_cases he : i = j
    · subst he
      exact .inr ⟨.ghost hi, .ghost g', u.get, by rw [Heap.get_shut, if_pos rfl]; rfl⟩
    · refine .inl ⟨u.other j (Ne.symm he), ?_⟩
      rw [Heap.get_shut, if_neg he, if_neg fun hm => absurd (hrest j hm) (Nat.not_le.2 h)]
      exact hold j h (Ne.symm he)
  · rw [u.next] at h; rw [u.other j (by omega)]; exact hf j h
/-- a ghost of one thing is shut again -/
theorem Done.upd1 {H H1 H2 Hb : Heap} {args : List Value} {Q : Value → Heap → Prop} {v : Value} (hf : Fresh H) {i : Nat} {g g' : Gh} (hi : H.get i = some (.ghost g)) (u : Upd H i g' Hb) {L : List Ob} (ho : Opened H i L H1) (hn : H1.next ≤ H2.next)
    {e : TypeId} {c : List Value} (hc : flatL c = true) (lay : Lay g' [.cells e c]) (hat : H2.get i = some (.cells e c)) (hold : ∀ j, j < H1.next → j ≠ i → H2.get j = H1.get j) (born : Born H2 (v :: args) i)
    (hv : flat v = true) (hq : Q v Hb) : Done H args Q v H2 := by
  refine Done.updB (rest := []) hf hi u (by have := ho.next; omega) lay rfl (by simp) (by simp) (fun k o h => ?_) (fun k o h1 h2 _ => ?_) (fun j h1 h2 => by rw [hold j (by have := ho.next; omega) h2, ho.old j h1 h2]) born hv hq
  · cases k with
    | zero =>
      simp at h; subst h
      refine ⟨rfl, ?_⟩
      show H2.get i = _
      rw [hat]; simp only [rnO, rnL_flat _ hc]
    | succ k => simp at h
  · cases k with
    | zero => omega
    | succ k => simp at h2
/-- where a thing of cells is written, and things are made beside it -/
structure Cur (H1 : Heap) (i : Nat) (e : TypeId) (c : List Value) (H2 : Heap) : Prop where
  get : H2.get i = some (.cells e c)
  old : ∀ j, j < H1.next → j ≠ i → H2.get j = H1.get j
  next : H1.next ≤ H2.next
  lt : i < H1.next
theorem Cur.refl {H1 : Heap} {i : Nat} {e : TypeId} {c : List Value} (h : H1.get i = some (.cells e c)) (hl : i < H1.next) : Cur H1 i e c H1 := ⟨h, fun _ _ _ => rfl, Nat.le_refl _, hl⟩
theorem Cur.push {H1 H2 : Heap} {i : Nat} {e : TypeId} {c : List Value} (h : Cur H1 i e c H2) (o : Ob) : Cur H1 i e c (H2.push o) :=
  ⟨by rw [get_push_old (by have := h.lt; have := h.next; omega)]; exact h.get, fun j h1 h2 => by rw [get_push_old (by have := h.next; omega)]; exact h.old j h1 h2, by have := h.next; simp; omega, h.lt⟩
theorem Cur.set {H1 H2 : Heap} {i : Nat} {e : TypeId} {c : List Value} (h : Cur H1 i e c H2) (c' : List Value) : Cur H1 i e c' (H2.set i (.cells e c')) :=
  ⟨get_set_same, fun j h1 h2 => by rw [get_set_other h2]; exact h.old j h1 h2, h.next, h.lt⟩
/-- another thing is written, which was made later -/
theorem Cur.other {H1 H2 : Heap} {i : Nat} {e : TypeId} {c : List Value} (h : Cur H1 i e c H2) {j : Nat} (hj : H1.next ≤ j) (o : Ob) : Cur H1 i e c (H2.set j o) :=
  ⟨by rw [get_set_other (by have := h.lt; omega)]; exact h.get, fun l h1 h2 => by rw [get_set_other (by omega)]; exact h.old l h1 h2, h.next, h.lt⟩
theorem Cur.st {H1 H2 : Heap} {i : Nat} {e : TypeId} {c c' : List Value} (h : Cur H1 i e c H2) {n off : Nat} {x : Value} (hx : (vlist x).length = n) (hn : off + n ≤ c.length) (hs : (vlist x).all scalar = true)
    (hc : splice c off (vlist x) = c') : ∃ H3, (∀ k, st n (.pointer (some ⟨i, off, some 0⟩)) x k H2 = .ok undef H3) ∧ Cur H1 i e c' H3 ∧ (∀ j, j ≠ i → H3.get j = H2.get j) ∧ H3.next = H2.next :=
  ⟨_, fun k => st_to h.get hx hn hs hc k, h.set c', fun j hj => get_set_other hj, rfl⟩
theorem Cur.done {H H1 H2 Hb : Heap} {args : List Value} {Q : Value → Heap → Prop} {v : Value} {i : Nat} {e : TypeId} {c : List Value} (h : Cur H1 i e c H2) (hf : Fresh H) {g g' : Gh} (hi : H.get i = some (.ghost g)) {L : List Ob} (ho : Opened H i L H1)
    (hc : flatL c = true) (lay : Lay g' [.cells e c]) (u : Upd H i g' Hb) (born : Born H2 (v :: args) i) (hv : flat v = true) (hq : Q v Hb) : Done H args Q v H2 :=
  Done.upd1 hf hi u ho h.next hc lay h.get h.old born hv hq
/-- whole blocks -/
theorem ldB {H : Heap} {i : Nat} {e : TypeId} {b : Blk} (h : H.get i = some (.cells e (encB b))) (hl : b.length = 64) (k : Nat) : ld true 64 (.pointer (some ⟨i, 0, some 0⟩)) k H = .ok (.agg ⟨encB b⟩) H :=
  ldA h (by rw [encB_len hl]; exact Nat.le_refl _) (by rw [List.drop_zero, List.take_of_length_le (by rw [encB_len hl]; exact Nat.le_refl _)]) k
theorem stB {H : Heap} {i : Nat} {e : TypeId} {b b' : Blk} (h : H.get i = some (.cells e (encB b))) (hl : b.length = 64) (hl' : b'.length = 64) (k : Nat) :
    st 64 (.pointer (some ⟨i, 0, some 0⟩)) (.agg ⟨encB b'⟩) k H = .ok undef (H.set i (.cells e (encB b'))) :=
  st_to (x := .agg ⟨encB b'⟩) h (encB_len hl') (by rw [encB_len hl]; exact Nat.le_refl _) (encB_scalar _) (by
    unfold splice vlist; simp only [List.take_zero, List.nil_append, Nat.zero_add, encB_len hl']
    rw [List.drop_eq_nil_of_le (by rw [encB_len hl]; exact Nat.le_refl _), List.append_nil]) k
def zeroB : Blk := List.replicate 64 0
theorem encB_zero : List.replicate 64 (Value.int .u8 0) = encB zeroB := by simp [encB, zeroB]
theorem bld_nil (z : List Value) (k : Nat) (H : Heap) : bld z [] k H = .ok (.agg ⟨z⟩) H := rfl
theorem ext_t (i : Nat) (vs : List Value) {v : Value} (h : vs[i]? = some v) : ext i (.tuple ⟨vs⟩) = M.pure v := by simp [ext, h]
theorem flat_tup2 (b : Blk) (v : Value) (hv : flat v = true) : flat (.tuple ⟨[.agg ⟨encB b⟩, v]⟩) = true := by simp [flat, flatR, flatL, flat_encB, hv]

/-- one ghost is shut again, one thing that was made is handed on -/
def keepT (n out j0 : Nat) (j : Nat) : Nat := if j < n then j else if j = n then j0 else out
theorem Done.keep {H H2 Hb : Heap} {args : List Value} {Q : Value → Heap → Prop} {v : Value} (hf : Fresh H) {i : Nat} {g g' : Gh} (hi : H.get i = some (.ghost g)) (u : Upd H i g' Hb) (hn : H.next ≤ H2.next)
    {L : List Ob} {rest : List Nat} (lay : Lay g' L) (len : (i :: rest).length = L.length) (nd : (i :: rest).Nodup) (hrest : ∀ j, j ∈ rest → H.next ≤ j)
    (hat : ∀ k o, L[k]? = some o → solid o = true ∧ H2.get (nth (i :: rest) H2.next k) = some (rnO (nth (i :: rest) H2.next) o))
    (reach : ∀ k o, 0 < k → L[k]? = some o → alive o = true → ∃ j u, j < k ∧ L[j]? = some u ∧ menO k u = true)
    (hold : ∀ j, j < H.next → j ≠ i → H2.get j = H.get j) (born : Born H2 (v :: args) i)
    {j0 : Nat} {e : TypeId} {c : List Value} (hj : H.next ≤ j0) (hj2 : j0 ∉ rest) (hg : H2.get j0 = some (.cells e c)) (hc : flatL c = true) {v1 : Value} (hv : v = rn (keepT H.next H2.next j0) v1)
    (hq : Q v1 (Hb.push (.cells e c))) : Done H args Q v H2 := by
  have hin : i < H.next := by
    rcases Nat.lt_or_ge i H.next with h | h
    · exact h
    · rw [hf i h] at hi; cases hi
  have un := u.next
  refine ⟨H2.shut i rest g', Hb.push (.cells e c), keepT H.next H2.next j0, v1, .step i rest g' L lay len born nd hat reach (.refl _), ⟨u.base, by simp [un], fun j h => if_pos h, fun j h => ?_, fun j j' h h' he => ?_, fun j h => ?_, fun j h h' => ?_, fun j h => ?_⟩, hv, hq⟩
  · simp only [Heap.next_push, un] at h
    rw [Heap.next_shut]; unfold keepT; rw [if_neg (by omega), if_neg (by omega)]; exact Nat.le_refl _
  · simp only [Heap.next_push, un] at h h'
    unfold keepT at he
    split at he <;> split at he <;> (try split at he) <;> (try split at he) <;> omega
  · rw [get_push_old (by rw [un]; exact h)]
    by_cases he : i = j
    · subst he
      exact .inr ⟨.ghost hi, .ghost g', u.get, by rw [Heap.get_shut, if_pos rfl]; rfl⟩
    · refine .inl ⟨u.other j (Ne.symm he), ?_⟩
      rw [Heap.get_shut, if_neg he, if_neg fun hm => absurd (hrest j hm) (Nat.not_le.2 h)]
      exact hold j h (Ne.symm he)
  · simp only [Heap.next_push, un] at h'
    obtain rfl : j = H.next := by omega
    refine ⟨.cells e c, by rw [← un]; exact get_push_new, ?_⟩
    have : keepT H.next H2.next j0 H.next = j0 := by unfold keepT; rw [if_neg (by omega), if_pos rfl]
    rw [this, Heap.get_shut, if_neg (by omega), if_neg hj2, hg]
    simp only [rnO, rnL_flat _ hc]
  · simp only [Heap.next_push, un] at h
    rw [Heap.get_push, if_neg (by omega), u.other j (by omega)]; exact hf j (by omega)
theorem Done.keep1 {H H1 H2 Hb : Heap} {args : List Value} {Q : Value → Heap → Prop} {v : Value} (hf : Fresh H) {i : Nat} {g g' : Gh} (hi : H.get i = some (.ghost g)) (u : Upd H i g' Hb) {L : List Ob} (ho : Opened H i L H1)
    {e' : TypeId} {c' : List Value} (cur : Cur H1 i e' c' H2) (hc' : flatL c' = true) (lay : Lay g' [.cells e' c']) (born : Born H2 (v :: args) i)
    {j0 : Nat} {e : TypeId} {c : List Value} (hj : H.next ≤ j0) (hg : H2.get j0 = some (.cells e c)) (hc : flatL c = true) {v1 : Value} (hv : v = rn (keepT H.next H2.next j0) v1) (hq : Q v1 (Hb.push (.cells e c))) : Done H args Q v H2 := by
  have h1 := ho.next
  have h2 := cur.next
  refine Done.keep (rest := []) hf hi u (by omega) lay rfl (by simp) (by simp) (fun k o h => ?_) (fun k o h1 h2 _ => ?_) (fun j h3 h4 => by rw [cur.old j (by omega) h4, ho.old j h3 h4]) born hj (by simp) hg hc hv hq
  · cases k with
    | zero =>
      simp at h; subst h
      refine ⟨rfl, ?_⟩
      show H2.get i = _
      rw [cur.get]; simp only [rnO, rnL_flat _ hc']
    | succ k => simp at h
  · cases k with
    | zero => omega
    | succ k => simp at h2

/-- a new ghost is handed on -/
theorem Done.newG {H H2 : Heap} {args : List Value} {Q : Value → Heap → Prop} {v : Value} (hf : Fresh H) {g' : Gh} {j0 : Nat} (hj : H.next ≤ j0)
    {L : List Ob} {rest : List Nat} (lay : Lay g' L) (len : (j0 :: rest).length = L.length) (nd : (j0 :: rest).Nodup) (hrest : ∀ j, j ∈ rest → H.next ≤ j)
    (hat : ∀ k o, L[k]? = some o → solid o = true ∧ H2.get (nth (j0 :: rest) H2.next k) = some (rnO (nth (j0 :: rest) H2.next) o))
    (reach : ∀ k o, 0 < k → L[k]? = some o → alive o = true → ∃ j u, j < k ∧ L[j]? = some u ∧ menO k u = true)
    (hold : ∀ j, j < H.next → H2.get j = H.get j) (hn : H.next ≤ H2.next) (born : Born H2 (v :: args) j0) {v1 : Value} (hv : v = rn (keepT H.next H2.next j0) v1)
    (hq : Q v1 (H.push (.ghost g'))) : Done H args Q v H2 := by
  refine ⟨H2.shut j0 rest g', H.push (.ghost g'), keepT H.next H2.next j0, v1, .step j0 rest g' L lay len born nd hat reach (.refl _), ⟨rfl, by simp, fun j h => if_pos h, fun j h => ?_, fun j j' h h' he => ?_, fun j h => ?_, fun j h h' => ?_, fun j h => ?_⟩, hv, hq⟩
  · simp only [Heap.next_push] at h
    show (H2.shut j0 rest g').next ≤ _
    rw [Heap.next_shut]; unfold keepT; rw [if_neg (by omega), if_neg (by omega)]; exact Nat.le_refl _
  · simp only [Heap.next_push] at h h'
    unfold keepT at he
    split at he <;> split at he <;> (try split at he) <;> (try split at he) <;> omega
  · refine .inl ⟨get_push_old h, ?_⟩
    rw [Heap.get_shut, if_neg (by omega), if_neg fun hm => absurd (hrest j hm) (Nat.not_le.2 h)]
    exact hold j h
  · simp only [Heap.next_push] at h'
    obtain rfl : j = H.next := by omega
    refine ⟨.ghost g', get_push_new, ?_⟩
    have : keepT H.next H2.next j0 H.next = j0 := by unfold keepT; rw [if_neg (by omega), if_pos rfl]
    rw [this, Heap.get_shut, if_pos rfl]; rfl
  · simp only [Heap.next_push] at h
    rw [Heap.get_push, if_neg (by omega)]; exact hf j (by omega)
theorem Done.newG1 {H H2 : Heap} {args : List Value} {Q : Value → Heap → Prop} {v : Value} (hf : Fresh H) {g' : Gh} {j0 : Nat} (hj : H.next ≤ j0) {e : TypeId} {c : List Value} (hc : flatL c = true) (lay : Lay g' [.cells e c])
    (hat : H2.get j0 = some (.cells e c)) (hold : ∀ j, j < H.next → H2.get j = H.get j) (hn : H.next ≤ H2.next) (born : Born H2 (v :: args) j0) {v1 : Value} (hv : v = rn (keepT H.next H2.next j0) v1)
    (hq : Q v1 (H.push (.ghost g'))) : Done H args Q v H2 := by
  refine Done.newG (rest := []) hf hj lay rfl (by simp) (by simp) (fun k o h => ?_) (fun k o h1 h2 _ => ?_) hold hn born hv hq
  · cases k with
    | zero => simp at h; subst h; exact ⟨rfl, by show H2.get j0 = _; rw [hat]; simp only [rnO, rnL_flat _ hc]⟩
    | succ k => simp at h
  · cases k with
    | zero => omega
    | succ k => simp at h2
/-- going round -/
theorem loopV_sat {body : (List Value → M Value) → List Value → M Value} {k : Nat} {Q : Value → Heap → Prop} {E : Value → Heap → Prop} (I : Nat → List Value → Heap → Prop)
    (step : ∀ n again vs H, I n vs H → (∀ m vs' H', m < n → I m vs' H' → (again vs' k H').Sat Q E) → (body again vs k H).Sat Q E)
    {n : Nat} {vs : List Value} {H : Heap} (h0 : I n vs H) (hk : n < k) : (loopV body vs k H).Sat Q E := by
  have key : ∀ j n vs H, n < j → I n vs H → (loopVF body j vs k H).Sat Q E := by
    intro j
    induction j with
    | zero => intro n vs H h; omega
    | succ j ih => intro n vs H h hi; exact step n _ vs H hi fun m vs' H' hm hi' => ih m vs' H' (by omega) hi'
  exact key k n vs H hk h0
/-- a list of integers that was put together one by one -/
def accV (j : Nat) (tag : Nat) : Nat → Value
  | 0 => .slice none 0 0
  | n + 1 => .slice (some ⟨j, 0, some 0⟩) (n + 1) tag
theorem app1 {H : Heap} {e size bytes j tag n : Nat} {old xs : List Value} {jx : Nat} {tx : Nat} (hb : (n + 1) * bytes ≤ 2 ^ 47) (hb0 : 0 < bytes) (hs0 : 0 < size) (hl : old.length = n * size) (hx : xs.length = size)
    (hsc : xs.all scalar = true) (hg : n ≠ 0 → H.get j = some (.cells e old)) (hg2 : H.get jx = some (.cells e xs)) (ht : tag = size + 2) (k : Nat) :
    app e size bytes (accV j tag n) (.slice (some ⟨jx, 0, some 0⟩) 1 tx) k H = .ok (accV H.next tag (n + 1)) ((if n = 0 then H else H.set j .gone).push (.cells e (old ++ xs))) := by
  subst ht
  have e1 : H.cellsOf size 1 (.slice (some ⟨jx, 0, some 0⟩) 1 tx) = some xs := by
    simp only [Heap.cellsOf, Heap.cellsAt, hg2, Nat.one_mul, Nat.zero_add, hx, Nat.ble_eq_true_of_le (Nat.le_refl _), cond_true, List.drop_zero]
    rw [List.take_of_length_le (by omega)]
  have e3 : (xs.all scalar && (Nat.beq xs.length (1 * size) && Nat.beq old.length (n * size))) = true := by rw [hsc, hx, hl]; simp
  have q1 : Nat.beq 1 0 = false := rfl
  have q2 : Nat.beq (size + 2) 0 = false := rfl
  cases n with
  | zero =>
    have : old = [] := List.eq_nil_of_length_eq_zero (by simpa using hl)
    subst this
    have e0 : H.cellsOf size 0 (.slice none 0 0) = some [] := rfl
    simp only [app, accV, lenV, e1, e0, Nat.ble_eq_true_of_le hb, Nat.blt, Nat.ble_eq_true_of_le hb0, Nat.ble_eq_true_of_le hs0, e3, noRoomB, q1, cond_false, cond_true, Bool.and_self, Bool.not_true, if_true, List.nil_append, new, Nat.succ_eq_add_one]
  | succ n =>
    have hg' := hg (by omega)
    have e2 : H.cellsOf size (n + 1) (.slice (some ⟨j, 0, some 0⟩) (n + 1) (size + 2)) = some old := by
      simp only [Heap.cellsOf, Heap.cellsAt, hg', Nat.zero_add, hl, Nat.ble_eq_true_of_le (Nat.le_refl _), cond_true, List.drop_zero]
      rw [List.take_of_length_le (by omega)]
    simp only [app, accV, lenV, e1, e2, Nat.ble_eq_true_of_le hb, Nat.blt, Nat.ble_eq_true_of_le hb0, Nat.ble_eq_true_of_le hs0, e3, noRoomB, q1, q2, cond_false, cond_true, Bool.and_self, Bool.false_and, Bool.not_true, new, hg', Nat.beq_refl, Bool.true_and, Nat.add_eq_zero_iff, Nat.succ_ne_self, and_false, if_false, Nat.succ_eq_add_one]

theorem bldSlice1 (e : TypeId) (size : Nat) (z : List Value) (x : Value) (hz : z.length = size) (hx : (vlist x).length = size) (hb : bad x = false) (k : Nat) (H : Heap) :
    bldSlice e size z 1 [(0, size, x)] k H = .ok (.slice (some ⟨H.next, 0, some 0⟩) 1 (size + 2)) (H.push (.cells e (vlist x))) := by
  have h1 : lay (rep 1 z) [(0, size, x)] = some (vlist x) := by
    simp only [lay, hb, Bool.not_false, hx, Nat.beq_refl, Nat.zero_add, rep, List.replicate_one, List.flatten_singleton, hz, Nat.ble_eq_true_of_le (Nat.le_refl _), Bool.and_self, cond_true]
    unfold splice; rw [List.drop_eq_nil_of_le (by omega)]; simp
  simp only [bldSlice, h1, new]
theorem flat_ints (l : List Int) : flatL (l.map (.int .i64)) = true := flatL_map _ (fun _ => rfl) l
theorem wrap64 {n : Int} (h1 : -9223372036854775808 ≤ n) (h2 : n < 9223372036854775808) : IntKind.i64.wrap n = n := by
  simp only [IntKind.wrap, IntKind.bits, IntKind.signed]; simp; omega
theorem accV_flat0 (j tag : Nat) : accV j tag 0 = .slice none 0 0 := rfl
theorem accV_rn (σ : Nat → Nat) (j tag n : Nat) : rn σ (accV j tag n) = accV (σ j) tag n := by cases n <;> simp [accV, rn, rnA]
theorem men_acc (j tag n : Nat) (h : n ≠ 0) : men j (accV j tag n) = true := by cases n with
  | zero => omega
  | succ n => simp [accV, men]
theorem nat_beq (a b : Nat) : Nat.beq a b = (a == b) := by
  by_cases h : a = b
  · subst h; rw [Nat.beq_refl]; simp
  · rw [beqF h]; simp [h]
/-- the answer of a list of integers that was made -/
def intsV (e : TypeId) (l : List Int) (H : Heap) : Out Value := match l with
  | [] => .ok (.slice none 0 0) H
  | x :: r => .ok (.slice (some ⟨H.next, 0, some 0⟩) (r.length + 1) 3) (H.push (.cells e ((x :: r).map (.int .i64))))
theorem intsV_nil (e : TypeId) (H : Heap) : intsV e [] H = .ok (.slice none 0 0) H := rfl
theorem intsV_acc {e : TypeId} {l : List Int} (h : l ≠ []) (H : Heap) : intsV e l H = .ok (accV H.next 3 l.length) (H.push (.cells e (l.map (.int .i64)))) := by
  cases l with
  | nil => exact absurd rfl h
  | cons x r => rfl
theorem Done.ints1 {H H1 H2 Hb : Heap} {args : List Value} {Q : Value → Heap → Prop} {E : Value → Heap → Prop} (hf : Fresh H) {i : Nat} {g g' : Gh} (hi : H.get i = some (.ghost g)) (u : Upd H i g' Hb) {L : List Ob} (ho : Opened H i L H1)
    {e' : TypeId} {c' : List Value} (cur : Cur H1 i e' c' H2) (hc' : flatL c' = true) (lay : Lay g' [.cells e' c']) {p : Value} (hp : args = .pointer (some ⟨i, 0, some 0⟩) :: p.cells.toList.drop 1 ∨ ∃ r, args = .pointer (some ⟨i, 0, some 0⟩) :: r)
    {j : Nat} {l : List Int} {e : TypeId} (hj : l ≠ [] → H1.next ≤ j ∧ H2.get j = some (.cells e (l.map (.int .i64)))) (hq : (intsV e l Hb).Sat Q E) : Done H args Q (accV j 3 l.length) H2 := by
  have born : ∀ v, Born H2 (v :: args) i := fun v => by rcases hp with h | ⟨r, h⟩ <;> rw [h] <;> exact born_head ..
  by_cases hl : l = []
  · subst hl
    exact cur.done hf hi ho hc' lay u (born _) rfl hq
  · obtain ⟨h1, h2⟩ := hj hl
    rw [intsV_acc hl] at hq
    have hn := ho.next
    refine Done.keep1 hf hi u ho cur hc' lay (born _) (j0 := j) (by omega) h2 (flat_ints l) (v1 := accV H.next 3 l.length) ?_ (by rw [← u.next]; exact hq)
    rw [accV_rn]
    congr 1
    unfold keepT; rw [if_neg (by omega), if_pos rfl]
end Go.Am
