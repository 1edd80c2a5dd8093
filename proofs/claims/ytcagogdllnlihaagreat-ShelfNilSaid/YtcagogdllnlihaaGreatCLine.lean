/- Contracts of package line. -/
import Derived.Test.YtcagogdllnlihaaGreatAmT
import Derived.Test.YtcagogdllnlihaaGreatShLine
set_option linter.all false
namespace Go.Am
open Go.Proofs
set_option linter.unusedSimpArgs false
set_option linter.unusedVariables false

/-! ### what a line does -/
namespace LineS
def asked (L : LineS) (m : Int) : Int := if L.members = 0 then 1 else if m < 0 ∨ m ≥ L.members then 2 else 0
def setK (L : LineS) (j : Nat) (b : Bool) : LineS := { L with known := L.known.set j b }
def setD (L : LineS) (j : Nat) (b : Bool) : LineS := { L with dirty := L.dirty.set j b }
def setB (L : LineS) (j : Nat) (b : Blk) : LineS := { L with blocks := L.blocks.set j b }
def setF (L : LineS) (n : Int) : LineS := { L with first := n }
def setDs (L : LineS) (l : List Bool) : LineS := { L with dirty := l }
def put (L : LineS) (m : Int) (k d : Bool) (b : Blk) : LineS := ((L.setK m.toNat k).setD m.toNat d).setB m.toNat b
def set (L : LineS) (m : Int) (b : Blk) (seq : Int) : LineS × Int :=
  if L.asked m = 0 then (if seq = 0 then (L, 2) else ((if L.first = 0 ∨ seq < L.first then (L.put m true true b).setF seq else L.put m true true b), 0)) else (L, L.asked m)
def isKnown (L : LineS) (m : Int) : Bool := L.known.getD m.toNat false
def isDirty (L : LineS) (m : Int) : Bool := L.dirty.getD m.toNat false
def block (L : LineS) (m : Int) : Blk := L.blocks.getD m.toNat zeroB
def learn (L : LineS) (m : Int) (b : Blk) : LineS × Int :=
  if L.asked m = 0 then ((if L.isKnown m then L else (L.setK m.toNat true).setB m.toNat b), 0) else (L, L.asked m)
def forget (L : LineS) (m : Int) : LineS × Int := if L.asked m = 0 then (L.put m false false zeroB, 0) else (L, L.asked m)
def get (L : LineS) (m : Int) : Blk × Bool := if L.asked m = 0 ∧ L.isKnown m = true then (L.block m, true) else (zeroB, false)
def clean (L : LineS) : LineS × Int := if L.members = 0 then (L, 1) else ((L.setDs (List.replicate 16 false)).setF 0, 0)
def dirties (L : LineS) : List Int := ((List.range L.members.toNat).filter fun i => L.isDirty (Int.ofNat i)).map Int.ofNat
def new (m : Int) : LineS := ⟨m, List.replicate 16 false, List.replicate 16 false, List.replicate 16 zeroB, 0⟩
end LineS

/-! ### its cells -/
section
variable {L : LineS}
theorem encLine_len (w : L.Wf) : (encLine L).length = 1058 := by
  have : (L.blocks.flatMap encB).length = 1024 := by
    rw [List.length_flatMap]
    have h : L.blocks.map (fun b => (encB b).length) = List.replicate 16 64 := by
      rw [← w.bl, ← List.map_const']
      exact List.map_congr_left fun b hb => encB_len (w.bs b hb)
    rw [show (fun x => (encB x).length) = fun b => (encB b).length from rfl, h]; rfl
  simp only [encLine, List.length_append, List.length_map, this, w.kn, w.dt]; rfl
theorem flat_encLine (L : LineS) : flatL (encLine L) = true := by
  simp only [encLine, flatL_append, flatL_map _ (fun (_ : Bool) => (rfl : flat (.bool _) = true)), flatL_flatMap _ flat_encB]; rfl
theorem line_members (L : LineS) : ((encLine L).drop 0).take 1 = [.int .i64 L.members] := by simp [encLine]
theorem line_known {j : Nat} {b : Bool} (h : L.known[j]? = some b) : ((encLine L).drop (1 + j)).take 1 = [.bool b] := by
  have hj := (List.getElem?_eq_some_iff.1 h).1
  rw [encLine, dt_right (n := j) (by simp), dt_left (by simp; omega)]
  exact dt_map _ h
theorem line_dirty {j : Nat} {b : Bool} (w : L.Wf) (h : L.dirty[j]? = some b) : ((encLine L).drop (17 + j)).take 1 = [.bool b] := by
  have hj := (List.getElem?_eq_some_iff.1 h).1
  rw [encLine, dt_right (n := 16 + j) (by simp; omega), dt_right (n := j) (by simp [w.kn]), dt_left (by simp; omega)]
  exact dt_map _ h
theorem dt_blocks {s : Nat} : ∀ {l : List Blk} {j : Nat} {b : Blk}, (∀ b ∈ l, b.length = s) → l[j]? = some b → ((l.flatMap encB).drop (j * s)).take s = encB b
  | [], j, b, _, h => by simp at h
  | y :: l, 0, b, hs, h => by
    simp at h; subst h
    rw [Nat.zero_mul, List.drop_zero, List.flatMap_cons, List.take_append_of_le_length (by simp [encB, hs y]), List.take_of_length_le (by simp [encB, hs y])]
  | y :: l, j + 1, b, hs, h => by
    rw [List.flatMap_cons, dt_right (n := j * s) (by rw [Nat.add_mul]; simp [encB, hs y]; omega)]
    exact dt_blocks (fun b hb => hs b (by simp [hb])) (by simpa using h)
theorem sp_blocks {s : Nat} : ∀ {l : List Blk} {j : Nat} (b : Blk), (∀ b ∈ l, b.length = s) → b.length = s → j < l.length → splice (l.flatMap encB) (j * s) (encB b) = (l.set j b).flatMap encB
  | [], j, b, _, _, h => by simp at h
  | y :: l, 0, b, hs, hb, _ => by
    rw [List.flatMap_cons, Nat.zero_mul, sp_left (by simp [encB, hb, hs y]), List.set_cons_zero, List.flatMap_cons]
    congr 1
    unfold splice; rw [List.drop_eq_nil_of_le (by simp [encB, hb, hs y])]; simp
  | y :: l, j + 1, b, hs, hb, h => by
    rw [List.flatMap_cons, sp_right (n := j * s) (by rw [Nat.add_mul]; simp [encB, hs y]; omega), sp_blocks b (fun b hb => hs b (by simp [hb])) hb (by simpa using h), List.set_cons_succ, List.flatMap_cons]
theorem blocks_len {s : Nat} : ∀ {l : List Blk}, (∀ b ∈ l, b.length = s) → (l.flatMap encB).length = l.length * s
  | [], _ => by simp
  | y :: l, hs => by
    rw [List.flatMap_cons, List.length_append, blocks_len (fun b hb => hs b (by simp [hb]))]
    simp [encB, hs y, Nat.add_mul]; omega
theorem line_block {j : Nat} {b : Blk} (w : L.Wf) (h : L.blocks[j]? = some b) : ((encLine L).drop (33 + j * 64)).take 64 = encB b := by
  have hj := (List.getElem?_eq_some_iff.1 h).1
  rw [encLine, dt_right (n := 32 + j * 64) (by simp; omega), dt_right (n := 16 + j * 64) (by simp [w.kn]; omega), dt_right (n := j * 64) (by simp [w.dt]),
    dt_left (by rw [blocks_len w.bs]; have := w.bl; omega)]
  exact dt_blocks w.bs h
theorem line_first (w : L.Wf) : ((encLine L).drop 1057).take 1 = [.int .u64 L.first] := by
  rw [encLine, dt_right (n := 1056) (by simp), dt_right (n := 1040) (by simp [w.kn]), dt_right (n := 1024) (by simp [w.dt]), dt_right (n := 0) (by rw [blocks_len w.bs, w.bl])]
  rfl
theorem line_set_known {j : Nat} (b : Bool) (h : j < L.known.length) : splice (encLine L) (1 + j) [.bool b] = encLine (L.setK j b) := by
  rw [encLine, sp_right (n := j) (by simp), sp_left (by simp; omega), sp_map _ b h]; rfl
theorem line_set_dirty {j : Nat} (b : Bool) (w : L.Wf) (h : j < L.dirty.length) : splice (encLine L) (17 + j) [.bool b] = encLine (L.setD j b) := by
  rw [encLine, sp_right (n := 16 + j) (by simp; omega), sp_right (n := j) (by simp [w.kn]), sp_left (by simp; omega), sp_map _ b h]; rfl
theorem line_set_block {j : Nat} {b : Blk} (w : L.Wf) (hb : b.length = 64) (h : j < L.blocks.length) : splice (encLine L) (33 + j * 64) (encB b) = encLine (L.setB j b) := by
  rw [encLine, sp_right (n := 32 + j * 64) (by simp; omega), sp_right (n := 16 + j * 64) (by simp [w.kn]; omega), sp_right (n := j * 64) (by simp [w.dt]),
    sp_left (by rw [blocks_len w.bs, encB_len hb]; have := w.bl; omega), sp_blocks b w.bs hb h]; rfl
theorem line_set_first (n : Int) (w : L.Wf) : splice (encLine L) 1057 [.int .u64 n] = encLine (L.setF n) := by
  rw [encLine, sp_right (n := 1056) (by simp), sp_right (n := 1040) (by simp [w.kn]), sp_right (n := 1024) (by simp [w.dt]), sp_right (n := 0) (by rw [blocks_len w.bs, w.bl])]
  rfl
theorem line_set_dirties (l : List Bool) (w : L.Wf) (h : l.length = 16) : splice (encLine L) 17 (l.map .bool) = encLine (L.setDs l) := by
  rw [encLine, sp_right (n := 16) (by simp), sp_right (n := 0) (by simp [w.kn]), sp_left (by simp [w.dt, h])]
  have : splice (L.dirty.map Value.bool) 0 (l.map .bool) = l.map .bool := by
    unfold splice; rw [List.drop_eq_nil_of_le (by simp [w.dt, h])]; simp
  rw [this]; rfl
theorem Wf.setK (w : L.Wf) (j : Nat) (b : Bool) : LineS.Wf (L.setK j b) := ⟨w.m0, w.m16, by simp [LineS.setK, w.kn], w.dt, w.bl, w.bs⟩
theorem Wf.setD (w : L.Wf) (j : Nat) (b : Bool) : LineS.Wf (L.setD j b) := ⟨w.m0, w.m16, w.kn, by simp [LineS.setD, w.dt], w.bl, w.bs⟩
theorem Wf.setB (w : L.Wf) (j : Nat) {b : Blk} (hb : b.length = 64) : LineS.Wf (L.setB j b) :=
  ⟨w.m0, w.m16, w.kn, w.dt, by simp [LineS.setB, w.bl], fun x hx => by rcases List.mem_or_eq_of_mem_set hx with h | h; exact w.bs x h; exact h ▸ hb⟩
theorem Wf.setF (w : L.Wf) (n : Int) : LineS.Wf (L.setF n) := ⟨w.m0, w.m16, w.kn, w.dt, w.bl, w.bs⟩
theorem Wf.setDs (w : L.Wf) {l : List Bool} (h : l.length = 16) : LineS.Wf (L.setDs l) := ⟨w.m0, w.m16, w.kn, h, w.bl, w.bs⟩
theorem asked0 {m : Int} (w : L.Wf) (h : L.asked m = 0) : 0 ≤ m ∧ m < 16 ∧ m < L.members ∧ m.toNat < 16 := by
  unfold LineS.asked at h
  have := w.m16
  split at h
  · cases h
  · split at h
    · cases h
    · omega
end

/-! ### the contracts -/
theorem asked_run (cl : CallF) {H : Heap} {i : Nat} {e : TypeId} {L : LineS} (hg : H.get i = some (.cells e (encLine L))) (m : Int) (k : Nat) :
    s104 cl (.pointer (some ⟨i, 0, some 0⟩)) (.int .i64 m) k H = .ok (.int .i64 (L.asked m)) H := by
  unfold s104 LineS.asked
  simp only [bind_ap, callF_ap, pure_ap, ok_bind, guard_ap, pck_t, pck_f, condV_t, condV_f, nilck_p, fld_p, binP_sn, binP_nn, binP_sn', binP_nn', binI_eql, binI_neq, binI_lss, binI_leq, binI_gtr, binI_geq, binI_add, binI_sub, un_not, mv, new, Nat.zero_add, Nat.add_zero, getH_ap, need_bind, sat_need, sat_ok, alloc_ap, decide_true, decide_false, cond_true, cond_false, Bool.not_true, Bool.not_false, beq_self_eq_true, bf1, bf2, bf3, bf4, Nat.mul_one, ne_eq, not_true_eq_false, not_false_eq_true, if_true, if_false, ld1 hg (line_members L)]
  by_cases h0 : L.members = 0
  · simp only [bind_ap, callF_ap, pure_ap, ok_bind, guard_ap, pck_t, pck_f, condV_t, condV_f, nilck_p, fld_p, binP_sn, binP_nn, binP_sn', binP_nn', binI_eql, binI_neq, binI_lss, binI_leq, binI_gtr, binI_geq, binI_add, binI_sub, un_not, mv, new, Nat.zero_add, Nat.add_zero, getH_ap, need_bind, sat_need, sat_ok, alloc_ap, decide_true, decide_false, cond_true, cond_false, Bool.not_true, Bool.not_false, beq_self_eq_true, bf1, bf2, bf3, bf4, Nat.mul_one, ne_eq, not_true_eq_false, not_false_eq_true, if_true, if_false, h0, if_true]
  · simp only [bind_ap, callF_ap, pure_ap, ok_bind, guard_ap, pck_t, pck_f, condV_t, condV_f, nilck_p, fld_p, binP_sn, binP_nn, binP_sn', binP_nn', binI_eql, binI_neq, binI_lss, binI_leq, binI_gtr, binI_geq, binI_add, binI_sub, un_not, mv, new, Nat.zero_add, Nat.add_zero, getH_ap, need_bind, sat_need, sat_ok, alloc_ap, decide_true, decide_false, cond_true, cond_false, Bool.not_true, Bool.not_false, beq_self_eq_true, bf1, bf2, bf3, bf4, Nat.mul_one, ne_eq, not_true_eq_false, not_false_eq_true, if_true, if_false, h0, if_false]
    by_cases h1 : m < 0
    · simp only [bind_ap, callF_ap, pure_ap, ok_bind, guard_ap, pck_t, pck_f, condV_t, condV_f, nilck_p, fld_p, binP_sn, binP_nn, binP_sn', binP_nn', binI_eql, binI_neq, binI_lss, binI_leq, binI_gtr, binI_geq, binI_add, binI_sub, un_not, mv, new, Nat.zero_add, Nat.add_zero, getH_ap, need_bind, sat_need, sat_ok, alloc_ap, decide_true, decide_false, cond_true, cond_false, Bool.not_true, Bool.not_false, beq_self_eq_true, bf1, bf2, bf3, bf4, Nat.mul_one, ne_eq, not_true_eq_false, not_false_eq_true, if_true, if_false, h1, true_or, if_true]
    · simp only [bind_ap, callF_ap, pure_ap, ok_bind, guard_ap, pck_t, pck_f, condV_t, condV_f, nilck_p, fld_p, binP_sn, binP_nn, binP_sn', binP_nn', binI_eql, binI_neq, binI_lss, binI_leq, binI_gtr, binI_geq, binI_add, binI_sub, un_not, mv, new, Nat.zero_add, Nat.add_zero, getH_ap, need_bind, sat_need, sat_ok, alloc_ap, decide_true, decide_false, cond_true, cond_false, Bool.not_true, Bool.not_false, beq_self_eq_true, bf1, bf2, bf3, bf4, Nat.mul_one, ne_eq, not_true_eq_false, not_false_eq_true, if_true, if_false, h1, false_or, ld1 hg (line_members L)]
      by_cases h2 : L.members ≤ m
      · simp only [bind_ap, callF_ap, pure_ap, ok_bind, guard_ap, pck_t, pck_f, condV_t, condV_f, nilck_p, fld_p, binP_sn, binP_nn, binP_sn', binP_nn', binI_eql, binI_neq, binI_lss, binI_leq, binI_gtr, binI_geq, binI_add, binI_sub, un_not, mv, new, Nat.zero_add, Nat.add_zero, getH_ap, need_bind, sat_need, sat_ok, alloc_ap, decide_true, decide_false, cond_true, cond_false, Bool.not_true, Bool.not_false, beq_self_eq_true, bf1, bf2, bf3, bf4, Nat.mul_one, ne_eq, not_true_eq_false, not_false_eq_true, if_true, if_false, h2, ge_iff_le, if_true]
      · simp only [bind_ap, callF_ap, pure_ap, ok_bind, guard_ap, pck_t, pck_f, condV_t, condV_f, nilck_p, fld_p, binP_sn, binP_nn, binP_sn', binP_nn', binI_eql, binI_neq, binI_lss, binI_leq, binI_gtr, binI_geq, binI_add, binI_sub, un_not, mv, new, Nat.zero_add, Nat.add_zero, getH_ap, need_bind, sat_need, sat_ok, alloc_ap, decide_true, decide_false, cond_true, cond_false, Bool.not_true, Bool.not_false, beq_self_eq_true, bf1, bf2, bf3, bf4, Nat.mul_one, ne_eq, not_true_eq_false, not_false_eq_true, if_true, if_false, h2, ge_iff_le, if_false]
theorem asked_nil (cl : CallF) (m : Int) (k : Nat) (H : Heap) : s104 cl (.pointer none) (.int .i64 m) k H = .ok (.int .i64 1) H := by
  unfold s104
  simp only [bind_ap, callF_ap, pure_ap, ok_bind, guard_ap, pck_t, pck_f, condV_t, condV_f, nilck_p, fld_p, binP_sn, binP_nn, binP_sn', binP_nn', binI_eql, binI_neq, binI_lss, binI_leq, binI_gtr, binI_geq, binI_add, binI_sub, un_not, mv, new, Nat.zero_add, Nat.add_zero, getH_ap, need_bind, sat_need, sat_ok, alloc_ap, decide_true, decide_false, cond_true, cond_false, Bool.not_true, Bool.not_false, beq_self_eq_true, bf1, bf2, bf3, bf4, Nat.mul_one, ne_eq, not_true_eq_false, not_false_eq_true, if_true, if_false]
theorem asked_func {H : Heap} {i : Nat} {e : TypeId} {L : LineS} (hg : H.get i = some (.cells e (encLine L))) (m : Int) (n : Nat) :
    func Tryz.prog noX ann (n + 1) 104 [.pointer (some ⟨i, 0, some 0⟩), .int .i64 m] H = .ok (.int .i64 (L.asked m)) H := by
  rw [d104 rfl, asked_run _ hg]

theorem asked_funcN (m : Int) (n : Nat) (H : Heap) : func Tryz.prog noX ann (n + 1) 104 [.pointer none, .int .i64 m] H = .ok (.int .i64 1) H := by
  rw [d104 rfl, asked_nil]
theorem lay_line {L : LineS} {l : List Ob} (h : Lay (.line L) l) : l = [.cells 156 (encLine L)] ∧ L.Wf := h
theorem line_lay {L : LineS} (w : L.Wf) : Lay (.line L) [.cells 156 (encLine L)] := ⟨rfl, w⟩
/-- a contract over a line: what is answered of none; of one -/
def onLine (p : Value) (nil : Value) (f : LineS → LineS × Value) : M Value := fun _ H => match dLine p H with
  | some none => .ok nil H
  | some (some (i, L)) => .ok (f L).2 (H.set i (.ghost (.line (f L).1)))
  | none => .fail
def mLineSet (args : List Value) : M Value := fun k H => match args with
  | [p, m, b, s] => (match dI .i64 m, dBlk b, dI .u64 s with
    | some m, some b, some s => onLine p (.int .i64 1) (fun L => ((L.set m b s).1, .int .i64 (L.set m b s).2)) k H
    | _, _, _ => .fail)
  | _ => .fail
/-- a question to a line -/
def askLine (p : Value) (nil : Value) (f : LineS → Value) : M Value := fun _ H => match dLine p H with
  | some none => .ok nil H
  | some (some (_, L)) => .ok (f L) H
  | none => .fail
theorem set_get_self {H : Heap} {i : Nat} {o : Ob} : (H.set i o).next = H.next := rfl

theorem line_set_ok : ExtOk Tryz.prog 44 mLineSet := by
  refine ext_any fol namesP noX_ok (A := ann) (n := 3) fun args k H Q E hf hm => ?_
  unfold mLineSet at hm
  split at hm
  · rename_i p m b s
    split at hm
    · rename_i m' b' seq h1 h2 h3
      obtain rfl := dI_eq h1
      obtain ⟨rfl, hlen⟩ := dBlk_eq h2
      obtain rfl := dI_eq h3
      clear h1 h2 h3
      unfold onLine at hm
      split at hm
      · rename_i h1
        obtain rfl := dLine_none h1
        left
        rw [d44 rfl]
        unfold s44
        simp only [bind_ap, callF_ap, pure_ap, ok_bind, guard_ap, pck_t, pck_f, condV_t, condV_f, nilck_p, fld_p, binP_sn, binP_nn, binP_sn', binP_nn', binI_eql, binI_neq, binI_lss, binI_leq, binI_gtr, binI_geq, binI_add, binI_sub, un_not, mv, new, Nat.zero_add, Nat.add_zero, getH_ap, need_bind, sat_need, sat_ok, alloc_ap, decide_true, decide_false, cond_true, cond_false, Bool.not_true, Bool.not_false, beq_self_eq_true, bf1, bf2, bf3, bf4, Nat.mul_one, ne_eq, not_true_eq_false, not_false_eq_true, if_true, if_false, box_ap _ (.agg ⟨_⟩) rfl, asked_funcN, show ¬ ((1 : Int) = 0) by decide, ne_eq, not_false_eq_true]
        exact Done.same hf (by simp) (fun j hj => get_push_old hj) rfl hm
      · rename_i i L h1
        obtain ⟨rfl, hg⟩ := dLine_some h1
        right
        refine ⟨i, .line L, hg, fun l H1 hlay _ ho => ?_⟩
        have w := (lay_line hlay).2
        have e0 := (lay_line hlay).1
        subst e0
        have g1 := ho.one (flat_encLine L)
        have hne : i < H1.next := by have := ho.lt; have := ho.next; omega
        rw [d44 rfl]
        unfold s44
        have g2 : (H1.push (.cells 57 (encB b'))).get i = some (.cells 156 (encLine L)) := by rw [get_push_old hne]; exact g1
        simp only [bind_ap, callF_ap, pure_ap, ok_bind, guard_ap, pck_t, pck_f, condV_t, condV_f, nilck_p, fld_p, binP_sn, binP_nn, binP_sn', binP_nn', binI_eql, binI_neq, binI_lss, binI_leq, binI_gtr, binI_geq, binI_add, binI_sub, un_not, mv, new, Nat.zero_add, Nat.add_zero, getH_ap, need_bind, sat_need, sat_ok, alloc_ap, decide_true, decide_false, cond_true, cond_false, Bool.not_true, Bool.not_false, beq_self_eq_true, bf1, bf2, bf3, bf4, Nat.mul_one, ne_eq, not_true_eq_false, not_false_eq_true, if_true, if_false, box_ap _ (.agg ⟨_⟩) rfl, vlist, asked_func g2]
        unfold LineS.set at hm
        by_cases ha : L.asked m' = 0
        · obtain ⟨p0, p1, p2, p3⟩ := asked0 w ha
          simp only [bind_ap, callF_ap, pure_ap, ok_bind, guard_ap, pck_t, pck_f, condV_t, condV_f, nilck_p, fld_p, binP_sn, binP_nn, binP_sn', binP_nn', binI_eql, binI_neq, binI_lss, binI_leq, binI_gtr, binI_geq, binI_add, binI_sub, un_not, mv, new, Nat.zero_add, Nat.add_zero, getH_ap, need_bind, sat_need, sat_ok, alloc_ap, decide_true, decide_false, cond_true, cond_false, Bool.not_true, Bool.not_false, beq_self_eq_true, bf1, bf2, bf3, bf4, Nat.mul_one, ne_eq, not_true_eq_false, not_false_eq_true, if_true, if_false, ha] at hm ⊢
          by_cases hq : seq = 0
          · simp only [bind_ap, callF_ap, pure_ap, ok_bind, guard_ap, pck_t, pck_f, condV_t, condV_f, nilck_p, fld_p, binP_sn, binP_nn, binP_sn', binP_nn', binI_eql, binI_neq, binI_lss, binI_leq, binI_gtr, binI_geq, binI_add, binI_sub, un_not, mv, new, Nat.zero_add, Nat.add_zero, getH_ap, need_bind, sat_need, sat_ok, alloc_ap, decide_true, decide_false, cond_true, cond_false, Bool.not_true, Bool.not_false, beq_self_eq_true, bf1, bf2, bf3, bf4, Nat.mul_one, ne_eq, not_true_eq_false, not_false_eq_true, if_true, if_false, hq] at hm ⊢
            exact Done.upd1 hf hg (Upd.set ..) ho (by simp) (flat_encLine _) (line_lay w) g2 (fun j h _ => get_push_old h) (born_head ..) rfl hm
          · have hlb : ∀ (H' : Heap), H'.get H1.next = some (.cells 57 (encB b')) → ∀ k, ld true 64 (.pointer (some ⟨H1.next, 0, some 0⟩)) k H' = .ok (.agg ⟨encB b'⟩) H' := fun H' h k =>
              ldA h (by rw [encB_len hlen]; exact Nat.le_refl _) (by rw [List.drop_zero, List.take_of_length_le (by rw [encB_len hlen]; exact Nat.le_refl _)]) k
            generalize hH2 : H1.push (.cells 57 (encB b')) = H2 at g2
            have x2 : H2.get H1.next = some (.cells 57 (encB b')) := by rw [← hH2]; exact get_push_new
            have hx : H1.next ≠ i := by omega
            have s1 := st_to (n := 1) (off := 1 + m'.toNat) (x := .bool true) g2 rfl (by rw [encLine_len w]; omega) rfl (line_set_known true (by rw [w.kn]; omega))
            have w1 := Wf.setK w m'.toNat true
            generalize hH3 : H2.set i (.cells 156 (encLine _)) = H3 at s1
            have x3 : H3.get H1.next = some (.cells 57 (encB b')) := by rw [← hH3, get_set_other hx]; exact x2
            have g3 := (congrArg (fun H => Heap.get H i) hH3).symm.trans get_set_same
            have s2 := st_to (n := 1) (off := 17 + m'.toNat) (x := .bool true) g3 rfl (by rw [encLine_len w1]; omega) rfl (line_set_dirty true w1 (by rw [w1.dt]; omega))
            have w2 := Wf.setD w1 m'.toNat true
            generalize hH4 : H3.set i (.cells 156 (encLine _)) = H4 at s2
            have x4 : H4.get H1.next = some (.cells 57 (encB b')) := by rw [← hH4, get_set_other hx]; exact x3
            have g4 := (congrArg (fun H => Heap.get H i) hH4).symm.trans get_set_same
            have s3 := st_to (n := 64) (off := 33 + m'.toNat * 64) (x := .agg ⟨encB b'⟩) g4 (encB_len hlen) (by rw [encLine_len w2]; omega) (encB_scalar _) (line_set_block w2 hlen (by rw [w2.bl]; omega))
            have w3 := Wf.setB w2 m'.toNat hlen
            generalize hH5 : H4.set i (.cells 156 (encLine _)) = H5 at s3
            have g5 := (congrArg (fun H => Heap.get H i) hH5).symm.trans get_set_same
            have hold : ∀ j, j < H1.next → j ≠ i → H5.get j = H1.get j := fun j h h' => by
              rw [← hH5, get_set_other h', ← hH4, get_set_other h', ← hH3, get_set_other h', ← hH2, get_push_old h]
            have hnx : H1.next ≤ H5.next := by rw [← hH5, ← hH4, ← hH3, ← hH2]; simp
            simp only [bind_ap, callF_ap, pure_ap, ok_bind, guard_ap, pck_t, pck_f, condV_t, condV_f, nilck_p, fld_p, binP_sn, binP_nn, binP_sn', binP_nn', binI_eql, binI_neq, binI_lss, binI_leq, binI_gtr, binI_geq, binI_add, binI_sub, un_not, mv, new, Nat.zero_add, Nat.add_zero, getH_ap, need_bind, sat_need, sat_ok, alloc_ap, decide_true, decide_false, cond_true, cond_false, Bool.not_true, Bool.not_false, beq_self_eq_true, bf1, bf2, bf3, bf4, Nat.mul_one, ne_eq, not_true_eq_false, not_false_eq_true, if_true, if_false, hq, hlb H2 x2, idxP_p _ _ _ _ m' p0 p1, s1, s2, s3, chk_ld (hlb H3 x3 _) (eqV_blk _), chk_ld (hlb H4 x4 _) (eqV_blk _), ld1 g5 (line_first w3)] at hm ⊢
            by_cases hz : L.first = 0
            · simp only [bind_ap, callF_ap, pure_ap, ok_bind, guard_ap, pck_t, pck_f, condV_t, condV_f, nilck_p, fld_p, binP_sn, binP_nn, binP_sn', binP_nn', binI_eql, binI_neq, binI_lss, binI_leq, binI_gtr, binI_geq, binI_add, binI_sub, un_not, mv, new, Nat.zero_add, Nat.add_zero, getH_ap, need_bind, sat_need, sat_ok, alloc_ap, decide_true, decide_false, cond_true, cond_false, Bool.not_true, Bool.not_false, beq_self_eq_true, bf1, bf2, bf3, bf4, Nat.mul_one, ne_eq, not_true_eq_false, not_false_eq_true, if_true, if_false, hz, show (((L.setK m'.toNat true).setD m'.toNat true).setB m'.toNat b').first = L.first from rfl, true_or] at hm ⊢
              have s4 := st_to (n := 1) (off := 1057) (x := .int .u64 seq) g5 rfl (by rw [encLine_len w3]; exact Nat.le_refl _) rfl (line_set_first seq w3)
              simp only [bind_ap, callF_ap, pure_ap, ok_bind, guard_ap, pck_t, pck_f, condV_t, condV_f, nilck_p, fld_p, binP_sn, binP_nn, binP_sn', binP_nn', binI_eql, binI_neq, binI_lss, binI_leq, binI_gtr, binI_geq, binI_add, binI_sub, un_not, mv, new, Nat.zero_add, Nat.add_zero, getH_ap, need_bind, sat_need, sat_ok, alloc_ap, decide_true, decide_false, cond_true, cond_false, Bool.not_true, Bool.not_false, beq_self_eq_true, bf1, bf2, bf3, bf4, Nat.mul_one, ne_eq, not_true_eq_false, not_false_eq_true, if_true, if_false, s4]
              exact Done.upd1 hf hg (Upd.set ..) ho hnx (flat_encLine _) (line_lay (Wf.setF w3 seq)) get_set_same (fun j h h' => by rw [get_set_other h']; exact hold j h h') (born_head ..) rfl hm
            · simp only [bind_ap, callF_ap, pure_ap, ok_bind, guard_ap, pck_t, pck_f, condV_t, condV_f, nilck_p, fld_p, binP_sn, binP_nn, binP_sn', binP_nn', binI_eql, binI_neq, binI_lss, binI_leq, binI_gtr, binI_geq, binI_add, binI_sub, un_not, mv, new, Nat.zero_add, Nat.add_zero, getH_ap, need_bind, sat_need, sat_ok, alloc_ap, decide_true, decide_false, cond_true, cond_false, Bool.not_true, Bool.not_false, beq_self_eq_true, bf1, bf2, bf3, bf4, Nat.mul_one, ne_eq, not_true_eq_false, not_false_eq_true, if_true, if_false, hz, show (((L.setK m'.toNat true).setD m'.toNat true).setB m'.toNat b').first = L.first from rfl, false_or, ld1 g5 (line_first w3)] at hm ⊢
              by_cases hl : seq < L.first
              · simp only [bind_ap, callF_ap, pure_ap, ok_bind, guard_ap, pck_t, pck_f, condV_t, condV_f, nilck_p, fld_p, binP_sn, binP_nn, binP_sn', binP_nn', binI_eql, binI_neq, binI_lss, binI_leq, binI_gtr, binI_geq, binI_add, binI_sub, un_not, mv, new, Nat.zero_add, Nat.add_zero, getH_ap, need_bind, sat_need, sat_ok, alloc_ap, decide_true, decide_false, cond_true, cond_false, Bool.not_true, Bool.not_false, beq_self_eq_true, bf1, bf2, bf3, bf4, Nat.mul_one, ne_eq, not_true_eq_false, not_false_eq_true, if_true, if_false, hl] at hm ⊢
                have s4 := st_to (n := 1) (off := 1057) (x := .int .u64 seq) g5 rfl (by rw [encLine_len w3]; exact Nat.le_refl _) rfl (line_set_first seq w3)
                simp only [bind_ap, callF_ap, pure_ap, ok_bind, guard_ap, pck_t, pck_f, condV_t, condV_f, nilck_p, fld_p, binP_sn, binP_nn, binP_sn', binP_nn', binI_eql, binI_neq, binI_lss, binI_leq, binI_gtr, binI_geq, binI_add, binI_sub, un_not, mv, new, Nat.zero_add, Nat.add_zero, getH_ap, need_bind, sat_need, sat_ok, alloc_ap, decide_true, decide_false, cond_true, cond_false, Bool.not_true, Bool.not_false, beq_self_eq_true, bf1, bf2, bf3, bf4, Nat.mul_one, ne_eq, not_true_eq_false, not_false_eq_true, if_true, if_false, s4]
                exact Done.upd1 hf hg (Upd.set ..) ho hnx (flat_encLine _) (line_lay (Wf.setF w3 seq)) get_set_same (fun j h h' => by rw [get_set_other h']; exact hold j h h') (born_head ..) rfl hm
              · simp only [bind_ap, callF_ap, pure_ap, ok_bind, guard_ap, pck_t, pck_f, condV_t, condV_f, nilck_p, fld_p, binP_sn, binP_nn, binP_sn', binP_nn', binI_eql, binI_neq, binI_lss, binI_leq, binI_gtr, binI_geq, binI_add, binI_sub, un_not, mv, new, Nat.zero_add, Nat.add_zero, getH_ap, need_bind, sat_need, sat_ok, alloc_ap, decide_true, decide_false, cond_true, cond_false, Bool.not_true, Bool.not_false, beq_self_eq_true, bf1, bf2, bf3, bf4, Nat.mul_one, ne_eq, not_true_eq_false, not_false_eq_true, if_true, if_false, hl] at hm ⊢
                exact Done.upd1 hf hg (Upd.set ..) ho hnx (flat_encLine _) (line_lay w3) g5 hold (born_head ..) rfl hm
        · simp only [bind_ap, callF_ap, pure_ap, ok_bind, guard_ap, pck_t, pck_f, condV_t, condV_f, nilck_p, fld_p, binP_sn, binP_nn, binP_sn', binP_nn', binI_eql, binI_neq, binI_lss, binI_leq, binI_gtr, binI_geq, binI_add, binI_sub, un_not, mv, new, Nat.zero_add, Nat.add_zero, getH_ap, need_bind, sat_need, sat_ok, alloc_ap, decide_true, decide_false, cond_true, cond_false, Bool.not_true, Bool.not_false, beq_self_eq_true, bf1, bf2, bf3, bf4, Nat.mul_one, ne_eq, not_true_eq_false, not_false_eq_true, if_true, if_false, ha] at hm ⊢
          exact Done.upd1 hf hg (Upd.set ..) ho (by simp) (flat_encLine _) (line_lay w) g2 (fun j h _ => get_push_old h) (born_head ..) rfl hm
      · exact hm.elim
    · exact hm.elim
  · exact hm.elim

/-! ### Get, First, Clean, Forget, Learn, New -/
theorem getD_of {α : Type} {l : List α} {j : Nat} {d : α} (h : j < l.length) : l[j]? = some (l.getD j d) := by
  rw [List.getD_eq_getElem?_getD, List.getElem?_eq_getElem h]; rfl
theorem known_at {L : LineS} (w : L.Wf) {m : Int} (h : m.toNat < 16) : L.known[m.toNat]? = some (L.isKnown m) := getD_of (by rw [w.kn]; exact h)
theorem dirty_at {L : LineS} (w : L.Wf) {m : Int} (h : m.toNat < 16) : L.dirty[m.toNat]? = some (L.isDirty m) := getD_of (by rw [w.dt]; exact h)
theorem block_at {L : LineS} (w : L.Wf) {m : Int} (h : m.toNat < 16) : L.blocks[m.toNat]? = some (L.block m) := getD_of (by rw [w.bl]; exact h)
theorem block_len {L : LineS} (w : L.Wf) (m : Int) : (L.block m).length = 64 := by
  unfold LineS.block
  by_cases h : m.toNat < L.blocks.length
  · exact w.bs _ (List.mem_of_getElem? (getD_of h))
  · rw [List.getD_eq_getElem?_getD, List.getElem?_eq_none (by omega)]; rfl
theorem zeroB_len : zeroB.length = 64 := rfl

def mLineGet (args : List Value) : M Value := fun k H => match args with
  | [p, m] => (match dI .i64 m with
    | some m => askLine p (.tuple ⟨[.agg ⟨encB zeroB⟩, .bool false]⟩) (fun L => .tuple ⟨[.agg ⟨encB (L.get m).1⟩, .bool (L.get m).2]⟩) k H
    | _ => .fail)
  | _ => .fail
theorem line_get_ok : ExtOk Tryz.prog 51 mLineGet := by
  refine ext_any fol namesP noX_ok (A := ann) (n := 3) fun args k H Q E hf hm => ?_
  unfold mLineGet at hm
  split at hm
  · rename_i p m
    split at hm
    · rename_i m' h1
      obtain rfl := dI_eq h1
      clear h1
      unfold askLine at hm
      split at hm
      · rename_i h1
        obtain rfl := dLine_none h1
        left
        rw [d51 rfl]
        unfold s51
        rw [encB_zero]
        have x2 : (H.push (.cells 57 (encB zeroB))).get H.next = some (.cells 57 (encB zeroB)) := get_push_new
        simp only [bind_ap, callF_ap, pure_ap, ok_bind, guard_ap, pck_t, pck_f, condV_t, condV_f, nilck_p, fld_p, binP_sn, binP_nn, binP_sn', binP_nn', binI_eql, binI_neq, binI_lss, binI_leq, binI_gtr, binI_geq, binI_add, binI_sub, un_not, mv, new, Nat.zero_add, Nat.add_zero, getH_ap, need_bind, sat_need, sat_ok, alloc_ap, decide_true, decide_false, cond_true, cond_false, Bool.not_true, Bool.not_false, beq_self_eq_true, bf1, bf2, bf3, bf4, Nat.mul_one, ne_eq, not_true_eq_false, not_false_eq_true, if_true, if_false, asked_funcN, show ¬ ((1 : Int) = 0) by decide, bld_nil, stB x2 zeroB_len zeroB_len, ldB get_set_same zeroB_len]
        exact Done.same hf (by simp) (fun j hj => by rw [get_set_other (by omega), get_push_old hj]) (flat_tup2 _ _ rfl) hm
      · rename_i i L h1
        obtain ⟨rfl, hg⟩ := dLine_some h1
        right
        refine ⟨i, .line L, hg, fun l H1 hlay _ ho => ?_⟩
        have w := (lay_line hlay).2
        have e0 := (lay_line hlay).1
        subst e0
        have c1 := Cur.refl (ho.one (flat_encLine L)) (by have := ho.lt; have := ho.next; omega)
        have c2 := c1.push (.cells 57 (encB zeroB))
        have x2 : (H1.push (.cells 57 (encB zeroB))).get H1.next = some (.cells 57 (encB zeroB)) := get_push_new
        rw [d51 rfl]
        unfold s51
        rw [encB_zero]
        simp only [bind_ap, callF_ap, pure_ap, ok_bind, guard_ap, pck_t, pck_f, condV_t, condV_f, nilck_p, fld_p, binP_sn, binP_nn, binP_sn', binP_nn', binI_eql, binI_neq, binI_lss, binI_leq, binI_gtr, binI_geq, binI_add, binI_sub, un_not, mv, new, Nat.zero_add, Nat.add_zero, getH_ap, need_bind, sat_need, sat_ok, alloc_ap, decide_true, decide_false, cond_true, cond_false, Bool.not_true, Bool.not_false, beq_self_eq_true, bf1, bf2, bf3, bf4, Nat.mul_one, ne_eq, not_true_eq_false, not_false_eq_true, if_true, if_false, asked_func c2.get]
        unfold LineS.get at hm
        by_cases ha : L.asked m' = 0
        · obtain ⟨p0, p1, p2, p3⟩ := asked0 w ha
          have hk := ld1 c2.get (line_known (known_at w p3))
          cases hkn : L.isKnown m' with
          | false =>
            rw [hkn] at hk
            simp only [bind_ap, callF_ap, pure_ap, ok_bind, guard_ap, pck_t, pck_f, condV_t, condV_f, nilck_p, fld_p, binP_sn, binP_nn, binP_sn', binP_nn', binI_eql, binI_neq, binI_lss, binI_leq, binI_gtr, binI_geq, binI_add, binI_sub, un_not, mv, new, Nat.zero_add, Nat.add_zero, getH_ap, need_bind, sat_need, sat_ok, alloc_ap, decide_true, decide_false, cond_true, cond_false, Bool.not_true, Bool.not_false, beq_self_eq_true, bf1, bf2, bf3, bf4, Nat.mul_one, ne_eq, not_true_eq_false, not_false_eq_true, if_true, if_false, ha, hkn, idxP_p _ _ _ _ m' p0 p1, hk, bld_nil, stB x2 zeroB_len zeroB_len, ldB get_set_same zeroB_len, Bool.false_eq_true, and_false] at hm ⊢
            exact (c2.other (Nat.le_refl _) _).done hf hg ho (flat_encLine _) (line_lay w) (Upd.self hg) (born_head ..) (flat_tup2 _ _ rfl) hm
          | true =>
            rw [hkn] at hk
            have hb := ldA c2.get (off := 33 + m'.toNat * 64) (n := 64) (by rw [encLine_len w]; omega) (line_block w (block_at w p3))
            simp only [bind_ap, callF_ap, pure_ap, ok_bind, guard_ap, pck_t, pck_f, condV_t, condV_f, nilck_p, fld_p, binP_sn, binP_nn, binP_sn', binP_nn', binI_eql, binI_neq, binI_lss, binI_leq, binI_gtr, binI_geq, binI_add, binI_sub, un_not, mv, new, Nat.zero_add, Nat.add_zero, getH_ap, need_bind, sat_need, sat_ok, alloc_ap, decide_true, decide_false, cond_true, cond_false, Bool.not_true, Bool.not_false, beq_self_eq_true, bf1, bf2, bf3, bf4, Nat.mul_one, ne_eq, not_true_eq_false, not_false_eq_true, if_true, if_false, ha, hkn, idxP_p _ _ _ _ m' p0 p1, hk, hb, stB x2 zeroB_len (block_len w m'), ldB get_set_same (block_len w m'), and_self] at hm ⊢
            exact (c2.other (Nat.le_refl _) _).done hf hg ho (flat_encLine _) (line_lay w) (Upd.self hg) (born_head ..) (flat_tup2 _ _ rfl) hm
        · simp only [bind_ap, callF_ap, pure_ap, ok_bind, guard_ap, pck_t, pck_f, condV_t, condV_f, nilck_p, fld_p, binP_sn, binP_nn, binP_sn', binP_nn', binI_eql, binI_neq, binI_lss, binI_leq, binI_gtr, binI_geq, binI_add, binI_sub, un_not, mv, new, Nat.zero_add, Nat.add_zero, getH_ap, need_bind, sat_need, sat_ok, alloc_ap, decide_true, decide_false, cond_true, cond_false, Bool.not_true, Bool.not_false, beq_self_eq_true, bf1, bf2, bf3, bf4, Nat.mul_one, ne_eq, not_true_eq_false, not_false_eq_true, if_true, if_false, ha, false_and, bld_nil, stB x2 zeroB_len zeroB_len, ldB get_set_same zeroB_len] at hm ⊢
          exact (c2.other (Nat.le_refl _) _).done hf hg ho (flat_encLine _) (line_lay w) (Upd.self hg) (born_head ..) (flat_tup2 _ _ rfl) hm
      · exact hm.elim
    · exact hm.elim
  · exact hm.elim

def mLineFirst (args : List Value) : M Value := fun k H => match args with
  | [p] => askLine p (.int .u64 0) (fun L => .int .u64 L.first) k H
  | _ => .fail
theorem line_first_ok : ExtOk Tryz.prog 61 mLineFirst := by
  refine ext_any fol namesP noX_ok (A := ann) (n := 3) fun args k H Q E hf hm => ?_
  unfold mLineFirst at hm
  split at hm
  · rename_i p
    unfold askLine at hm
    split at hm
    · rename_i h1
      obtain rfl := dLine_none h1
      left
      rw [d61 rfl]
      unfold s61
      simp only [bind_ap, callF_ap, pure_ap, ok_bind, guard_ap, pck_t, pck_f, condV_t, condV_f, nilck_p, fld_p, binP_sn, binP_nn, binP_sn', binP_nn', binI_eql, binI_neq, binI_lss, binI_leq, binI_gtr, binI_geq, binI_add, binI_sub, un_not, mv, new, Nat.zero_add, Nat.add_zero, getH_ap, need_bind, sat_need, sat_ok, alloc_ap, decide_true, decide_false, cond_true, cond_false, Bool.not_true, Bool.not_false, beq_self_eq_true, bf1, bf2, bf3, bf4, Nat.mul_one, ne_eq, not_true_eq_false, not_false_eq_true, if_true, if_false]
      exact Done.same hf (Nat.le_refl _) (fun j hj => rfl) rfl hm
    · rename_i i L h1
      obtain ⟨rfl, hg⟩ := dLine_some h1
      right
      refine ⟨i, .line L, hg, fun l H1 hlay _ ho => ?_⟩
      have w := (lay_line hlay).2
      have e0 := (lay_line hlay).1
      subst e0
      have c1 := Cur.refl (ho.one (flat_encLine L)) (by have := ho.lt; have := ho.next; omega)
      rw [d61 rfl]
      unfold s61
      simp only [bind_ap, callF_ap, pure_ap, ok_bind, guard_ap, pck_t, pck_f, condV_t, condV_f, nilck_p, fld_p, binP_sn, binP_nn, binP_sn', binP_nn', binI_eql, binI_neq, binI_lss, binI_leq, binI_gtr, binI_geq, binI_add, binI_sub, un_not, mv, new, Nat.zero_add, Nat.add_zero, getH_ap, need_bind, sat_need, sat_ok, alloc_ap, decide_true, decide_false, cond_true, cond_false, Bool.not_true, Bool.not_false, beq_self_eq_true, bf1, bf2, bf3, bf4, Nat.mul_one, ne_eq, not_true_eq_false, not_false_eq_true, if_true, if_false, ld1 c1.get (line_first w)]
      exact c1.done hf hg ho (flat_encLine _) (line_lay w) (Upd.self hg) (born_head ..) rfl hm
    · exact hm.elim
  · exact hm.elim

def mLineClean (args : List Value) : M Value := fun k H => match args with
  | [p] => onLine p (.int .i64 1) (fun L => (L.clean.1, .int .i64 L.clean.2)) k H
  | _ => .fail
theorem line_clean_ok : ExtOk Tryz.prog 59 mLineClean := by
  refine ext_any fol namesP noX_ok (A := ann) (n := 3) fun args k H Q E hf hm => ?_
  unfold mLineClean at hm
  split at hm
  · rename_i p
    unfold onLine at hm
    split at hm
    · rename_i h1
      obtain rfl := dLine_none h1
      left
      rw [d59 rfl]
      unfold s59
      simp only [bind_ap, callF_ap, pure_ap, ok_bind, guard_ap, pck_t, pck_f, condV_t, condV_f, nilck_p, fld_p, binP_sn, binP_nn, binP_sn', binP_nn', binI_eql, binI_neq, binI_lss, binI_leq, binI_gtr, binI_geq, binI_add, binI_sub, un_not, mv, new, Nat.zero_add, Nat.add_zero, getH_ap, need_bind, sat_need, sat_ok, alloc_ap, decide_true, decide_false, cond_true, cond_false, Bool.not_true, Bool.not_false, beq_self_eq_true, bf1, bf2, bf3, bf4, Nat.mul_one, ne_eq, not_true_eq_false, not_false_eq_true, if_true, if_false]
      exact Done.same hf (Nat.le_refl _) (fun j hj => rfl) rfl hm
    · rename_i i L h1
      obtain ⟨rfl, hg⟩ := dLine_some h1
      right
      refine ⟨i, .line L, hg, fun l H1 hlay _ ho => ?_⟩
      have w := (lay_line hlay).2
      have e0 := (lay_line hlay).1
      subst e0
      have c1 := Cur.refl (ho.one (flat_encLine L)) (by have := ho.lt; have := ho.next; omega)
      rw [d59 rfl]
      unfold s59
      unfold LineS.clean at hm
      by_cases h0 : L.members = 0
      · simp only [bind_ap, callF_ap, pure_ap, ok_bind, guard_ap, pck_t, pck_f, condV_t, condV_f, nilck_p, fld_p, binP_sn, binP_nn, binP_sn', binP_nn', binI_eql, binI_neq, binI_lss, binI_leq, binI_gtr, binI_geq, binI_add, binI_sub, un_not, mv, new, Nat.zero_add, Nat.add_zero, getH_ap, need_bind, sat_need, sat_ok, alloc_ap, decide_true, decide_false, cond_true, cond_false, Bool.not_true, Bool.not_false, beq_self_eq_true, bf1, bf2, bf3, bf4, Nat.mul_one, ne_eq, not_true_eq_false, not_false_eq_true, if_true, if_false, ld1 c1.get (line_members L), h0] at hm ⊢
        exact c1.done hf hg ho (flat_encLine _) (line_lay w) (Upd.set ..) (born_head ..) rfl hm
      · have w2 := Wf.setDs w (l := List.replicate 16 false) rfl
        obtain ⟨H3, s3, c3, _, _⟩ := c1.st (n := 16) (off := 17) (x := .agg ⟨List.replicate 16 (.bool false)⟩) rfl (by rw [encLine_len w]; omega) rfl (line_set_dirties (List.replicate 16 false) w rfl)
        obtain ⟨H4, s4, c4, _, _⟩ := c3.st (n := 1) (off := 1057) (x := .int .u64 0) rfl (by rw [encLine_len w2]; exact Nat.le_refl _) rfl (line_set_first 0 w2)
        simp only [bind_ap, callF_ap, pure_ap, ok_bind, guard_ap, pck_t, pck_f, condV_t, condV_f, nilck_p, fld_p, binP_sn, binP_nn, binP_sn', binP_nn', binI_eql, binI_neq, binI_lss, binI_leq, binI_gtr, binI_geq, binI_add, binI_sub, un_not, mv, new, Nat.zero_add, Nat.add_zero, getH_ap, need_bind, sat_need, sat_ok, alloc_ap, decide_true, decide_false, cond_true, cond_false, Bool.not_true, Bool.not_false, beq_self_eq_true, bf1, bf2, bf3, bf4, Nat.mul_one, ne_eq, not_true_eq_false, not_false_eq_true, if_true, if_false, ld1 c1.get (line_members L), h0, bld_nil, s3, s4] at hm ⊢
        exact c4.done hf hg ho (flat_encLine _) (line_lay (Wf.setF w2 0)) (Upd.set ..) (born_head ..) rfl hm
    · exact hm.elim
  · exact hm.elim

def mLineForget (args : List Value) : M Value := fun k H => match args with
  | [p, m] => (match dI .i64 m with
    | some m => onLine p (.int .i64 1) (fun L => ((L.forget m).1, .int .i64 (L.forget m).2)) k H
    | _ => .fail)
  | _ => .fail
theorem line_forget_ok : ExtOk Tryz.prog 46 mLineForget := by
  refine ext_any fol namesP noX_ok (A := ann) (n := 3) fun args k H Q E hf hm => ?_
  unfold mLineForget at hm
  split at hm
  · rename_i p m
    split at hm
    · rename_i m' h1
      obtain rfl := dI_eq h1
      clear h1
      unfold onLine at hm
      split at hm
      · rename_i h1
        obtain rfl := dLine_none h1
        left
        rw [d46 rfl]
        unfold s46
        simp only [bind_ap, callF_ap, pure_ap, ok_bind, guard_ap, pck_t, pck_f, condV_t, condV_f, nilck_p, fld_p, binP_sn, binP_nn, binP_sn', binP_nn', binI_eql, binI_neq, binI_lss, binI_leq, binI_gtr, binI_geq, binI_add, binI_sub, un_not, mv, new, Nat.zero_add, Nat.add_zero, getH_ap, need_bind, sat_need, sat_ok, alloc_ap, decide_true, decide_false, cond_true, cond_false, Bool.not_true, Bool.not_false, beq_self_eq_true, bf1, bf2, bf3, bf4, Nat.mul_one, ne_eq, not_true_eq_false, not_false_eq_true, if_true, if_false, asked_funcN, show ¬ ((1 : Int) = 0) by decide]
        exact Done.same hf (Nat.le_refl _) (fun j hj => rfl) rfl hm
      · rename_i i L h1
        obtain ⟨rfl, hg⟩ := dLine_some h1
        right
        refine ⟨i, .line L, hg, fun l H1 hlay _ ho => ?_⟩
        have w := (lay_line hlay).2
        have e0 := (lay_line hlay).1
        subst e0
        have c1 := Cur.refl (ho.one (flat_encLine L)) (by have := ho.lt; have := ho.next; omega)
        rw [d46 rfl]
        unfold s46
        rw [encB_zero]
        simp only [bind_ap, callF_ap, pure_ap, ok_bind, guard_ap, pck_t, pck_f, condV_t, condV_f, nilck_p, fld_p, binP_sn, binP_nn, binP_sn', binP_nn', binI_eql, binI_neq, binI_lss, binI_leq, binI_gtr, binI_geq, binI_add, binI_sub, un_not, mv, new, Nat.zero_add, Nat.add_zero, getH_ap, need_bind, sat_need, sat_ok, alloc_ap, decide_true, decide_false, cond_true, cond_false, Bool.not_true, Bool.not_false, beq_self_eq_true, bf1, bf2, bf3, bf4, Nat.mul_one, ne_eq, not_true_eq_false, not_false_eq_true, if_true, if_false, asked_func c1.get]
        unfold LineS.forget at hm
        by_cases ha : L.asked m' = 0
        · obtain ⟨p0, p1, p2, p3⟩ := asked0 w ha
          have w2 := Wf.setK w m'.toNat false
          have w3 := Wf.setD w2 m'.toNat false
          obtain ⟨H2, s2, c2, _, _⟩ := c1.st (n := 1) (off := 1 + m'.toNat) (x := .bool false) rfl (by rw [encLine_len w]; omega) rfl (line_set_known false (by rw [w.kn]; omega))
          obtain ⟨H3, s3, c3, _, _⟩ := c2.st (n := 1) (off := 17 + m'.toNat) (x := .bool false) rfl (by rw [encLine_len w2]; omega) rfl (line_set_dirty false w2 (by rw [w2.dt]; omega))
          obtain ⟨H4, s4, c4, _, _⟩ := c3.st (n := 64) (off := 33 + m'.toNat * 64) (x := .agg ⟨encB zeroB⟩) (encB_len zeroB_len) (by rw [encLine_len w3]; omega) (encB_scalar _) (line_set_block w3 zeroB_len (by rw [w3.bl]; omega))
          simp only [bind_ap, callF_ap, pure_ap, ok_bind, guard_ap, pck_t, pck_f, condV_t, condV_f, nilck_p, fld_p, binP_sn, binP_nn, binP_sn', binP_nn', binI_eql, binI_neq, binI_lss, binI_leq, binI_gtr, binI_geq, binI_add, binI_sub, un_not, mv, new, Nat.zero_add, Nat.add_zero, getH_ap, need_bind, sat_need, sat_ok, alloc_ap, decide_true, decide_false, cond_true, cond_false, Bool.not_true, Bool.not_false, beq_self_eq_true, bf1, bf2, bf3, bf4, Nat.mul_one, ne_eq, not_true_eq_false, not_false_eq_true, if_true, if_false, ha, idxP_p _ _ _ _ m' p0 p1, bld_nil, s2, s3, s4] at hm ⊢
          exact c4.done hf hg ho (flat_encLine _) (line_lay (Wf.setB w3 _ zeroB_len)) (Upd.set ..) (born_head ..) rfl hm
        · simp only [bind_ap, callF_ap, pure_ap, ok_bind, guard_ap, pck_t, pck_f, condV_t, condV_f, nilck_p, fld_p, binP_sn, binP_nn, binP_sn', binP_nn', binI_eql, binI_neq, binI_lss, binI_leq, binI_gtr, binI_geq, binI_add, binI_sub, un_not, mv, new, Nat.zero_add, Nat.add_zero, getH_ap, need_bind, sat_need, sat_ok, alloc_ap, decide_true, decide_false, cond_true, cond_false, Bool.not_true, Bool.not_false, beq_self_eq_true, bf1, bf2, bf3, bf4, Nat.mul_one, ne_eq, not_true_eq_false, not_false_eq_true, if_true, if_false, ha] at hm ⊢
          exact c1.done hf hg ho (flat_encLine _) (line_lay w) (Upd.set ..) (born_head ..) rfl hm
      · exact hm.elim
    · exact hm.elim
  · exact hm.elim

def mLineLearn (args : List Value) : M Value := fun k H => match args with
  | [p, m, b] => (match dI .i64 m, dBlk b with
    | some m, some b => onLine p (.int .i64 1) (fun L => ((L.learn m b).1, .int .i64 (L.learn m b).2)) k H
    | _, _ => .fail)
  | _ => .fail
theorem line_learn_ok : ExtOk Tryz.prog 56 mLineLearn := by
  refine ext_any fol namesP noX_ok (A := ann) (n := 3) fun args k H Q E hf hm => ?_
  unfold mLineLearn at hm
  split at hm
  · rename_i p m b
    split at hm
    · rename_i m' b' h1 h2
      obtain rfl := dI_eq h1
      obtain ⟨rfl, hlen⟩ := dBlk_eq h2
      clear h1 h2
      unfold onLine at hm
      split at hm
      · rename_i h1
        obtain rfl := dLine_none h1
        left
        rw [d56 rfl]
        unfold s56
        simp only [bind_ap, callF_ap, pure_ap, ok_bind, guard_ap, pck_t, pck_f, condV_t, condV_f, nilck_p, fld_p, binP_sn, binP_nn, binP_sn', binP_nn', binI_eql, binI_neq, binI_lss, binI_leq, binI_gtr, binI_geq, binI_add, binI_sub, un_not, mv, new, Nat.zero_add, Nat.add_zero, getH_ap, need_bind, sat_need, sat_ok, alloc_ap, decide_true, decide_false, cond_true, cond_false, Bool.not_true, Bool.not_false, beq_self_eq_true, bf1, bf2, bf3, bf4, Nat.mul_one, ne_eq, not_true_eq_false, not_false_eq_true, if_true, if_false, box_ap _ (.agg ⟨_⟩) rfl, asked_funcN, show ¬ ((1 : Int) = 0) by decide]
        exact Done.same hf (by simp) (fun j hj => get_push_old hj) rfl hm
      · rename_i i L h1
        obtain ⟨rfl, hg⟩ := dLine_some h1
        right
        refine ⟨i, .line L, hg, fun l H1 hlay _ ho => ?_⟩
        have w := (lay_line hlay).2
        have e0 := (lay_line hlay).1
        subst e0
        have c1 := Cur.refl (ho.one (flat_encLine L)) (by have := ho.lt; have := ho.next; omega)
        have c2 := c1.push (.cells 57 (encB b'))
        have x2 : (H1.push (.cells 57 (encB b'))).get H1.next = some (.cells 57 (encB b')) := get_push_new
        have hx : H1.next ≠ i := by have := c1.lt; omega
        rw [d56 rfl]
        unfold s56
        simp only [bind_ap, callF_ap, pure_ap, ok_bind, guard_ap, pck_t, pck_f, condV_t, condV_f, nilck_p, fld_p, binP_sn, binP_nn, binP_sn', binP_nn', binI_eql, binI_neq, binI_lss, binI_leq, binI_gtr, binI_geq, binI_add, binI_sub, un_not, mv, new, Nat.zero_add, Nat.add_zero, getH_ap, need_bind, sat_need, sat_ok, alloc_ap, decide_true, decide_false, cond_true, cond_false, Bool.not_true, Bool.not_false, beq_self_eq_true, bf1, bf2, bf3, bf4, Nat.mul_one, ne_eq, not_true_eq_false, not_false_eq_true, if_true, if_false, box_ap _ (.agg ⟨_⟩) rfl, vlist, asked_func c2.get]
        unfold LineS.learn at hm
        by_cases ha : L.asked m' = 0
        · obtain ⟨p0, p1, p2, p3⟩ := asked0 w ha
          have hk := ld1 c2.get (line_known (known_at w p3))
          cases hkn : L.isKnown m' with
          | true =>
            rw [hkn] at hk
            simp only [bind_ap, callF_ap, pure_ap, ok_bind, guard_ap, pck_t, pck_f, condV_t, condV_f, nilck_p, fld_p, binP_sn, binP_nn, binP_sn', binP_nn', binI_eql, binI_neq, binI_lss, binI_leq, binI_gtr, binI_geq, binI_add, binI_sub, un_not, mv, new, Nat.zero_add, Nat.add_zero, getH_ap, need_bind, sat_need, sat_ok, alloc_ap, decide_true, decide_false, cond_true, cond_false, Bool.not_true, Bool.not_false, beq_self_eq_true, bf1, bf2, bf3, bf4, Nat.mul_one, ne_eq, not_true_eq_false, not_false_eq_true, if_true, if_false, ha, hkn, idxP_p _ _ _ _ m' p0 p1, hk] at hm ⊢
            exact c2.done hf hg ho (flat_encLine _) (line_lay w) (Upd.set ..) (born_head ..) rfl hm
          | false =>
            rw [hkn] at hk
            have w2 := Wf.setK w m'.toNat true
            obtain ⟨H3, s3, c3, o3, _⟩ := c2.st (n := 1) (off := 1 + m'.toNat) (x := .bool true) rfl (by rw [encLine_len w]; omega) rfl (line_set_known true (by rw [w.kn]; omega))
            have x3 := (o3 _ hx).trans x2
            obtain ⟨H4, s4, c4, _, _⟩ := c3.st (n := 64) (off := 33 + m'.toNat * 64) (x := .agg ⟨encB b'⟩) (encB_len hlen) (by rw [encLine_len w2]; omega) (encB_scalar _) (line_set_block w2 hlen (by rw [w2.bl]; omega))
            simp only [bind_ap, callF_ap, pure_ap, ok_bind, guard_ap, pck_t, pck_f, condV_t, condV_f, nilck_p, fld_p, binP_sn, binP_nn, binP_sn', binP_nn', binI_eql, binI_neq, binI_lss, binI_leq, binI_gtr, binI_geq, binI_add, binI_sub, un_not, mv, new, Nat.zero_add, Nat.add_zero, getH_ap, need_bind, sat_need, sat_ok, alloc_ap, decide_true, decide_false, cond_true, cond_false, Bool.not_true, Bool.not_false, beq_self_eq_true, bf1, bf2, bf3, bf4, Nat.mul_one, ne_eq, not_true_eq_false, not_false_eq_true, if_true, if_false, ha, hkn, idxP_p _ _ _ _ m' p0 p1, hk, ldB x2 hlen, s3, chk_ld (ldB x3 hlen _) (eqV_blk _), s4, Bool.false_eq_true] at hm ⊢
            exact c4.done hf hg ho (flat_encLine _) (line_lay (Wf.setB w2 _ hlen)) (Upd.set ..) (born_head ..) rfl hm
        · simp only [bind_ap, callF_ap, pure_ap, ok_bind, guard_ap, pck_t, pck_f, condV_t, condV_f, nilck_p, fld_p, binP_sn, binP_nn, binP_sn', binP_nn', binI_eql, binI_neq, binI_lss, binI_leq, binI_gtr, binI_geq, binI_add, binI_sub, un_not, mv, new, Nat.zero_add, Nat.add_zero, getH_ap, need_bind, sat_need, sat_ok, alloc_ap, decide_true, decide_false, cond_true, cond_false, Bool.not_true, Bool.not_false, beq_self_eq_true, bf1, bf2, bf3, bf4, Nat.mul_one, ne_eq, not_true_eq_false, not_false_eq_true, if_true, if_false, ha] at hm ⊢
          exact c2.done hf hg ho (flat_encLine _) (line_lay w) (Upd.set ..) (born_head ..) rfl hm
      · exact hm.elim
    · exact hm.elim
  · exact hm.elim

/-! ### Dirty, New -/
def LineS.dirtTo (L : LineS) (n : Nat) : List Int := ((List.range n).filter fun i => L.isDirty (Int.ofNat i)).map Int.ofNat
theorem dirtTo_succ (L : LineS) (n : Nat) : L.dirtTo (n + 1) = if L.isDirty (n : Int) = true then L.dirtTo n ++ [(n : Int)] else L.dirtTo n := by
  unfold LineS.dirtTo
  rw [List.range_succ, List.filter_append, List.map_append]
  cases h : L.isDirty (n : Int) <;> simp [h]
theorem dirtTo_len (L : LineS) (n : Nat) : (L.dirtTo n).length ≤ n := by
  unfold LineS.dirtTo; rw [List.length_map]; exact Nat.le_trans (List.length_filter_le _ _) (by simp)
def mLineDirty (args : List Value) : M Value := fun _ H => match args with
  | [p] => (match dLine p H with
    | some none => .ok (.slice none 0 0) H
    | some (some (_, L)) => intsV 3 L.dirties H
    | none => .fail)
  | _ => .fail
theorem line_dirty_ok : ExtOk Tryz.prog 47 mLineDirty := by
  refine ext_any fol namesP noX_ok (A := ann) (n := 30) fun args k H Q E hf hm => ?_
  unfold mLineDirty at hm
  split at hm
  · rename_i p
    split at hm
    · rename_i h1
      obtain rfl := dLine_none h1
      left
      rw [d47 rfl]
      unfold s47
      simp only [bind_ap, callF_ap, pure_ap, ok_bind, guard_ap, pck_t, pck_f, condV_t, condV_f, nilck_p, fld_p, binP_sn, binP_nn, binP_sn', binP_nn', binI_eql, binI_neq, binI_lss, binI_leq, binI_gtr, binI_geq, binI_add, binI_sub, un_not, mv, new, Nat.zero_add, Nat.add_zero, getH_ap, need_bind, sat_need, sat_ok, alloc_ap, decide_true, decide_false, cond_true, cond_false, Bool.not_true, Bool.not_false, beq_self_eq_true, bf1, bf2, bf3, bf4, Nat.mul_one, ne_eq, not_true_eq_false, not_false_eq_true, if_true, if_false]
      exact Done.same hf (Nat.le_refl _) (fun j hj => rfl) rfl hm
    · rename_i i L h1
      obtain ⟨rfl, hg⟩ := dLine_some h1
      right
      refine ⟨i, .line L, hg, fun l H1 hlay _ ho => ?_⟩
      have w := (lay_line hlay).2
      have e0 := (lay_line hlay).1
      subst e0
      have c1 := Cur.refl (ho.one (flat_encLine L)) (by have := ho.lt; have := ho.next; omega)
      rw [d47 rfl]
      unfold s47
      simp only [bind_ap, callF_ap, pure_ap, ok_bind, guard_ap, pck_t, pck_f, condV_t, condV_f, nilck_p, fld_p, binP_sn, binP_nn, binP_sn', binP_nn', binI_eql, binI_neq, binI_lss, binI_leq, binI_gtr, binI_geq, binI_add, binI_sub, un_not, mv, new, Nat.zero_add, Nat.add_zero, getH_ap, need_bind, sat_need, sat_ok, alloc_ap, decide_true, decide_false, cond_true, cond_false, Bool.not_true, Bool.not_false, beq_self_eq_true, bf1, bf2, bf3, bf4, Nat.mul_one, ne_eq, not_true_eq_false, not_false_eq_true, if_true, if_false, ld1 c1.get (line_members L)]
      have hm16 := w.m16
      have hm0 := w.m0
      refine loopV_sat (fun n vs H2 => ∃ (t j : Nat), n = L.members.toNat - t ∧ t ≤ L.members.toNat ∧ vs = [.pointer (some ⟨i, 0, some 0⟩), accV j 3 (L.dirtTo t).length, .int .i64 L.members, .int .i64 (t : Int)] ∧
        Cur H1 i 156 (encLine L) H2 ∧ (L.dirtTo t ≠ [] → (H1.next ≤ j ∧ j < H2.next) ∧ H2.get j = some (.cells 3 ((L.dirtTo t).map (.int .i64))))) ?_ ⟨0, 0, rfl, Nat.zero_le _, rfl, c1, fun h => absurd rfl h⟩ (by omega)
      rintro n again vs H2 ⟨t, j, rfl, ht, rfl, c2, hj⟩ hagain
      simp only [mk, assoc, nat_beq, Nat.reduceBEq, cond_true, cond_false, bf1, bf2, bf3, bf4, bind_ap, callF_ap, pure_ap, ok_bind, guard_ap, pck_t, pck_f, condV_t, condV_f, nilck_p, fld_p, binP_sn, binP_nn, binP_sn', binP_nn', binI_eql, binI_neq, binI_lss, binI_leq, binI_gtr, binI_geq, binI_add, binI_sub, un_not, mv, new, Nat.zero_add, Nat.add_zero, getH_ap, need_bind, sat_need, sat_ok, alloc_ap, decide_true, decide_false, cond_true, cond_false, Bool.not_true, Bool.not_false, beq_self_eq_true, bf1, bf2, bf3, bf4, Nat.mul_one, ne_eq, not_true_eq_false, not_false_eq_true, if_true, if_false]
      by_cases hlt : (t : Int) < L.members
      · have ht16 : t < 16 := by omega
        have hk := ld1 c2.get (line_dirty w (dirty_at w (m := (t : Int)) (by simpa using ht16)))
        simp only [Int.toNat_natCast] at hk
        simp only [bind_ap, callF_ap, pure_ap, ok_bind, guard_ap, pck_t, pck_f, condV_t, condV_f, nilck_p, fld_p, binP_sn, binP_nn, binP_sn', binP_nn', binI_eql, binI_neq, binI_lss, binI_leq, binI_gtr, binI_geq, binI_add, binI_sub, un_not, mv, new, Nat.zero_add, Nat.add_zero, getH_ap, need_bind, sat_need, sat_ok, alloc_ap, decide_true, decide_false, cond_true, cond_false, Bool.not_true, Bool.not_false, beq_self_eq_true, bf1, bf2, bf3, bf4, Nat.mul_one, ne_eq, not_true_eq_false, not_false_eq_true, if_true, if_false, hlt, idxP_p 16 1 _ _ (t : Int) (Int.natCast_nonneg t) (by omega), Int.toNat_natCast, hk]
        have hwr : IntKind.i64.wrap ((t : Int) + 1) = ((t + 1 : Nat) : Int) := by rw [wrap64 (by omega) (by omega)]; rfl
        cases hd : L.isDirty (t : Int) with
        | false =>
          simp only [bind_ap, callF_ap, pure_ap, ok_bind, guard_ap, pck_t, pck_f, condV_t, condV_f, nilck_p, fld_p, binP_sn, binP_nn, binP_sn', binP_nn', binI_eql, binI_neq, binI_lss, binI_leq, binI_gtr, binI_geq, binI_add, binI_sub, un_not, mv, new, Nat.zero_add, Nat.add_zero, getH_ap, need_bind, sat_need, sat_ok, alloc_ap, decide_true, decide_false, cond_true, cond_false, Bool.not_true, Bool.not_false, beq_self_eq_true, bf1, bf2, bf3, bf4, Nat.mul_one, ne_eq, not_true_eq_false, not_false_eq_true, if_true, if_false, hwr]
          refine hagain _ _ _ (show L.members.toNat - (t + 1) < L.members.toNat - t by omega) ⟨t + 1, j, rfl, by omega, ?_, c2, ?_⟩
          · rw [dirtTo_succ, hd, if_neg (by simp)]
          · rw [dirtTo_succ, hd]; exact hj
        | true =>
          have hlen := dirtTo_len L t
          simp only [bind_ap, callF_ap, pure_ap, ok_bind, guard_ap, pck_t, pck_f, condV_t, condV_f, nilck_p, fld_p, binP_sn, binP_nn, binP_sn', binP_nn', binI_eql, binI_neq, binI_lss, binI_leq, binI_gtr, binI_geq, binI_add, binI_sub, un_not, mv, new, Nat.zero_add, Nat.add_zero, getH_ap, need_bind, sat_need, sat_ok, alloc_ap, decide_true, decide_false, cond_true, cond_false, Bool.not_true, Bool.not_false, beq_self_eq_true, bf1, bf2, bf3, bf4, Nat.mul_one, ne_eq, not_true_eq_false, not_false_eq_true, if_true, if_false, bldSlice1 3 1 [.int .i64 0] (.int .i64 (t : Int)) rfl rfl rfl, vlist]
          have x3 : (H2.push (.cells 3 [.int .i64 (t : Int)])).get H2.next = some (.cells 3 [.int .i64 (t : Int)]) := get_push_new
          have hap := app1 (H := H2.push (.cells 3 [.int .i64 (t : Int)])) (e := 3) (size := 1) (bytes := 8) (j := j) (tag := 3) (n := (L.dirtTo t).length) (old := (L.dirtTo t).map (.int .i64)) (xs := [.int .i64 (t : Int)]) (jx := H2.next) (tx := 1 + 2)
            (by omega) (by omega) (by omega) (by simp) rfl rfl (fun hne => by
              obtain ⟨q1, q2⟩ := hj fun h => hne (by rw [h]; rfl)
              rw [get_push_old q1.2]; exact q2) x3 rfl
          rw [hap]
          simp only [bind_ap, callF_ap, pure_ap, ok_bind, guard_ap, pck_t, pck_f, condV_t, condV_f, nilck_p, fld_p, binP_sn, binP_nn, binP_sn', binP_nn', binI_eql, binI_neq, binI_lss, binI_leq, binI_gtr, binI_geq, binI_add, binI_sub, un_not, mv, new, Nat.zero_add, Nat.add_zero, getH_ap, need_bind, sat_need, sat_ok, alloc_ap, decide_true, decide_false, cond_true, cond_false, Bool.not_true, Bool.not_false, beq_self_eq_true, bf1, bf2, bf3, bf4, Nat.mul_one, ne_eq, not_true_eq_false, not_false_eq_true, if_true, if_false, hwr]
          have e1 : (L.dirtTo t).length + 1 = (L.dirtTo (t + 1)).length := by rw [dirtTo_succ, hd]; simp
          refine hagain _ _ _ (show L.members.toNat - (t + 1) < L.members.toNat - t by omega) ⟨t + 1, H2.next + 1, rfl, by omega, ?_, ?_, fun _ => ⟨⟨by have := c2.next; omega, ?_⟩, ?_⟩⟩
          · rw [e1]; rfl
          · split
            · exact (c2.push _).push _
            · rename_i h
              obtain ⟨q1, q2⟩ := hj fun h' => h (by rw [h']; rfl)
              exact ((c2.push _).other q1.1 _).push _
          · split <;> simp
          · have e2 : (L.dirtTo (t + 1)).map (Value.int .i64) = (L.dirtTo t).map (.int .i64) ++ [.int .i64 (t : Int)] := by rw [dirtTo_succ, hd]; simp
            rw [e2]
            split <;> exact get_push_new
      · have he : t = L.members.toNat := by omega
        subst he
        simp only [bind_ap, callF_ap, pure_ap, ok_bind, guard_ap, pck_t, pck_f, condV_t, condV_f, nilck_p, fld_p, binP_sn, binP_nn, binP_sn', binP_nn', binI_eql, binI_neq, binI_lss, binI_leq, binI_gtr, binI_geq, binI_add, binI_sub, un_not, mv, new, Nat.zero_add, Nat.add_zero, getH_ap, need_bind, sat_need, sat_ok, alloc_ap, decide_true, decide_false, cond_true, cond_false, Bool.not_true, Bool.not_false, beq_self_eq_true, bf1, bf2, bf3, bf4, Nat.mul_one, ne_eq, not_true_eq_false, not_false_eq_true, if_true, if_false, hlt]
        exact Done.ints1 hf hg (Upd.self hg) ho c2 (flat_encLine _) (line_lay w) (p := .bool true) (.inr ⟨_, rfl⟩) (fun h => ⟨(hj h).1.1, (hj h).2⟩) hm
    · exact hm.elim
  · exact hm.elim

def mLineNew (args : List Value) : M Value := fun _ H => match args with
  | [m] => (match dI .i64 m with
    | some m => if m < 1 ∨ 16 < m then .ok (.tuple ⟨[.pointer none, .int .i64 2]⟩) H else .ok (.tuple ⟨[ptrTo H.next, .int .i64 0]⟩) (H.push (.ghost (.line (LineS.new m))))
    | none => .fail)
  | _ => .fail
theorem new_wf {m : Int} (h1 : 1 ≤ m) (h2 : m ≤ 16) : (LineS.new m).Wf := ⟨by show 0 ≤ m; omega, h2, rfl, rfl, rfl, fun b hb => by rw [List.eq_of_mem_replicate (show b ∈ List.replicate 16 zeroB from hb)]; rfl⟩
theorem flatten_rep (n m : Nat) (x : Value) : (List.replicate n (List.replicate m x)).flatten = List.replicate (n * m) x := by
  induction n with
  | zero => simp
  | succ n ih => rw [List.replicate_succ, List.flatten_cons, ih, List.replicate_append_replicate]; congr 1; rw [Nat.add_mul]; omega
theorem line_new_ok : ExtOk Tryz.prog 103 mLineNew := by
  refine ext_any fol namesP noX_ok (A := ann) (n := 3) fun args k H Q E hf hm => ?_
  unfold mLineNew at hm
  split at hm
  · rename_i m
    split at hm
    · rename_i m' h1
      obtain rfl := dI_eq h1
      clear h1
      left
      rw [d103 rfl]
      unfold s103
      by_cases h1 : m' < 1
      · simp only [bind_ap, callF_ap, pure_ap, ok_bind, guard_ap, pck_t, pck_f, condV_t, condV_f, nilck_p, fld_p, binP_sn, binP_nn, binP_sn', binP_nn', binI_eql, binI_neq, binI_lss, binI_leq, binI_gtr, binI_geq, binI_add, binI_sub, un_not, mv, new, Nat.zero_add, Nat.add_zero, getH_ap, need_bind, sat_need, sat_ok, alloc_ap, decide_true, decide_false, cond_true, cond_false, Bool.not_true, Bool.not_false, beq_self_eq_true, bf1, bf2, bf3, bf4, Nat.mul_one, ne_eq, not_true_eq_false, not_false_eq_true, if_true, if_false, h1, true_or] at hm ⊢
        exact Done.same hf (Nat.le_refl _) (fun j hj => rfl) rfl hm
      · by_cases h2 : 16 < m'
        · simp only [bind_ap, callF_ap, pure_ap, ok_bind, guard_ap, pck_t, pck_f, condV_t, condV_f, nilck_p, fld_p, binP_sn, binP_nn, binP_sn', binP_nn', binI_eql, binI_neq, binI_lss, binI_leq, binI_gtr, binI_geq, binI_add, binI_sub, un_not, mv, new, Nat.zero_add, Nat.add_zero, getH_ap, need_bind, sat_need, sat_ok, alloc_ap, decide_true, decide_false, cond_true, cond_false, Bool.not_true, Bool.not_false, beq_self_eq_true, bf1, bf2, bf3, bf4, Nat.mul_one, ne_eq, not_true_eq_false, not_false_eq_true, if_true, if_false, h1, h2, or_true] at hm ⊢
          exact Done.same hf (Nat.le_refl _) (fun j hj => rfl) rfl hm
        · have hb : bld ([.int .i64 0] ++ List.replicate 32 (Value.bool false) ++ List.replicate 1024 (Value.int .u8 0) ++ [.int .u64 0]) [(0, 1, Value.int .i64 m')] = M.pure (.agg ⟨encLine (LineS.new m')⟩) := by
            have e1 : splice ([Value.int .i64 0] ++ List.replicate 32 (Value.bool false) ++ List.replicate 1024 (Value.int .u8 0) ++ [.int .u64 0]) 0 [Value.int .i64 m'] = encLine (LineS.new m') := by
              have e2 : List.replicate 32 (Value.bool false) = List.replicate 16 (Value.bool false) ++ List.replicate 16 (.bool false) := by rw [List.replicate_append_replicate]
              have e3 : (List.replicate 16 zeroB).flatMap encB = List.replicate 1024 (Value.int .u8 0) := by
                rw [List.flatMap_def, List.map_replicate, ← encB_zero, flatten_rep]
              rw [e2]
              simp only [encLine, LineS.new, e3, List.map_replicate, splice, List.take_zero, List.nil_append, List.append_assoc, List.singleton_append, List.cons_append, Nat.zero_add, List.length_singleton, List.drop_succ_cons, List.drop_zero]
            have e4 : lay ([Value.int .i64 0] ++ List.replicate 32 (Value.bool false) ++ List.replicate 1024 (Value.int .u8 0) ++ [.int .u64 0]) [(0, 1, Value.int .i64 m')] = some (encLine (LineS.new m')) := by
              have e5 : (([Value.int .i64 0] ++ List.replicate 32 (Value.bool false) ++ List.replicate 1024 (Value.int .u8 0) ++ [.int .u64 0]) : List Value).length = 1058 := by rw [List.length_append, List.length_append, List.length_append, List.length_replicate, List.length_replicate]; rfl
              unfold lay
              rw [e5]
              show lay (splice _ 0 [Value.int .i64 m']) [] = _
              rw [e1]; rfl
            unfold bld; rw [e4]
          have w := new_wf (m := m') (by omega) (by omega)
          rw [hb]
          generalize hL : LineS.new m' = L at hm w ⊢
          simp only [bind_ap, callF_ap, pure_ap, ok_bind, guard_ap, pck_t, pck_f, condV_t, condV_f, nilck_p, fld_p, binP_sn, binP_nn, binP_sn', binP_nn', binI_eql, binI_neq, binI_lss, binI_leq, binI_gtr, binI_geq, binI_add, binI_sub, un_not, mv, new, Nat.zero_add, Nat.add_zero, getH_ap, need_bind, sat_need, sat_ok, alloc_ap, decide_true, decide_false, cond_true, cond_false, Bool.not_true, Bool.not_false, beq_self_eq_true, bf1, bf2, bf3, bf4, Nat.mul_one, ne_eq, not_true_eq_false, not_false_eq_true, if_true, if_false, h1, h2, or_self, box_ap _ (.agg ⟨encLine _⟩) rfl, vlist] at hm ⊢
          exact Done.newG1 hf (Nat.le_refl _) (flat_encLine _) (line_lay w) get_push_new (fun j hj => get_push_old hj) (by simp) (.arg (by simp [menL, men, menR])) (v1 := .tuple ⟨[ptrTo H.next, .int .i64 0]⟩)
            (by simp [rn, rnR, rnL, ptrTo, rnA, new, keepT]) hm
    · exact hm.elim
  · exact hm.elim
end Go.Am
