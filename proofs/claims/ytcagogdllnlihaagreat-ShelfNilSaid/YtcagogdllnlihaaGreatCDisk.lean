/- Contracts of package disk. -/
import Derived.Test.YtcagogdllnlihaaGreatCLine
import Derived.Test.YtcagogdllnlihaaGreatShDisk
set_option linter.all false
namespace Go.Am
open Go.Proofs
set_option linter.unusedSimpArgs false
set_option linter.unusedVariables false

/-! ### what a disk does -/
namespace DiskS
def asked (D : DiskS) (n : Int) : Int := if n < 0 ∨ n ≥ D.sure.length then 2 else if D.dead = true then 9 else 0
def sureAt (D : DiskS) (n : Int) : Blk := D.sure.getD n.toNat zeroB
def look (n : Int) : List (Int × Blk) → Option Blk
  | [] => none
  | x :: r => match look n r with
    | some b => some b
    | none => if x.1 = n then some x.2 else none
def at' (D : DiskS) (n : Int) : Blk := (look n D.loose).getD (D.sureAt n)
def read (D : DiskS) (n : Int) : Blk × Int := if D.asked n = 0 then (D.at' n, 0) else (zeroB, D.asked n)
def sureOf (D : DiskS) (n : Int) : Blk × Int := if D.asked n = 0 then (D.sureAt n, 0) else (zeroB, D.asked n)
def setL (D : DiskS) (l : List (Int × Blk)) : DiskS := { D with loose := l }
def setS (D : DiskS) (l : List Blk) : DiskS := { D with sure := l }
def setX (D : DiskS) (x : Bool) : DiskS := { D with dead := x }
def write (D : DiskS) (n : Int) (b : Blk) : DiskS × Int := if D.asked n = 0 then (D.setL (D.loose ++ [(n, b)]), 0) else (D, D.asked n)
def home (s : List Blk) (l : List (Int × Blk)) : List Blk := l.foldl (fun s x => s.set x.1.toNat x.2) s
def flush (D : DiskS) : DiskS × Int := if D.asked 0 = 0 then ((D.setS (home D.sure D.loose)).setL [], 0) else (D, D.asked 0)
def fail (D : DiskS) : DiskS × Int := ((D.setX true).setL [], 0)
def new (n : Int) : DiskS := ⟨List.replicate n.toNat zeroB, [], false⟩
end DiskS

/-! ### a disk that lies open -/
def T_disk : TypeId := 167
def T_block : TypeId := 57
def T_write : TypeId := 219
def rootD (js jl n m : Nat) (dead : Bool) : List Value := [.slice (some ⟨js, 0, some 0⟩) n 66, accV jl 67 m, .bool dead]
structure DCur (H : Heap) (i js jl : Nat) (D : DiskS) (H2 : Heap) : Prop where
  root : H2.get i = some (.cells T_disk (rootD js jl D.sure.length D.loose.length D.dead))
  sure : H2.get js = some (.cells T_block (D.sure.flatMap encB))
  loose : D.loose ≠ [] → (H.next ≤ jl ∧ jl < H2.next ∧ jl ≠ js) ∧ H2.get jl = some (.cells T_write (D.loose.flatMap encW))
  js1 : H.next ≤ js
  js2 : js < H2.next
  old : ∀ j, j < H.next → j ≠ i → H2.get j = H.get j
  next : H.next ≤ H2.next
  lt : i < H.next
theorem lay_disk {D : DiskS} {l : List Ob} (h : Lay (.disk D) l) : l = layDisk D ∧ D.Wf := h
theorem flat_encW (x : Int × Blk) : flatL (encW x) = true := by simp [encW, flatL, flat, flat_encB]
theorem flat_sure (l : List Blk) : flatL (l.flatMap encB) = true := flatL_flatMap _ flat_encB l
theorem flat_loose (l : List (Int × Blk)) : flatL (l.flatMap encW) = true := flatL_flatMap _ flat_encW l
theorem Opened.disk {H H1 : Heap} {i : Nat} {D : DiskS} (ho : Opened H i (layDisk D) H1) : DCur H i (H.next + 1) (H.next + 2) D H1 := by
  have hn := ho.next
  have hl := ho.lt
  have e0 := fun o h => ho.at' 0 o h
  have e1 := fun o h => ho.at' 1 o h
  rw [show sg i H.next 0 = i from rfl] at e0
  rw [show sg i H.next 1 = H.next + 1 from rfl] at e1
  cases hD : D.loose with
  | nil =>
    have hlay : layDisk D = [.cells T_disk [.slice (some (new 1 0)) D.sure.length 66, .slice none 0 0, .bool D.dead], .cells T_block (D.sure.flatMap encB)] := by unfold layDisk; rw [hD]; rfl
    rw [hlay] at e0 e1 hn
    refine ⟨?_, ?_, fun h => absurd hD h, by omega, by simp at hn; omega, ho.old, by omega, hl⟩
    · rw [e0 _ rfl, hD]; simp [rnO, rnL, rn, rnA, new, rootD, accV, sg]
    · rw [e1 _ rfl]; simp only [rnO, rnL_flat _ (flat_sure _)]
  | cons x r =>
    have e2 := fun o h => ho.at' 2 o h
    rw [show sg i H.next 2 = H.next + 2 from rfl] at e2
    have hlay : layDisk D = [.cells T_disk [.slice (some (new 1 0)) D.sure.length 66, .slice (some (new 2 0)) (x :: r).length 67, .bool D.dead], .cells T_block (D.sure.flatMap encB), .cells T_write ((x :: r).flatMap encW)] := by unfold layDisk; rw [hD]; rfl
    rw [hlay] at e0 e1 e2 hn
    refine ⟨?_, ?_, fun _ => ⟨⟨by omega, by simp at hn; omega, by omega⟩, ?_⟩, by omega, by simp at hn; omega, ho.old, by omega, hl⟩
    · rw [e0 _ rfl, hD]; simp [rnO, rnL, rn, rnA, new, rootD, accV, sg]
    · rw [e1 _ rfl]; simp only [rnO, rnL_flat _ (flat_sure _)]
    · rw [e2 _ rfl, hD]; simp only [rnO, rnL_flat _ (flat_loose _)]
theorem DCur.push {H H2 : Heap} {i js jl : Nat} {D : DiskS} (h : DCur H i js jl D H2) (o : Ob) : DCur H i js jl D (H2.push o) :=
  ⟨by rw [get_push_old (by have := h.lt; have := h.next; omega)]; exact h.root, by rw [get_push_old h.js2]; exact h.sure,
    fun hn => ⟨⟨(h.loose hn).1.1, by have := (h.loose hn).1.2.1; simp; omega, (h.loose hn).1.2.2⟩, by rw [get_push_old (h.loose hn).1.2.1]; exact (h.loose hn).2⟩,
    h.js1, by have := h.js2; simp; omega, fun j h1 h2 => by rw [get_push_old (by have := h.next; omega)]; exact h.old j h1 h2, by have := h.next; simp; omega, h.lt⟩
/-- a thing beside it is written -/
theorem DCur.other {H H2 : Heap} {i js jl : Nat} {D : DiskS} (h : DCur H i js jl D H2) {j : Nat} (h1 : H.next ≤ j) (h2 : j ≠ js) (h3 : D.loose ≠ [] → j ≠ jl) (o : Ob) : DCur H i js jl D (H2.set j o) :=
  ⟨by rw [get_set_other (by have := h.lt; omega)]; exact h.root, by rw [get_set_other (Ne.symm h2)]; exact h.sure,
    fun hn => ⟨(h.loose hn).1, by rw [get_set_other (Ne.symm (h3 hn))]; exact (h.loose hn).2⟩, h.js1, h.js2, fun l q1 q2 => by rw [get_set_other (by omega)]; exact h.old l q1 q2, h.next, h.lt⟩
theorem DCur.done {H H2 Hb : Heap} {args : List Value} {Q : Value → Heap → Prop} {v : Value} {i js jl : Nat} {D : DiskS} (h : DCur H i js jl D H2) (w : D.Wf) (hf : Fresh H) {g : Gh} (hi : H.get i = some (.ghost g)) (u : Upd H i (.disk D) Hb)
    (born : Born H2 (v :: args) i) (hv : flat v = true) (hq : Q v Hb) : Done H args Q v H2 := by
  cases hD : D.loose with
  | nil =>
    have hlay : layDisk D = [.cells T_disk [.slice (some (new 1 0)) D.sure.length 66, .slice none 0 0, .bool D.dead], .cells T_block (D.sure.flatMap encB)] := by unfold layDisk; rw [hD]; rfl
    have lay : Lay (.disk D) [.cells T_disk [.slice (some (new 1 0)) D.sure.length 66, .slice none 0 0, .bool D.dead], .cells T_block (D.sure.flatMap encB)] := ⟨hlay.symm, w⟩
    have hj := h.js1
    have hl := h.lt
    refine Done.updB (rest := [js]) hf hi u h.next lay rfl (by simp; omega) (by simpa using hj) (fun k o hk => ?_) (fun k o h1 hk _ => ?_) h.old born hv hq
    · match k, hk with
      | 0, hk =>
        simp at hk; subst hk
        refine ⟨rfl, ?_⟩
        show H2.get i = _
        rw [h.root, hD]; simp [rnO, rnL, rn, rnA, new, rootD, accV, nth]
      | 1, hk =>
        simp at hk; subst hk
        refine ⟨rfl, ?_⟩
        show H2.get js = _
        rw [h.sure]; simp only [rnO, rnL_flat _ (flat_sure _)]
      | k + 2, hk => simp at hk
    · match k, h1, hk with
      | 1, _, hk => exact ⟨0, _, by omega, rfl, by simp [menO, menL, men, new]⟩
      | k + 2, _, hk => simp at hk
  | cons x r =>
    have hlay : layDisk D = [.cells T_disk [.slice (some (new 1 0)) D.sure.length 66, .slice (some (new 2 0)) (x :: r).length 67, .bool D.dead], .cells T_block (D.sure.flatMap encB), .cells T_write ((x :: r).flatMap encW)] := by unfold layDisk; rw [hD]; rfl
    have lay : Lay (.disk D) [.cells T_disk [.slice (some (new 1 0)) D.sure.length 66, .slice (some (new 2 0)) (x :: r).length 67, .bool D.dead], .cells T_block (D.sure.flatMap encB), .cells T_write ((x :: r).flatMap encW)] := ⟨hlay.symm, w⟩
    have hj := h.js1
    have hl := h.lt
    obtain ⟨⟨q1, q2, q3⟩, q4⟩ := h.loose (by rw [hD]; simp)
    refine Done.updB (rest := [js, jl]) hf hi u h.next lay rfl (by simp; omega) (by simp; omega) (fun k o hk => ?_) (fun k o h1 hk _ => ?_) h.old born hv hq
    · match k, hk with
      | 0, hk =>
        simp at hk; subst hk
        refine ⟨rfl, ?_⟩
        show H2.get i = _
        rw [h.root, hD]; simp [rnO, rnL, rn, rnA, new, rootD, accV, nth]
      | 1, hk =>
        simp at hk; subst hk
        refine ⟨rfl, ?_⟩
        show H2.get js = _
        rw [h.sure]; simp only [rnO, rnL_flat _ (flat_sure _)]
      | 2, hk =>
        obtain rfl := Option.some.inj hk
        refine ⟨rfl, ?_⟩
        show H2.get jl = _
        rw [q4, hD]; simp only [rnO, rnL_flat _ (flat_loose _)]
      | k + 3, hk => simp at hk
    · match k, h1, hk with
      | 1, _, hk => exact ⟨0, _, by omega, rfl, by simp [menO, menL, men, new]⟩
      | 2, _, hk => exact ⟨0, _, by omega, rfl, by simp [menO, menL, men, new]⟩
      | k + 3, _, hk => simp at hk

/-! ### steps -/
theorem root_sure (js jl n m : Nat) (d : Bool) : ((rootD js jl n m d).drop 0).take 1 = [.slice (some ⟨js, 0, some 0⟩) n 66] := rfl
theorem root_loose (js jl n m : Nat) (d : Bool) : ((rootD js jl n m d).drop 1).take 1 = [accV jl 67 m] := rfl
theorem root_dead (js jl n m : Nat) (d : Bool) : ((rootD js jl n m d).drop 2).take 1 = [.bool d] := rfl
theorem lenL_acc (j tag n k : Nat) (H : Heap) : lenL (accV j tag n) k H = .ok (.int .i64 n) H := by cases n <;> rfl
theorem lenL_s (a : Addr) (n t k : Nat) (H : Heap) : lenL (.slice (some a) n t) k H = .ok (.int .i64 n) H := rfl
theorem lenL_n (k : Nat) (H : Heap) : lenL (.slice none 0 0) k H = .ok (.int .i64 0) H := rfl
theorem sure_pos {D : DiskS} (w : D.Wf) : D.sure.length ≠ 0 := fun h => w.pos (List.eq_nil_of_length_eq_zero h)
theorem dnone_run (cl : CallF) {H H2 : Heap} {i js jl : Nat} {D : DiskS} (h : DCur H i js jl D H2) (w : D.Wf) (k : Nat) : s110 cl (.pointer (some ⟨i, 0, some 0⟩)) k H2 = .ok (.bool false) H2 := by
  unfold s110
  have hp := sure_pos w
  have hp' : ¬ ((D.sure.length : Int) = 0) := by omega
  simp only [bind_ap, callF_ap, pure_ap, ok_bind, guard_ap, pck_t, pck_f, condV_t, condV_f, nilck_p, fld_p, binP_sn, binP_nn, binP_sn', binP_nn', binI_eql, binI_neq, binI_lss, binI_leq, binI_gtr, binI_geq, binI_add, binI_sub, un_not, mv, new, Nat.zero_add, Nat.add_zero, getH_ap, need_bind, sat_need, sat_ok, alloc_ap, decide_true, decide_false, cond_true, cond_false, Bool.not_true, Bool.not_false, beq_self_eq_true, bf1, bf2, bf3, bf4, Nat.mul_one, ne_eq, not_true_eq_false, not_false_eq_true, if_true, if_false, ld1 h.root (root_sure ..), lenL_s, hp']
theorem dnone_func {X : Exts} (hX : X 110 = none) {H H2 : Heap} {i js jl : Nat} {D : DiskS} (h : DCur H i js jl D H2) (w : D.Wf) (n : Nat) :
    func Tryz.prog X ann (n + 1) 110 [.pointer (some ⟨i, 0, some 0⟩)] H2 = .ok (.bool false) H2 := by rw [d110 hX, dnone_run _ h w]
theorem dasked_func {X : Exts} (hX : X 110 = none) (hX2 : X 111 = none) {H H2 : Heap} {i js jl : Nat} {D : DiskS} (h : DCur H i js jl D H2) (w : D.Wf) (m : Int) (n : Nat) :
    func Tryz.prog X ann (n + 2) 111 [.pointer (some ⟨i, 0, some 0⟩), .int .i64 m] H2 = .ok (.int .i64 (D.asked m)) H2 := by
  rw [d111 hX2]
  unfold s111 DiskS.asked
  simp only [bind_ap, callF_ap, pure_ap, ok_bind, guard_ap, pck_t, pck_f, condV_t, condV_f, nilck_p, fld_p, binP_sn, binP_nn, binP_sn', binP_nn', binI_eql, binI_neq, binI_lss, binI_leq, binI_gtr, binI_geq, binI_add, binI_sub, un_not, mv, new, Nat.zero_add, Nat.add_zero, getH_ap, need_bind, sat_need, sat_ok, alloc_ap, decide_true, decide_false, cond_true, cond_false, Bool.not_true, Bool.not_false, beq_self_eq_true, bf1, bf2, bf3, bf4, Nat.mul_one, ne_eq, not_true_eq_false, not_false_eq_true, if_true, if_false, dnone_func hX h w]
  by_cases h1 : m < 0
  · simp only [bind_ap, callF_ap, pure_ap, ok_bind, guard_ap, pck_t, pck_f, condV_t, condV_f, nilck_p, fld_p, binP_sn, binP_nn, binP_sn', binP_nn', binI_eql, binI_neq, binI_lss, binI_leq, binI_gtr, binI_geq, binI_add, binI_sub, un_not, mv, new, Nat.zero_add, Nat.add_zero, getH_ap, need_bind, sat_need, sat_ok, alloc_ap, decide_true, decide_false, cond_true, cond_false, Bool.not_true, Bool.not_false, beq_self_eq_true, bf1, bf2, bf3, bf4, Nat.mul_one, ne_eq, not_true_eq_false, not_false_eq_true, if_true, if_false, h1, true_or]
  · by_cases h2 : (D.sure.length : Int) ≤ m
    · simp only [bind_ap, callF_ap, pure_ap, ok_bind, guard_ap, pck_t, pck_f, condV_t, condV_f, nilck_p, fld_p, binP_sn, binP_nn, binP_sn', binP_nn', binI_eql, binI_neq, binI_lss, binI_leq, binI_gtr, binI_geq, binI_add, binI_sub, un_not, mv, new, Nat.zero_add, Nat.add_zero, getH_ap, need_bind, sat_need, sat_ok, alloc_ap, decide_true, decide_false, cond_true, cond_false, Bool.not_true, Bool.not_false, beq_self_eq_true, bf1, bf2, bf3, bf4, Nat.mul_one, ne_eq, not_true_eq_false, not_false_eq_true, if_true, if_false, h1, ld1 h.root (root_sure ..), lenL_s, h2, ge_iff_le, or_true]
    · cases hd : D.dead <;> simp only [bind_ap, callF_ap, pure_ap, ok_bind, guard_ap, pck_t, pck_f, condV_t, condV_f, nilck_p, fld_p, binP_sn, binP_nn, binP_sn', binP_nn', binI_eql, binI_neq, binI_lss, binI_leq, binI_gtr, binI_geq, binI_add, binI_sub, un_not, mv, new, Nat.zero_add, Nat.add_zero, getH_ap, need_bind, sat_need, sat_ok, alloc_ap, decide_true, decide_false, cond_true, cond_false, Bool.not_true, Bool.not_false, beq_self_eq_true, bf1, bf2, bf3, bf4, Nat.mul_one, ne_eq, not_true_eq_false, not_false_eq_true, if_true, if_false, h1, ld1 h.root (root_sure ..), ld1 h.root (root_dead ..), lenL_s, h2, ge_iff_le, or_self, hd, Bool.false_eq_true]
theorem dasked0 {D : DiskS} {n : Int} (h : D.asked n = 0) : 0 ≤ n ∧ n < D.sure.length ∧ D.dead = false := by
  unfold DiskS.asked at h
  split at h
  · cases h
  · split at h
    · cases h
    · rename_i h1 h2
      refine ⟨by omega, by omega, by cases hd : D.dead <;> simp_all⟩

def dDisk (p : Value) (H : Heap) : Option (Nat × DiskS) := match dGh p H with
  | some (some (i, .disk D)) => some (i, D)
  | _ => none
theorem dDisk_eq {p : Value} {H : Heap} {i : Nat} {D : DiskS} (h : dDisk p H = some (i, D)) : p = .pointer (some ⟨i, 0, some 0⟩) ∧ H.get i = some (.ghost (.disk D)) := by
  unfold dDisk at h
  split at h
  · rename_i h1; cases h; exact dGh_some h1
  · cases h
def mDiskSectors (args : List Value) : M Value := fun _ H => match args with
  | [p] => (match dDisk p H with
    | some (_, D) => .ok (.int .i64 D.sure.length) H
    | none => .fail)
  | _ => .fail
theorem disk_sectors_ok : ExtOk Tryz.prog 141 mDiskSectors := by
  refine ext_any fol namesP noX_ok (A := ann) (n := 5) fun args k H Q E hf hm => ?_
  unfold mDiskSectors at hm
  split at hm
  · split at hm
    · rename_i i D h1
      obtain ⟨rfl, hg⟩ := dDisk_eq h1
      right
      refine ⟨i, .disk D, hg, fun l H1 hlay _ ho => ?_⟩
      have w := (lay_disk hlay).2
      have e0 := (lay_disk hlay).1
      subst e0
      have c1 := ho.disk
      rw [d141 rfl]
      unfold s141
      simp only [bind_ap, callF_ap, pure_ap, ok_bind, guard_ap, pck_t, pck_f, condV_t, condV_f, nilck_p, fld_p, binP_sn, binP_nn, binP_sn', binP_nn', binI_eql, binI_neq, binI_lss, binI_leq, binI_gtr, binI_geq, binI_add, binI_sub, un_not, mv, new, Nat.zero_add, Nat.add_zero, getH_ap, need_bind, sat_need, sat_ok, alloc_ap, decide_true, decide_false, cond_true, cond_false, Bool.not_true, Bool.not_false, beq_self_eq_true, bf1, bf2, bf3, bf4, Nat.mul_one, ne_eq, not_true_eq_false, not_false_eq_true, if_true, if_false, dnone_func (X := noX) rfl c1 w, ld1 c1.root (root_sure ..), lenL_s]
      exact c1.done w hf hg (Upd.self hg) (born_head ..) rfl hm
    · exact hm.elim
  · exact hm.elim
theorem idxS_p (size : Nat) (a : Addr) (len tag : Nat) (kd : IntKind) (i : Int) (h0 : 0 ≤ i) (h1 : i < (len : Int)) : idxS size (.slice (some a) len tag) (.int kd i) = M.pure (.pointer (some (mv a (i.toNat * size)))) := by
  simp [idxS, h0, h1]
def mDiskSure (args : List Value) : M Value := fun _ H => match args with
  | [p, n] => (match dDisk p H, dI .i64 n with
    | some (_, D), some n => .ok (.tuple ⟨[.agg ⟨encB (D.sureOf n).1⟩, .int .i64 (D.sureOf n).2]⟩) H
    | _, _ => .fail)
  | _ => .fail
theorem sure_at {D : DiskS} {n : Int} (h0 : 0 ≤ n) (h1 : n < D.sure.length) : D.sure[n.toNat]? = some (D.sureAt n) := getD_of (by omega)
theorem sureAt_len {D : DiskS} (w : D.Wf) (n : Int) : (D.sureAt n).length = 64 := by
  unfold DiskS.sureAt
  by_cases h : n.toNat < D.sure.length
  · exact w.bs _ (List.mem_of_getElem? (getD_of h))
  · rw [List.getD_eq_getElem?_getD, List.getElem?_eq_none (by omega)]; rfl
theorem disk_sure_ok : ExtOk Tryz.prog 52 mDiskSure := by
  refine ext_any fol namesP noX_ok (A := ann) (n := 5) fun args k H Q E hf hm => ?_
  unfold mDiskSure at hm
  split at hm
  · split at hm
    · rename_i i D n h1 h2
      obtain ⟨rfl, hg⟩ := dDisk_eq h1
      obtain rfl := dI_eq h2
      right
      refine ⟨i, .disk D, hg, fun l H1 hlay _ ho => ?_⟩
      have w := (lay_disk hlay).2
      have e0 := (lay_disk hlay).1
      subst e0
      have hnx := ho.next
      have c1 := ho.disk
      have c2 := c1.push (.cells 57 (encB zeroB))
      have x2 : (H1.push (.cells 57 (encB zeroB))).get H1.next = some (.cells 57 (encB zeroB)) := get_push_new
      have c3 := fun o => c2.other (j := H1.next) (by have := c1.next; omega) (by have := c1.js2; omega) (fun hn => by have := (c1.loose hn).1.2.1; omega) o
      rw [d52 rfl]
      unfold s52
      rw [encB_zero]
      simp only [bind_ap, callF_ap, pure_ap, ok_bind, guard_ap, pck_t, pck_f, condV_t, condV_f, nilck_p, fld_p, binP_sn, binP_nn, binP_sn', binP_nn', binI_eql, binI_neq, binI_lss, binI_leq, binI_gtr, binI_geq, binI_add, binI_sub, un_not, mv, new, Nat.zero_add, Nat.add_zero, getH_ap, need_bind, sat_need, sat_ok, alloc_ap, decide_true, decide_false, cond_true, cond_false, Bool.not_true, Bool.not_false, beq_self_eq_true, bf1, bf2, bf3, bf4, Nat.mul_one, ne_eq, not_true_eq_false, not_false_eq_true, if_true, if_false, dasked_func (X := noX) rfl rfl c2 w]
      unfold DiskS.sureOf at hm
      by_cases ha : D.asked n = 0
      · obtain ⟨q0, q1, _⟩ := dasked0 ha
        have hl := sureAt_len w n
        have hb := ldA c2.sure (off := n.toNat * 64) (n := 64) (by rw [blocks_len w.bs]; omega) (dt_blocks w.bs (sure_at q0 q1))
        simp only [bind_ap, callF_ap, pure_ap, ok_bind, guard_ap, pck_t, pck_f, condV_t, condV_f, nilck_p, fld_p, binP_sn, binP_nn, binP_sn', binP_nn', binI_eql, binI_neq, binI_lss, binI_leq, binI_gtr, binI_geq, binI_add, binI_sub, un_not, mv, new, Nat.zero_add, Nat.add_zero, getH_ap, need_bind, sat_need, sat_ok, alloc_ap, decide_true, decide_false, cond_true, cond_false, Bool.not_true, Bool.not_false, beq_self_eq_true, bf1, bf2, bf3, bf4, Nat.mul_one, ne_eq, not_true_eq_false, not_false_eq_true, if_true, if_false, ha, ld1 c2.root (root_sure ..), idxS_p 64 _ _ _ _ n q0 q1, hb, stB x2 zeroB_len hl, ldB get_set_same hl] at hm ⊢
        exact (c3 _).done w hf hg (Upd.self hg) (born_head ..) (flat_tup2 _ _ rfl) hm
      · simp only [bind_ap, callF_ap, pure_ap, ok_bind, guard_ap, pck_t, pck_f, condV_t, condV_f, nilck_p, fld_p, binP_sn, binP_nn, binP_sn', binP_nn', binI_eql, binI_neq, binI_lss, binI_leq, binI_gtr, binI_geq, binI_add, binI_sub, un_not, mv, new, Nat.zero_add, Nat.add_zero, getH_ap, need_bind, sat_need, sat_ok, alloc_ap, decide_true, decide_false, cond_true, cond_false, Bool.not_true, Bool.not_false, beq_self_eq_true, bf1, bf2, bf3, bf4, Nat.mul_one, ne_eq, not_true_eq_false, not_false_eq_true, if_true, if_false, ha, bld_nil, stB x2 zeroB_len zeroB_len, ldB get_set_same zeroB_len] at hm ⊢
        exact (c3 _).done w hf hg (Upd.self hg) (born_head ..) (flat_tup2 _ _ rfl) hm
    · exact hm.elim
  · exact hm.elim

theorem dt_fm {α : Type} (f : α → List Value) {s : Nat} : ∀ {l : List α} {j : Nat} {x : α} {r m : Nat}, (∀ x ∈ l, (f x).length = s) → l[j]? = some x → r + m ≤ s → ((l.flatMap f).drop (j * s + r)).take m = ((f x).drop r).take m
  | [], j, x, r, m, _, h, _ => by simp at h
  | y :: l, 0, x, r, m, hs, h, hr => by
    simp at h; subst h
    rw [List.flatMap_cons, Nat.zero_mul, Nat.zero_add, dt_left (by rw [hs y (by simp)]; exact hr)]
  | y :: l, j + 1, x, r, m, hs, h, hr => by
    rw [List.flatMap_cons, dt_right (n := j * s + r) (by rw [hs y (by simp), Nat.add_mul]; omega)]
    exact dt_fm f (fun x hx => hs x (by simp [hx])) (by simpa using h) hr
theorem fm_len {α : Type} (f : α → List Value) {s : Nat} : ∀ {l : List α}, (∀ x ∈ l, (f x).length = s) → (l.flatMap f).length = l.length * s
  | [], _ => by simp
  | y :: l, hs => by
    rw [List.flatMap_cons, List.length_append, fm_len f (fun x hx => hs x (by simp [hx])), hs y (by simp)]
    simp [Nat.add_mul]; omega
theorem encW_len {x : Int × Blk} (h : x.2.length = 64) : (encW x).length = 65 := by simp [encW, encB, h]
theorem loose_len {D : DiskS} (w : D.Wf) : (D.loose.flatMap encW).length = D.loose.length * 65 := fm_len encW fun x hx => encW_len (w.lb x hx)
theorem wf_setL {D : DiskS} (w : D.Wf) {l : List (Int × Blk)} (h1 : ∀ x ∈ l, 0 ≤ x.1 ∧ x.1 < D.sure.length) (h2 : ∀ x ∈ l, x.2.length = 64) (h3 : l.length ≤ 2 ^ 40) : (D.setL l).Wf := ⟨w.pos, w.most, w.bs, h1, h2, h3⟩
theorem wf_fail {D : DiskS} (w : D.Wf) : ((D.setX true).setL []).Wf := ⟨w.pos, w.most, w.bs, fun _ h => by simp [DiskS.setL] at h, fun _ h => by simp [DiskS.setL] at h, Nat.zero_le _⟩
/-- the root is written -/
theorem DCur.put {H H2 : Heap} {i js jl : Nat} {D : DiskS} (h : DCur H i js jl D H2) {D' : DiskS} (jl' : Nat) (hs : D'.sure = D.sure) (hl : D'.loose ≠ [] → (H.next ≤ jl' ∧ jl' < H2.next ∧ jl' ≠ js) ∧ H2.get jl' = some (.cells T_write (D'.loose.flatMap encW))) :
    DCur H i js jl' D' (H2.set i (.cells T_disk (rootD js jl' D'.sure.length D'.loose.length D'.dead))) := by
  have h1 := h.js1
  have h2 := h.lt
  refine ⟨get_set_same, by rw [get_set_other (by omega), hs]; exact h.sure, fun hn => ⟨(hl hn).1, by rw [get_set_other (by have := (hl hn).1.1; omega)]; exact (hl hn).2⟩, h1, h.js2, fun j q1 q2 => by rw [get_set_other q2]; exact h.old j q1 q2, h.next, h2⟩

/-- one more is loose -/
def appH (H3 : Heap) (jl m : Nat) (c : List Value) : Heap := (if m = 0 then H3 else H3.set jl .gone).push (.cells T_write c)
theorem appH_next (H3 : Heap) (jl m : Nat) (c : List Value) : (appH H3 jl m c).next = H3.next + 1 := by unfold appH; split <;> rfl
theorem DCur.more {H H3 : Heap} {i js jl : Nat} {D : DiskS} (h : DCur H i js jl D H3) (x : Int × Blk) :
    (appH H3 jl D.loose.length ((D.loose ++ [x]).flatMap encW)).get i = some (.cells T_disk (rootD js jl D.sure.length D.loose.length D.dead)) ∧
    DCur H i js H3.next (D.setL (D.loose ++ [x])) ((appH H3 jl D.loose.length ((D.loose ++ [x]).flatMap encW)).set i (.cells T_disk (rootD js H3.next D.sure.length (D.loose.length + 1) D.dead))) := by
  generalize hc : (D.loose ++ [x]).flatMap encW = c
  have hlt := h.lt
  have hnx := h.next
  have hj1 := h.js1
  have hj2 := h.js2
  have key : ∀ j, j < H3.next → (D.loose ≠ [] → j ≠ jl) → (appH H3 jl D.loose.length c).get j = H3.get j := fun j h1 h2 => by
    unfold appH
    split
    · exact get_push_old h1
    · rename_i hne
      rw [get_push_old (by simpa using h1), get_set_other (h2 fun h => hne (by rw [h]; rfl))]
  have knew : (appH H3 jl D.loose.length c).get H3.next = some (.cells T_write c) := by
    unfold appH; split <;> exact get_push_new
  have kr : (appH H3 jl D.loose.length c).get i = some (.cells T_disk (rootD js jl D.sure.length D.loose.length D.dead)) := by
    rw [key i (by omega) fun hn => by have := (h.loose hn).1.1; omega]; exact h.root
  refine ⟨kr, ?_, ?_, fun _ => ⟨⟨by omega, ?_, by omega⟩, ?_⟩, hj1, ?_, fun j q1 q2 => ?_, ?_, hlt⟩
  · rw [get_set_same]; simp [DiskS.setL]
  · rw [get_set_other (by omega), key js hj2 fun hn => Ne.symm (h.loose hn).1.2.2]; exact h.sure
  · rw [Heap.next_set, appH_next]; omega
  · rw [get_set_other (by omega), knew, ← hc]; rfl
  · rw [Heap.next_set, appH_next]; omega
  · rw [get_set_other q2, key j (by omega) fun hn => by have := (h.loose hn).1.1; omega]; exact h.old j q1 q2
  · rw [Heap.next_set, appH_next]; omega

def mDiskFail (args : List Value) : M Value := fun _ H => match args with
  | [p] => (match dDisk p H with
    | some (i, D) => .ok (.int .i64 0) (H.set i (.ghost (.disk D.fail.1)))
    | none => .fail)
  | _ => .fail
theorem disk_fail_ok : ExtOk Tryz.prog 50 mDiskFail := by
  refine ext_any fol namesP noX_ok (A := ann) (n := 5) fun args k H Q E hf hm => ?_
  unfold mDiskFail at hm
  split at hm
  · split at hm
    · rename_i i D h1
      obtain ⟨rfl, hg⟩ := dDisk_eq h1
      right
      refine ⟨i, .disk D, hg, fun l H1 hlay _ ho => ?_⟩
      have w := (lay_disk hlay).2
      have e0 := (lay_disk hlay).1
      subst e0
      have c1 := ho.disk
      have c2 := c1.put (D' := D.setX true) _ rfl (fun hn => c1.loose hn)
      have c3 := c2.put (D' := (D.setX true).setL []) 0 rfl (fun hn => absurd rfl hn)
      have s2 := st_to (n := 1) (off := 2) (x := .bool true) c1.root rfl (Nat.le_refl _) rfl (show splice _ 2 [Value.bool true] = rootD (H.next + 1) (H.next + 2) D.sure.length D.loose.length true from rfl)
      have s3 := st_to (n := 1) (off := 1) (x := .slice none 0 0) c2.root rfl (by show 2 ≤ 3; omega) rfl (show splice _ 1 [Value.slice none 0 0] = rootD (H.next + 1) 0 D.sure.length 0 true from rfl)
      rw [d50 rfl]
      unfold s50
      simp only [bind_ap, callF_ap, pure_ap, ok_bind, guard_ap, pck_t, pck_f, condV_t, condV_f, nilck_p, fld_p, binP_sn, binP_nn, binP_sn', binP_nn', binI_eql, binI_neq, binI_lss, binI_leq, binI_gtr, binI_geq, binI_add, binI_sub, un_not, mv, new, Nat.zero_add, Nat.add_zero, getH_ap, need_bind, sat_need, sat_ok, alloc_ap, decide_true, decide_false, cond_true, cond_false, Bool.not_true, Bool.not_false, beq_self_eq_true, bf1, bf2, bf3, bf4, Nat.mul_one, ne_eq, not_true_eq_false, not_false_eq_true, if_true, if_false, dnone_func (X := noX) rfl c1 w, s2]
      erw [s3]
      exact c3.done (wf_fail w) hf hg (Upd.set ..) (born_head ..) rfl hm
    · exact hm.elim
  · exact hm.elim

theorem bld_w (n : Int) {b : Blk} (h : b.length = 64) : bld ([Value.int .i64 0] ++ List.replicate 64 (Value.int .u8 0)) [(0, 1, .int .i64 n), (1, 64, .agg ⟨encB b⟩)] = M.pure (.agg ⟨encW (n, b)⟩) := by
  have e1 : splice ([Value.int .i64 0] ++ List.replicate 64 (Value.int .u8 0)) 0 [Value.int .i64 n] = [Value.int .i64 n] ++ List.replicate 64 (Value.int .u8 0) := rfl
  have e2 : splice ([Value.int .i64 n] ++ List.replicate 64 (Value.int .u8 0)) 1 (encB b) = encW (n, b) := by
    rw [sp_right (n := 0) (show 1 = ([Value.int .i64 n]).length + 0 from rfl)]
    unfold splice encW
    rw [List.drop_eq_nil_of_le (by rw [encB_len h, List.length_replicate]; exact Nat.le_refl _)]; simp
  have e3 : lay ([Value.int .i64 0] ++ List.replicate 64 (Value.int .u8 0)) [(0, 1, .int .i64 n), (1, 64, .agg ⟨encB b⟩)] = some (encW (n, b)) := by
    have l1 : ([Value.int .i64 0] ++ List.replicate 64 (Value.int .u8 0)).length = 65 := rfl
    have l2 : ([Value.int .i64 n] ++ List.replicate 64 (Value.int .u8 0)).length = 65 := rfl
    unfold lay
    rw [l1]
    show lay (splice _ 0 [Value.int .i64 n]) _ = _
    rw [e1]
    unfold lay
    rw [l2]
    have : (vlist (.agg ⟨encB b⟩)).length = 64 := encB_len h
    rw [this]
    show lay (splice _ 1 (encB b)) [] = _
    rw [e2]; rfl
  unfold bld; rw [e3]
def mDiskWrite (args : List Value) : M Value := fun _ H => match args with
  | [p, n, b] => (match dDisk p H, dI .i64 n, dBlk b with
    | some (i, D), some n, some b => bif Nat.blt D.loose.length (2 ^ 40) then .ok (.int .i64 (D.write n b).2) (H.set i (.ghost (.disk (D.write n b).1))) else .fail
    | _, _, _ => .fail)
  | _ => .fail
theorem disk_write_ok : ExtOk Tryz.prog 147 mDiskWrite := by
  refine ext_any fol namesP noX_ok (A := ann) (n := 5) fun args k H Q E hf hm => ?_
  unfold mDiskWrite at hm
  split at hm
  · split at hm
    · rename_i i D n b h1 h2 h3
      obtain ⟨rfl, hg⟩ := dDisk_eq h1
      obtain rfl := dI_eq h2
      obtain ⟨rfl, hb⟩ := dBlk_eq h3
      cases hlt : Nat.blt D.loose.length (2 ^ 40) with
      | false => rw [hlt] at hm; exact hm.elim
      | true =>
        rw [hlt] at hm
        have hlt' : D.loose.length < 2 ^ 40 := Nat.le_of_ble_eq_true hlt
        simp only [cond_true] at hm
        right
        refine ⟨i, .disk D, hg, fun l H1 hlay _ ho => ?_⟩
        have w := (lay_disk hlay).2
        have e0 := (lay_disk hlay).1
        subst e0
        have c1 := ho.disk
        have c2 := c1.push (.cells 57 (encB b))
        have x2 : (H1.push (.cells 57 (encB b))).get H1.next = some (.cells 57 (encB b)) := get_push_new
        rw [d147 rfl]
        unfold s147
        simp only [bind_ap, callF_ap, pure_ap, ok_bind, guard_ap, pck_t, pck_f, condV_t, condV_f, nilck_p, fld_p, binP_sn, binP_nn, binP_sn', binP_nn', binI_eql, binI_neq, binI_lss, binI_leq, binI_gtr, binI_geq, binI_add, binI_sub, un_not, mv, new, Nat.zero_add, Nat.add_zero, getH_ap, need_bind, sat_need, sat_ok, alloc_ap, decide_true, decide_false, cond_true, cond_false, Bool.not_true, Bool.not_false, beq_self_eq_true, bf1, bf2, bf3, bf4, Nat.mul_one, ne_eq, not_true_eq_false, not_false_eq_true, if_true, if_false, box_ap _ (.agg ⟨_⟩) rfl, vlist, dasked_func (X := noX) rfl rfl c2 w]
        unfold DiskS.write at hm
        by_cases ha : D.asked n = 0
        · obtain ⟨q0, q1, _⟩ := dasked0 ha
          have c3 := c2.push (.cells T_write (encW (n, b)))
          have x3 : (Heap.push (H1.push (.cells 57 (encB b))) (.cells T_write (encW (n, b)))).get (H1.next + 1) = some (.cells T_write (encW (n, b))) := get_push_new (H := H1.push (.cells 57 (encB b)))
          have hap := app1 (H := Heap.push (H1.push (.cells 57 (encB b))) (.cells T_write (encW (n, b)))) (e := T_write) (size := 65) (bytes := 72) (j := H.next + 2) (tag := 67) (n := D.loose.length) (old := D.loose.flatMap encW) (xs := encW (n, b)) (jx := H1.next + 1) (tx := 67)
            (by omega) (by omega) (by omega) (loose_len w) (encW_len hb) (by simp [encW, scalar]; exact fun x hx => by obtain ⟨y, _, rfl⟩ := List.mem_map.1 hx; rfl) (fun hne => (c3.loose fun h => hne (by rw [h]; rfl)).2) x3 rfl
          have e1 : (D.loose ++ [(n, b)]).flatMap encW = D.loose.flatMap encW ++ encW (n, b) := by simp
          have hW : (D.setL (D.loose ++ [(n, b)])).Wf := wf_setL w (fun x hx => by
              rcases List.mem_append.1 hx with h | h
              · exact w.ln x h
              · simp at h; subst h; exact ⟨q0, q1⟩) (fun x hx => by
              rcases List.mem_append.1 hx with h | h
              · exact w.lb x h
              · simp at h; subst h; exact hb) (by simp; omega)
          obtain ⟨m1, m2⟩ := c3.more (n, b)
          simp only [bind_ap, callF_ap, pure_ap, ok_bind, guard_ap, pck_t, pck_f, condV_t, condV_f, nilck_p, fld_p, binP_sn, binP_nn, binP_sn', binP_nn', binI_eql, binI_neq, binI_lss, binI_leq, binI_gtr, binI_geq, binI_add, binI_sub, un_not, mv, new, Nat.zero_add, Nat.add_zero, getH_ap, need_bind, sat_need, sat_ok, alloc_ap, decide_true, decide_false, cond_true, cond_false, Bool.not_true, Bool.not_false, beq_self_eq_true, bf1, bf2, bf3, bf4, Nat.mul_one, ne_eq, not_true_eq_false, not_false_eq_true, if_true, if_false, ha, ld1 c2.root (root_loose ..), ldB x2 hb, bld_w n hb, bldSlice1 219 65 ([Value.int .i64 0] ++ List.replicate 64 (Value.int .u8 0)) (.agg ⟨encW (n, b)⟩) rfl (encW_len hb) rfl, vlist] at hm ⊢
          have hap' : app 219 65 72 (accV (H.next + 2) 67 D.loose.length) (.slice (some ⟨(H1.push (.cells 57 (encB b))).next, 0, some 0⟩) 1 (65 + 2)) 4 ((H1.push (.cells 57 (encB b))).push (.cells 219 (encW (n, b)))) =
              .ok (accV ((H1.push (.cells 57 (encB b))).push (.cells T_write (encW (n, b)))).next 67 (D.loose.length + 1)) (appH ((H1.push (.cells 57 (encB b))).push (.cells T_write (encW (n, b)))) (H.next + 2) D.loose.length ((D.loose ++ [(n, b)]).flatMap encW)) := by
            rw [e1]; exact hap 4
          rw [hap']
          have s4 := st_to (n := 1) (off := 1) (x := accV ((H1.push (.cells 57 (encB b))).push (.cells T_write (encW (n, b)))).next 67 (D.loose.length + 1)) m1 rfl (by show 2 ≤ 3; omega) rfl
            (show splice _ 1 [accV ((H1.push (.cells 57 (encB b))).push (.cells T_write (encW (n, b)))).next 67 (D.loose.length + 1)] = rootD (H.next + 1) ((H1.push (.cells 57 (encB b))).push (.cells T_write (encW (n, b)))).next D.sure.length (D.loose.length + 1) D.dead from rfl)
          simp only [bind_ap, callF_ap, pure_ap, ok_bind, guard_ap, pck_t, pck_f, condV_t, condV_f, nilck_p, fld_p, binP_sn, binP_nn, binP_sn', binP_nn', binI_eql, binI_neq, binI_lss, binI_leq, binI_gtr, binI_geq, binI_add, binI_sub, un_not, mv, new, Nat.zero_add, Nat.add_zero, getH_ap, need_bind, sat_need, sat_ok, alloc_ap, decide_true, decide_false, cond_true, cond_false, Bool.not_true, Bool.not_false, beq_self_eq_true, bf1, bf2, bf3, bf4, Nat.mul_one, ne_eq, not_true_eq_false, not_false_eq_true, if_true, if_false, s4]
          exact m2.done hW hf hg (Upd.set ..) (born_head ..) rfl hm
        · simp only [bind_ap, callF_ap, pure_ap, ok_bind, guard_ap, pck_t, pck_f, condV_t, condV_f, nilck_p, fld_p, binP_sn, binP_nn, binP_sn', binP_nn', binI_eql, binI_neq, binI_lss, binI_leq, binI_gtr, binI_geq, binI_add, binI_sub, un_not, mv, new, Nat.zero_add, Nat.add_zero, getH_ap, need_bind, sat_need, sat_ok, alloc_ap, decide_true, decide_false, cond_true, cond_false, Bool.not_true, Bool.not_false, beq_self_eq_true, bf1, bf2, bf3, bf4, Nat.mul_one, ne_eq, not_true_eq_false, not_false_eq_true, if_true, if_false, ha] at hm ⊢
          exact c2.done w hf hg (Upd.set ..) (born_head ..) rfl hm
    · exact hm.elim
  · exact hm.elim

/-! ### Read -/
theorem look_cons (n : Int) (x : Int × Blk) (r : List (Int × Blk)) : DiskS.look n (x :: r) = match DiskS.look n r with
    | some b => some b
    | none => if x.1 = n then some x.2 else none := rfl
theorem look_split (n : Int) : ∀ (t : Nat) (l : List (Int × Blk)), DiskS.look n l = match DiskS.look n (l.drop t) with
    | some b => some b
    | none => DiskS.look n (l.take t)
  | 0, l => by simp only [List.drop_zero, List.take_zero]; cases DiskS.look n l <;> rfl
  | t + 1, [] => rfl
  | t + 1, x :: r => by
    rw [List.drop_succ_cons, List.take_succ_cons]
    rw [look_cons, look_cons, look_split n t r]
    cases DiskS.look n (r.drop t) <;> rfl
theorem loose_at {D : DiskS} {t : Nat} (h : t < D.loose.length) : D.loose[t]? = some D.loose[t] := List.getElem?_eq_getElem h
theorem idxS_acc (size j tag m : Nat) (t : Nat) (h : t < m) : idxS size (accV j tag m) (.int .i64 (t : Int)) = M.pure (.pointer (some ⟨j, t * size, some 0⟩)) := by
  cases m with
  | zero => omega
  | succ m =>
    unfold accV
    rw [idxS_p _ _ _ _ _ _ (Int.natCast_nonneg t) (by omega)]
    simp [mv]
def mDiskRead (args : List Value) : M Value := fun _ H => match args with
  | [p, n] => (match dDisk p H, dI .i64 n with
    | some (_, D), some n => .ok (.tuple ⟨[.agg ⟨encB (D.read n).1⟩, .int .i64 (D.read n).2]⟩) H
    | _, _ => .fail)
  | _ => .fail
theorem look_len {D : DiskS} (w : D.Wf) {n : Int} {b : Blk} : ∀ {l : List (Int × Blk)}, (∀ x ∈ l, x.2.length = 64) → DiskS.look n l = some b → b.length = 64
  | [], _, h => by cases h
  | x :: r, hl, h => by
    unfold DiskS.look at h
    cases hr : DiskS.look n r with
    | some c => rw [hr] at h; cases h; exact look_len w (fun x hx => hl x (by simp [hx])) hr
    | none =>
      rw [hr] at h
      simp only at h
      split at h
      · cases h; exact hl x (by simp)
      · cases h
theorem at_len {D : DiskS} (w : D.Wf) (n : Int) : (D.at' n).length = 64 := by
  unfold DiskS.at'
  cases h : DiskS.look n D.loose with
  | none => exact sureAt_len w n
  | some b => exact look_len w w.lb h
theorem disk_read_ok : ExtOk Tryz.prog 183 mDiskRead := by
  obtain ⟨N, hN⟩ : ∃ N, 2 ^ 40 + 100 < N := ⟨2 ^ 41, by decide⟩
  refine ext_any fol namesP noX_ok (A := ann) (n := N + 5) fun args k H Q E hf hm => ?_
  unfold mDiskRead at hm
  split at hm
  · split at hm
    · rename_i i D n h1 h2
      obtain ⟨rfl, hg⟩ := dDisk_eq h1
      obtain rfl := dI_eq h2
      right
      refine ⟨i, .disk D, hg, fun l H1 hlay _ ho => ?_⟩
      have w := (lay_disk hlay).2
      have e0 := (lay_disk hlay).1
      subst e0
      have hnx := ho.next
      have hfew := w.few
      have c1 := ho.disk
      have c2 := c1.push (.cells 57 (encB zeroB))
      have x2 : (H1.push (.cells 57 (encB zeroB))).get H1.next = some (.cells 57 (encB zeroB)) := get_push_new
      have c3 := fun o => c2.other (j := H1.next) (by have := c1.next; omega) (by have := c1.js2; omega) (fun hn => by have := (c1.loose hn).1.2.1; omega) o
      rw [d183 rfl]
      unfold s183
      rw [encB_zero]
      simp only [bind_ap, callF_ap, pure_ap, ok_bind, guard_ap, pck_t, pck_f, condV_t, condV_f, nilck_p, fld_p, binP_sn, binP_nn, binP_sn', binP_nn', binI_eql, binI_neq, binI_lss, binI_leq, binI_gtr, binI_geq, binI_add, binI_sub, un_not, mv, new, Nat.zero_add, Nat.add_zero, getH_ap, need_bind, sat_need, sat_ok, alloc_ap, decide_true, decide_false, cond_true, cond_false, Bool.not_true, Bool.not_false, beq_self_eq_true, bf1, bf2, bf3, bf4, Nat.mul_one, ne_eq, not_true_eq_false, not_false_eq_true, if_true, if_false, dasked_func (X := noX) rfl rfl c2 w]
      unfold DiskS.read at hm
      by_cases ha : D.asked n = 0
      · obtain ⟨q0, q1, _⟩ := dasked0 ha
        simp only [bind_ap, callF_ap, pure_ap, ok_bind, guard_ap, pck_t, pck_f, condV_t, condV_f, nilck_p, fld_p, binP_sn, binP_nn, binP_sn', binP_nn', binI_eql, binI_neq, binI_lss, binI_leq, binI_gtr, binI_geq, binI_add, binI_sub, un_not, mv, new, Nat.zero_add, Nat.add_zero, getH_ap, need_bind, sat_need, sat_ok, alloc_ap, decide_true, decide_false, cond_true, cond_false, Bool.not_true, Bool.not_false, beq_self_eq_true, bf1, bf2, bf3, bf4, Nat.mul_one, ne_eq, not_true_eq_false, not_false_eq_true, if_true, if_false, ha, ld1 c2.root (root_loose ..), lenL_acc] at hm ⊢
        rw [wrap64 (by omega) (by omega)]
        refine loopV_sat (fun m vs H2 => vs = [.pointer (some ⟨i, 0, some 0⟩), .int .i64 n, .pointer (some ⟨H1.next, 0, some 0⟩), .int .i64 ((m : Int) - 1)] ∧ m ≤ D.loose.length ∧ DiskS.look n (D.loose.drop m) = none ∧ H2 = H1.push (.cells 57 (encB zeroB)))
          ?_ (n := D.loose.length) ⟨rfl, Nat.le_refl _, by rw [List.drop_eq_nil_of_le (Nat.le_refl _)]; rfl, rfl⟩ (by omega)
        rintro m again vs H2 ⟨rfl, hle, hlook, rfl⟩ hagain
        simp only [mk, assoc, nat_beq, Nat.reduceBEq, cond_true, cond_false, bf1, bf2, bf3, bf4, bind_ap, callF_ap, pure_ap, ok_bind, guard_ap, pck_t, pck_f, condV_t, condV_f, nilck_p, fld_p, binP_sn, binP_nn, binP_sn', binP_nn', binI_eql, binI_neq, binI_lss, binI_leq, binI_gtr, binI_geq, binI_add, binI_sub, un_not, mv, new, Nat.zero_add, Nat.add_zero, getH_ap, need_bind, sat_need, sat_ok, alloc_ap, decide_true, decide_false, cond_true, cond_false, Bool.not_true, Bool.not_false, beq_self_eq_true, bf1, bf2, bf3, bf4, Nat.mul_one, ne_eq, not_true_eq_false, not_false_eq_true, if_true, if_false]
        cases m with
        | zero =>
          have hat : D.at' n = D.sureAt n := by unfold DiskS.at'; rw [show DiskS.look n D.loose = none by simpa using hlook]; rfl
          rw [hat] at hm
          have hl := sureAt_len w n
          have hb := ldA c2.sure (off := n.toNat * 64) (n := 64) (by rw [blocks_len w.bs]; omega) (dt_blocks w.bs (sure_at q0 q1))
          simp only [bind_ap, callF_ap, pure_ap, ok_bind, guard_ap, pck_t, pck_f, condV_t, condV_f, nilck_p, fld_p, binP_sn, binP_nn, binP_sn', binP_nn', binI_eql, binI_neq, binI_lss, binI_leq, binI_gtr, binI_geq, binI_add, binI_sub, un_not, mv, new, Nat.zero_add, Nat.add_zero, getH_ap, need_bind, sat_need, sat_ok, alloc_ap, decide_true, decide_false, cond_true, cond_false, Bool.not_true, Bool.not_false, beq_self_eq_true, bf1, bf2, bf3, bf4, Nat.mul_one, ne_eq, not_true_eq_false, not_false_eq_true, if_true, if_false, show ¬ ((0 : Int) ≤ ((0 : Nat) : Int) - 1) by omega, ld1 c2.root (root_sure ..), idxS_p 64 _ _ _ _ n q0 q1, hb, stB x2 zeroB_len hl, ldB get_set_same hl]
          exact (c3 _).done w hf hg (Upd.self hg) (born_head ..) (flat_tup2 _ _ rfl) hm
        | succ t =>
          have ht : t < D.loose.length := hle
          have e1 : ((t + 1 : Nat) : Int) - 1 = (t : Int) := by omega
          have hne : D.loose ≠ [] := fun h => by rw [h] at ht; simp at ht
          have hx := (c2.loose hne).2
          have hwl := fun x hx => encW_len (w.lb x hx)
          have hr1 := ld1 hx (off := t * 65) (v := .int .i64 D.loose[t].1) (by rw [← Nat.add_zero (t * 65), dt_fm encW hwl (loose_at ht) (by omega)]; rfl)
          have hr2 := ldA hx (off := t * 65 + 1) (n := 64) (l := encB D.loose[t].2) (by rw [loose_len w]; omega) (by
            rw [dt_fm encW hwl (loose_at ht) (by omega)]
            show ((encW D.loose[t]).drop 1).take 64 = _
            rw [encW, List.drop_succ_cons, List.drop_zero, List.take_of_length_le (by rw [encB_len (w.lb _ (List.getElem_mem ht))]; exact Nat.le_refl _)])
          rw [e1]
          have hd : D.loose.drop t = D.loose[t] :: D.loose.drop (t + 1) := List.drop_eq_getElem_cons ht
          simp only [bind_ap, callF_ap, pure_ap, ok_bind, guard_ap, pck_t, pck_f, condV_t, condV_f, nilck_p, fld_p, binP_sn, binP_nn, binP_sn', binP_nn', binI_eql, binI_neq, binI_lss, binI_leq, binI_gtr, binI_geq, binI_add, binI_sub, un_not, mv, new, Nat.zero_add, Nat.add_zero, getH_ap, need_bind, sat_need, sat_ok, alloc_ap, decide_true, decide_false, cond_true, cond_false, Bool.not_true, Bool.not_false, beq_self_eq_true, bf1, bf2, bf3, bf4, Nat.mul_one, ne_eq, not_true_eq_false, not_false_eq_true, if_true, if_false, Int.natCast_nonneg, ld1 c2.root (root_loose ..), idxS_acc 65 _ _ _ t ht, hr1]
          by_cases hq : D.loose[t].1 = n
          · have hat : D.at' n = D.loose[t].2 := by
              unfold DiskS.at'
              rw [look_split n t, hd, look_cons, hlook]; simp [hq]
            rw [hat] at hm
            have hl : (D.loose[t].2).length = 64 := w.lb _ (List.getElem_mem ht)
            simp only [bind_ap, callF_ap, pure_ap, ok_bind, guard_ap, pck_t, pck_f, condV_t, condV_f, nilck_p, fld_p, binP_sn, binP_nn, binP_sn', binP_nn', binI_eql, binI_neq, binI_lss, binI_leq, binI_gtr, binI_geq, binI_add, binI_sub, un_not, mv, new, Nat.zero_add, Nat.add_zero, getH_ap, need_bind, sat_need, sat_ok, alloc_ap, decide_true, decide_false, cond_true, cond_false, Bool.not_true, Bool.not_false, beq_self_eq_true, bf1, bf2, bf3, bf4, Nat.mul_one, ne_eq, not_true_eq_false, not_false_eq_true, if_true, if_false, hq, ld1 c2.root (root_loose ..), idxS_acc 65 _ _ _ t ht, hr2, stB x2 zeroB_len hl, ldB get_set_same hl]
            exact (c3 _).done w hf hg (Upd.self hg) (born_head ..) (flat_tup2 _ _ rfl) hm
          · simp only [bind_ap, callF_ap, pure_ap, ok_bind, guard_ap, pck_t, pck_f, condV_t, condV_f, nilck_p, fld_p, binP_sn, binP_nn, binP_sn', binP_nn', binI_eql, binI_neq, binI_lss, binI_leq, binI_gtr, binI_geq, binI_add, binI_sub, un_not, mv, new, Nat.zero_add, Nat.add_zero, getH_ap, need_bind, sat_need, sat_ok, alloc_ap, decide_true, decide_false, cond_true, cond_false, Bool.not_true, Bool.not_false, beq_self_eq_true, bf1, bf2, bf3, bf4, Nat.mul_one, ne_eq, not_true_eq_false, not_false_eq_true, if_true, if_false, hq]
            rw [wrap64 (by omega) (by omega)]
            refine hagain t _ _ (Nat.lt_succ_self t) ⟨rfl, by omega, ?_, rfl⟩
            rw [hd, look_cons, hlook]; simp [hq]
      · simp only [bind_ap, callF_ap, pure_ap, ok_bind, guard_ap, pck_t, pck_f, condV_t, condV_f, nilck_p, fld_p, binP_sn, binP_nn, binP_sn', binP_nn', binI_eql, binI_neq, binI_lss, binI_leq, binI_gtr, binI_geq, binI_add, binI_sub, un_not, mv, new, Nat.zero_add, Nat.add_zero, getH_ap, need_bind, sat_need, sat_ok, alloc_ap, decide_true, decide_false, cond_true, cond_false, Bool.not_true, Bool.not_false, beq_self_eq_true, bf1, bf2, bf3, bf4, Nat.mul_one, ne_eq, not_true_eq_false, not_false_eq_true, if_true, if_false, ha, bld_nil, stB x2 zeroB_len zeroB_len, ldB get_set_same zeroB_len] at hm ⊢
        exact (c3 _).done w hf hg (Upd.self hg) (born_head ..) (flat_tup2 _ _ rfl) hm
    · exact hm.elim
  · exact hm.elim

/-! ### Flush, New -/
theorem home_len : ∀ (l : List (Int × Blk)) (s : List Blk), (DiskS.home s l).length = s.length
  | [], s => rfl
  | x :: r, s => by show (DiskS.home (s.set x.1.toNat x.2) r).length = _; rw [home_len r]; simp
theorem home_bs : ∀ (l : List (Int × Blk)) (s : List Blk), (∀ b ∈ s, b.length = 64) → (∀ x ∈ l, x.2.length = 64) → ∀ b ∈ DiskS.home s l, b.length = 64
  | [], s, hs, _ => hs
  | x :: r, s, hs, hl => home_bs r _ (fun b hb => by
      rcases List.mem_or_eq_of_mem_set hb with h | h
      · exact hs b h
      · exact h ▸ hl x (by simp)) fun y hy => hl y (by simp [hy])
theorem home_succ (s : List Blk) (l : List (Int × Blk)) {t : Nat} (h : t < l.length) : DiskS.home s (l.take (t + 1)) = (DiskS.home s (l.take t)).set l[t].1.toNat l[t].2 := by
  unfold DiskS.home
  rw [List.take_succ_eq_append_getElem h, List.foldl_append]; rfl
theorem wf_home {D : DiskS} (w : D.Wf) {l : List (Int × Blk)} (hl : ∀ x ∈ l, x ∈ D.loose) : (D.setS (DiskS.home D.sure l)).Wf := by
  refine ⟨fun h => ?_, by show (DiskS.home D.sure l).length ≤ 512; rw [home_len]; exact w.most, home_bs l _ w.bs fun x hx => w.lb x (hl x hx), fun x hx => ?_, w.lb, w.few⟩
  · have := congrArg List.length h
    rw [show (D.setS (DiskS.home D.sure l)).sure = DiskS.home D.sure l from rfl, home_len] at this
    exact sure_pos w this
  · show 0 ≤ x.1 ∧ x.1 < ((DiskS.home D.sure l).length : Int)
    rw [home_len]; exact w.ln x hx
theorem DCur.putS {H H2 : Heap} {i js jl : Nat} {D : DiskS} (h : DCur H i js jl D H2) {s : List Blk} (hl : s.length = D.sure.length) : DCur H i js jl (D.setS s) (H2.set js (.cells T_block (s.flatMap encB))) := by
  have h1 := h.js1
  have h2 := h.lt
  refine ⟨by rw [get_set_other (by omega), show (D.setS s).sure.length = D.sure.length from hl]; exact h.root, get_set_same, fun hn => ⟨(h.loose hn).1, by rw [get_set_other (h.loose hn).1.2.2]; exact (h.loose hn).2⟩, h1, h.js2,
    fun j q1 q2 => by rw [get_set_other (by omega)]; exact h.old j q1 q2, h.next, h2⟩
def mDiskFlush (args : List Value) : M Value := fun _ H => match args with
  | [p] => (match dDisk p H with
    | some (i, D) => .ok (.int .i64 D.flush.2) (H.set i (.ghost (.disk D.flush.1)))
    | none => .fail)
  | _ => .fail
theorem disk_flush_ok : ExtOk Tryz.prog 149 mDiskFlush := by
  obtain ⟨N, hN⟩ : ∃ N, 2 ^ 40 + 100 < N := ⟨2 ^ 41, by decide⟩
  refine ext_any fol namesP noX_ok (A := ann) (n := N + 5) fun args k H Q E hf hm => ?_
  unfold mDiskFlush at hm
  split at hm
  · split at hm
    · rename_i i D h1
      obtain ⟨rfl, hg⟩ := dDisk_eq h1
      right
      refine ⟨i, .disk D, hg, fun l H1 hlay _ ho => ?_⟩
      have w := (lay_disk hlay).2
      have e0 := (lay_disk hlay).1
      subst e0
      have hnx := ho.next
      have hfew := w.few
      have c1 := ho.disk
      rw [d149 rfl]
      unfold s149
      simp only [bind_ap, callF_ap, pure_ap, ok_bind, guard_ap, pck_t, pck_f, condV_t, condV_f, nilck_p, fld_p, binP_sn, binP_nn, binP_sn', binP_nn', binI_eql, binI_neq, binI_lss, binI_leq, binI_gtr, binI_geq, binI_add, binI_sub, un_not, mv, new, Nat.zero_add, Nat.add_zero, getH_ap, need_bind, sat_need, sat_ok, alloc_ap, decide_true, decide_false, cond_true, cond_false, Bool.not_true, Bool.not_false, beq_self_eq_true, bf1, bf2, bf3, bf4, Nat.mul_one, ne_eq, not_true_eq_false, not_false_eq_true, if_true, if_false, dasked_func (X := noX) rfl rfl c1 w]
      unfold DiskS.flush at hm
      by_cases ha : D.asked 0 = 0
      · obtain ⟨q0, q1, _⟩ := dasked0 ha
        simp only [bind_ap, callF_ap, pure_ap, ok_bind, guard_ap, pck_t, pck_f, condV_t, condV_f, nilck_p, fld_p, binP_sn, binP_nn, binP_sn', binP_nn', binI_eql, binI_neq, binI_lss, binI_leq, binI_gtr, binI_geq, binI_add, binI_sub, un_not, mv, new, Nat.zero_add, Nat.add_zero, getH_ap, need_bind, sat_need, sat_ok, alloc_ap, decide_true, decide_false, cond_true, cond_false, Bool.not_true, Bool.not_false, beq_self_eq_true, bf1, bf2, bf3, bf4, Nat.mul_one, ne_eq, not_true_eq_false, not_false_eq_true, if_true, if_false, ha, ld1 c1.root (root_loose ..), lenL_acc] at hm ⊢
        refine loopV_sat (fun m vs H2 => ∃ t, m = D.loose.length - t ∧ t ≤ D.loose.length ∧ vs = [.pointer (some ⟨i, 0, some 0⟩), accV (H.next + 2) 67 D.loose.length, .int .i64 D.loose.length, .int .i64 (t : Int)] ∧
          DCur H i (H.next + 1) (H.next + 2) (D.setS (DiskS.home D.sure (D.loose.take t))) H2) ?_ (n := D.loose.length) ⟨0, rfl, Nat.zero_le _, rfl, c1⟩ (by omega)
        rintro m again vs H2 ⟨t, rfl, hle, rfl, c2⟩ hagain
        have w2 : (D.setS (DiskS.home D.sure (D.loose.take t))).Wf := wf_home w fun x hx => List.mem_of_mem_take hx
        simp only [mk, assoc, nat_beq, Nat.reduceBEq, cond_true, cond_false, bf1, bf2, bf3, bf4, bind_ap, callF_ap, pure_ap, ok_bind, guard_ap, pck_t, pck_f, condV_t, condV_f, nilck_p, fld_p, binP_sn, binP_nn, binP_sn', binP_nn', binI_eql, binI_neq, binI_lss, binI_leq, binI_gtr, binI_geq, binI_add, binI_sub, un_not, mv, new, Nat.zero_add, Nat.add_zero, getH_ap, need_bind, sat_need, sat_ok, alloc_ap, decide_true, decide_false, cond_true, cond_false, Bool.not_true, Bool.not_false, beq_self_eq_true, bf1, bf2, bf3, bf4, Nat.mul_one, ne_eq, not_true_eq_false, not_false_eq_true, if_true, if_false]
        by_cases ht : t < D.loose.length
        · have hne : D.loose ≠ [] := fun h => by rw [h] at ht; simp at ht
          obtain ⟨⟨a1, a2, a3⟩, hx⟩ := c2.loose hne
          have hwl := fun x hx => encW_len (w.lb x hx)
          have hbl := w.lb _ (List.getElem_mem ht)
          have hln := w.ln _ (List.getElem_mem ht)
          have hr1 := ldA hx (off := t * 65) (n := 65) (l := encW D.loose[t]) (by
            show _ ≤ (D.loose.flatMap encW).length
            rw [loose_len w]; omega) (by
            show ((D.loose.flatMap encW).drop (t * 65)).take 65 = _
            rw [← Nat.add_zero (t * 65), dt_fm encW hwl (loose_at ht) (by omega), List.drop_zero, List.take_of_length_le (by rw [encW_len hbl]; exact Nat.le_refl _)])
          have c3 := c2.push (.cells T_write ([Value.int .i64 0] ++ List.replicate 64 (Value.int .u8 0)))
          have x3 : (H2.push (.cells T_write ([Value.int .i64 0] ++ List.replicate 64 (Value.int .u8 0)))).get H2.next = some (.cells T_write ([Value.int .i64 0] ++ List.replicate 64 (Value.int .u8 0))) := get_push_new
          have s4 := st_to (n := 65) (off := 0) (x := .agg ⟨encW D.loose[t]⟩) x3 (encW_len hbl) (by rw [List.length_append, List.length_replicate]; exact Nat.le_refl _) (by
            show (encW D.loose[t]).all scalar = true
            simp [encW, scalar]; exact fun x hx => by obtain ⟨y, _, rfl⟩ := List.mem_map.1 hx; rfl) (show splice _ 0 (encW D.loose[t]) = encW D.loose[t] by
            unfold splice; rw [List.drop_eq_nil_of_le (by rw [encW_len hbl, List.length_append, List.length_replicate]; exact Nat.le_refl _)]; simp)
          have c4 := c3.other (j := H2.next) (by have := c2.next; omega) (by have := c2.js2; omega) (fun _ => by omega) (.cells T_write (encW D.loose[t]))
          generalize hH4 : (H2.push (.cells T_write ([Value.int .i64 0] ++ List.replicate 64 (Value.int .u8 0)))).set H2.next (.cells T_write (encW D.loose[t])) = H4 at s4 c4
          have x4 := (congrArg (fun H => Heap.get H H2.next) hH4).symm.trans get_set_same
          have r1 := ld1 x4 (off := 0) (v := .int .i64 D.loose[t].1) rfl
          have r2 := ldA x4 (off := 1) (n := 64) (l := encB D.loose[t].2) (by rw [encW_len hbl]; exact Nat.le_refl _) (by
            rw [encW, List.drop_succ_cons, List.drop_zero, List.take_of_length_le (by rw [encB_len hbl]; exact Nat.le_refl _)])
          have hsl : (D.setS (DiskS.home D.sure (D.loose.take t))).sure.length = D.sure.length := home_len _ _
          have s5 := st_to (n := 64) (off := D.loose[t].1.toNat * 64) (x := .agg ⟨encB D.loose[t].2⟩) c4.sure (encB_len hbl) (by rw [blocks_len w2.bs, hsl]; omega) (encB_scalar _)
            (sp_blocks D.loose[t].2 w2.bs hbl (by rw [hsl]; omega))
          have c5 := c4.putS (s := (DiskS.home D.sure (D.loose.take t)).set D.loose[t].1.toNat D.loose[t].2) (by simp; exact (home_len _ _).symm ▸ rfl)
          have hidx := idxS_p 64 ⟨H.next + 1, 0, some 0⟩ (D.setS (DiskS.home D.sure (D.loose.take t))).sure.length 66 .i64 D.loose[t].1 hln.1 (by rw [hsl]; exact hln.2)
          have hlt : ((t : Int) < (D.loose.length : Int)) := by omega
          have e5 : T_write = 219 := rfl
          rw [e5] at s4 hH4
          simp only [bind_ap, callF_ap, pure_ap, ok_bind, guard_ap, pck_t, pck_f, condV_t, condV_f, nilck_p, fld_p, binP_sn, binP_nn, binP_sn', binP_nn', binI_eql, binI_neq, binI_lss, binI_leq, binI_gtr, binI_geq, binI_add, binI_sub, un_not, mv, new, Nat.zero_add, Nat.add_zero, getH_ap, need_bind, sat_need, sat_ok, alloc_ap, decide_true, decide_false, cond_true, cond_false, Bool.not_true, Bool.not_false, beq_self_eq_true, bf1, bf2, bf3, bf4, Nat.mul_one, ne_eq, not_true_eq_false, not_false_eq_true, if_true, if_false, hlt, idxS_acc 65 _ _ _ t ht, hr1, s4, ld1 c4.root (root_sure ..), r1, r2, hidx, s5]
          rw [wrap64 (by omega) (by omega)]
          refine hagain (D.loose.length - (t + 1)) _ _ (by omega) ⟨t + 1, rfl, by omega, rfl, ?_⟩
          rw [home_succ _ _ ht]
          exact c5
        · have het : t = D.loose.length := by omega
          subst het
          have hlt : ¬ ((D.loose.length : Int) < (D.loose.length : Int)) := by omega
          have s3 := st_to (n := 1) (off := 1) (x := .slice none 0 0) c2.root rfl (by show 2 ≤ 3; omega) rfl (show splice _ 1 [Value.slice none 0 0] = rootD (H.next + 1) 0 (D.setS (DiskS.home D.sure (D.loose.take D.loose.length))).sure.length 0 D.dead from rfl)
          have c3 := c2.put (D' := (D.setS (DiskS.home D.sure (D.loose.take D.loose.length))).setL []) 0 rfl (fun hn => absurd rfl hn)
          simp only [bind_ap, callF_ap, pure_ap, ok_bind, guard_ap, pck_t, pck_f, condV_t, condV_f, nilck_p, fld_p, binP_sn, binP_nn, binP_sn', binP_nn', binI_eql, binI_neq, binI_lss, binI_leq, binI_gtr, binI_geq, binI_add, binI_sub, un_not, mv, new, Nat.zero_add, Nat.add_zero, getH_ap, need_bind, sat_need, sat_ok, alloc_ap, decide_true, decide_false, cond_true, cond_false, Bool.not_true, Bool.not_false, beq_self_eq_true, bf1, bf2, bf3, bf4, Nat.mul_one, ne_eq, not_true_eq_false, not_false_eq_true, if_true, if_false, hlt, s3]
          rw [List.take_length] at c3 ⊢
          have w3 : ((D.setS (DiskS.home D.sure D.loose)).setL []).Wf := wf_setL (wf_home w fun x hx => hx) (fun _ h => by simp at h) (fun _ h => by simp at h) (Nat.zero_le _)
          exact c3.done w3 hf hg (Upd.set ..) (born_head ..) rfl hm
      · simp only [bind_ap, callF_ap, pure_ap, ok_bind, guard_ap, pck_t, pck_f, condV_t, condV_f, nilck_p, fld_p, binP_sn, binP_nn, binP_sn', binP_nn', binI_eql, binI_neq, binI_lss, binI_leq, binI_gtr, binI_geq, binI_add, binI_sub, un_not, mv, new, Nat.zero_add, Nat.add_zero, getH_ap, need_bind, sat_need, sat_ok, alloc_ap, decide_true, decide_false, cond_true, cond_false, Bool.not_true, Bool.not_false, beq_self_eq_true, bf1, bf2, bf3, bf4, Nat.mul_one, ne_eq, not_true_eq_false, not_false_eq_true, if_true, if_false, ha] at hm ⊢
        exact c1.done w hf hg (Upd.set ..) (born_head ..) rfl hm
    · exact hm.elim
  · exact hm.elim

def mDiskNew (args : List Value) : M Value := fun _ H => match args with
  | [n] => (match dI .i64 n with
    | some n => if n < 1 ∨ 512 < n then .ok (.tuple ⟨[.pointer none, .int .i64 2]⟩) H else .ok (.tuple ⟨[ptrTo H.next, .int .i64 0]⟩) (H.push (.ghost (.disk (DiskS.new n))))
    | none => .fail)
  | _ => .fail
theorem wf_new {n : Int} (h1 : 1 ≤ n) (h2 : n ≤ 512) : (DiskS.new n).Wf := by
  refine ⟨fun h => ?_, ?_, fun b hb => ?_, fun _ h => by simp [DiskS.new] at h, fun _ h => by simp [DiskS.new] at h, Nat.zero_le _⟩
  · have := congrArg List.length h; simp [DiskS.new] at this; omega
  · simp [DiskS.new]; omega
  · rw [List.eq_of_mem_replicate (show b ∈ List.replicate n.toNat zeroB from hb)]; rfl
theorem rep_zero (n : Nat) : rep n (encB zeroB) = (List.replicate n zeroB).flatMap encB := by
  unfold rep; rw [List.flatMap_def, List.map_replicate]
theorem mkSlice_ap (e : TypeId) (size bytes : Nat) (z : List Value) {n : Int} (h0 : 0 ≤ n) (h1 : bytes * n ≤ 2 ^ 47) (h2 : n < 2 ^ 62) (k : Nat) (H : Heap) :
    mkSlice e size bytes z (.int .i64 n) (.int .i64 n) k H = .ok (.slice (some ⟨H.next, 0, some 0⟩) n.toNat (size + 2)) (H.push (.cells e (rep n.toNat z))) := by
  have h : (decide (0 ≤ n) && decide (n ≤ n) && decide (bytes * n ≤ 2 ^ 47) && decide (n < 2 ^ 62)) = true := by
    simp only [h0, Int.le_refl, h1, h2, decide_true, Bool.and_self]
  unfold mkSlice
  simp only [h, cond_true, new]
theorem disk_new_ok : ExtOk Tryz.prog 82 mDiskNew := by
  refine ext_any fol namesP noX_ok (A := ann) (n := 3) fun args k H Q E hf hm => ?_
  unfold mDiskNew at hm
  split at hm
  · rename_i n
    split at hm
    · rename_i n' h1
      obtain rfl := dI_eq h1
      clear h1
      left
      rw [d82 rfl]
      unfold s82
      rw [encB_zero]
      by_cases h1 : n' < 1
      · simp only [bind_ap, callF_ap, pure_ap, ok_bind, guard_ap, pck_t, pck_f, condV_t, condV_f, nilck_p, fld_p, binP_sn, binP_nn, binP_sn', binP_nn', binI_eql, binI_neq, binI_lss, binI_leq, binI_gtr, binI_geq, binI_add, binI_sub, un_not, mv, new, Nat.zero_add, Nat.add_zero, getH_ap, need_bind, sat_need, sat_ok, alloc_ap, decide_true, decide_false, cond_true, cond_false, Bool.not_true, Bool.not_false, beq_self_eq_true, bf1, bf2, bf3, bf4, Nat.mul_one, ne_eq, not_true_eq_false, not_false_eq_true, if_true, if_false, h1, true_or] at hm ⊢
        exact Done.same hf (Nat.le_refl _) (fun j hj => rfl) rfl hm
      · by_cases h2 : 512 < n'
        · simp only [bind_ap, callF_ap, pure_ap, ok_bind, guard_ap, pck_t, pck_f, condV_t, condV_f, nilck_p, fld_p, binP_sn, binP_nn, binP_sn', binP_nn', binI_eql, binI_neq, binI_lss, binI_leq, binI_gtr, binI_geq, binI_add, binI_sub, un_not, mv, new, Nat.zero_add, Nat.add_zero, getH_ap, need_bind, sat_need, sat_ok, alloc_ap, decide_true, decide_false, cond_true, cond_false, Bool.not_true, Bool.not_false, beq_self_eq_true, bf1, bf2, bf3, bf4, Nat.mul_one, ne_eq, not_true_eq_false, not_false_eq_true, if_true, if_false, h1, h2, or_true] at hm ⊢
          exact Done.same hf (Nat.le_refl _) (fun j hj => rfl) rfl hm
        · have w := wf_new (n := n') (by omega) (by omega)
          have hr : rep n'.toNat (encB zeroB) = (DiskS.new n').sure.flatMap encB := rep_zero _
          have hl : (DiskS.new n').sure.length = n'.toNat := by simp [DiskS.new]
          have hb : bld [.slice none 0 0, .slice none 0 0, .bool false] [(0, 1, Value.slice (some ⟨H.next, 0, some 0⟩) n'.toNat (64 + 2))] = M.pure (.agg ⟨rootD H.next 0 n'.toNat 0 false⟩) := rfl
          simp only [bind_ap, callF_ap, pure_ap, ok_bind, guard_ap, pck_t, pck_f, condV_t, condV_f, nilck_p, fld_p, binP_sn, binP_nn, binP_sn', binP_nn', binI_eql, binI_neq, binI_lss, binI_leq, binI_gtr, binI_geq, binI_add, binI_sub, un_not, mv, new, Nat.zero_add, Nat.add_zero, getH_ap, need_bind, sat_need, sat_ok, alloc_ap, decide_true, decide_false, cond_true, cond_false, Bool.not_true, Bool.not_false, beq_self_eq_true, bf1, bf2, bf3, bf4, Nat.mul_one, ne_eq, not_true_eq_false, not_false_eq_true, if_true, if_false, h1, h2, or_self, mkSlice_ap _ 64 64 _ (show 0 ≤ n' by omega) (by omega) (by omega), hb, box_ap _ (.agg ⟨rootD _ _ _ _ _⟩) rfl, vlist, Heap.next_push] at hm ⊢
          rw [hr]
          have hlay : layDisk (DiskS.new n') = [.cells T_disk [.slice (some (new 1 0)) n'.toNat 66, .slice none 0 0, .bool false], .cells T_block ((DiskS.new n').sure.flatMap encB)] := by
            unfold layDisk; rw [hl]; rfl
          have lay : Lay (.disk (DiskS.new n')) [.cells T_disk [.slice (some (new 1 0)) n'.toNat 66, .slice none 0 0, .bool false], .cells T_block ((DiskS.new n').sure.flatMap encB)] := ⟨hlay.symm, w⟩
          refine Done.newG (rest := [H.next]) hf (j0 := H.next + 1) (by omega) lay rfl (by simp) (by simp) (fun k o hk => ?_) (fun k o h1 hk _ => ?_) (fun j hj => by rw [get_push_old (by simp; omega), get_push_old hj]) (by simp; omega) (.arg (by simp [menL, men, menR])) (v1 := .tuple ⟨[ptrTo H.next, .int .i64 0]⟩)
            (by simp [rn, rnR, rnL, ptrTo, rnA, new, keepT]) hm
          · match k, hk with
            | 0, hk =>
              obtain rfl := Option.some.inj hk
              refine ⟨rfl, ?_⟩
              show Heap.get _ (H.next + 1) = _
              rw [show H.next + 1 = (H.push (.cells 57 ((DiskS.new n').sure.flatMap encB))).next from rfl, get_push_new]
              simp [rnO, rnL, rn, rnA, new, rootD, accV, nth, T_disk]
            | 1, hk =>
              obtain rfl := Option.some.inj hk
              refine ⟨rfl, ?_⟩
              show Heap.get _ H.next = _
              rw [get_push_old (by simp), get_push_new]; simp only [rnO, rnL_flat _ (flat_sure _)]; rfl
            | k + 2, hk => simp at hk
          · match k, h1, hk with
            | 1, _, hk => exact ⟨0, _, by omega, rfl, by simp [menO, menL, men, new]⟩
            | k + 2, _, hk => simp at hk
    · exact hm.elim
  · exact hm.elim
end Go.Am
