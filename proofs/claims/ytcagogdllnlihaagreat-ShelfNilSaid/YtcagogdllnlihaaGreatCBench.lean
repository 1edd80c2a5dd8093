/- Contracts of package bench. -/
import Derived.Test.YtcagogdllnlihaaGreatCDisk
import Derived.Test.YtcagogdllnlihaaGreatShBench
set_option linter.all false
namespace Go.Am
open Go.Proofs
set_option linter.unusedSimpArgs false
set_option linter.unusedVariables false

/-! ### what a bench does -/
namespace BenchS
def there (B : BenchS) (d : Int) : Int := if 0 ≤ d ∧ d < B.disks.length then 0 else 2
def lit (B : BenchS) (d : Int) : Int := if B.dark = true then 8 else B.there d
def disk (B : BenchS) (d : Int) : DiskS := B.disks.getD d.toNat (DiskS.new 1)
def setDisk (B : BenchS) (d : Int) (D : DiskS) : BenchS := { B with disks := B.disks.set d.toNat D }
def setSt (B : BenchS) (n : Int) : BenchS := { B with steps := n }
def setAr (B : BenchS) (n : Int) : BenchS := { B with armed := n }
def setDk (B : BenchS) (x : Bool) : BenchS := { B with dark := x }
def read (B : BenchS) (d n : Int) : Blk × Int := if B.lit d = 0 then (B.disk d).read n else (zeroB, B.lit d)
def sectors (B : BenchS) (d : Int) : Int := if B.there d = 0 then (B.disk d).sure.length else 0
def sureOf (B : BenchS) (d n : Int) : Blk × Int := if B.there d = 0 then (B.disk d).sureOf n else (zeroB, B.there d)
/-- a step: the bench behind it, whether it was done -/
def step (B : BenchS) : BenchS × Bool :=
  if B.armed = 0 then (B.setSt (IntKind.i64.wrap (B.steps + 1)), true)
  else if B.armed = 1 then (B.setDk true, false)
  else ((B.setAr (IntKind.i64.wrap (B.armed - 1))).setSt (IntKind.i64.wrap (B.steps + 1)), true)
def write (B : BenchS) (d n : Int) (b : Blk) : BenchS × Int :=
  if (B.read d n).2 = 0 then (if B.step.2 = true then (B.step.1.setDisk d ((B.disk d).write n b).1, ((B.disk d).write n b).2) else (B.step.1, 8)) else (B, (B.read d n).2)
def flush (B : BenchS) (d : Int) : BenchS × Int :=
  if (B.read d 0).2 = 0 then (if B.step.2 = true then (B.step.1.setDisk d (B.disk d).flush.1, (B.disk d).flush.2) else (B.step.1, 8)) else (B, (B.read d 0).2)
def fail (B : BenchS) (d : Int) : BenchS × Int := if B.there d = 0 then (B.setDisk d (B.disk d).fail.1, 0) else (B, B.there d)
def new (l : List Int) : BenchS := ⟨l.map DiskS.new, 0, 0, false⟩
end BenchS

def extB : Exts := extOf [(141, mDiskSectors), (52, mDiskSure), (50, mDiskFail), (147, mDiskWrite),
  (183, mDiskRead), (149, mDiskFlush), (82, mDiskNew)]
theorem extB_ok : ∀ f m, extB f = some m → ExtOk Tryz.prog f m := extOf_ok fun x hx => by
  simp only [List.mem_cons, List.not_mem_nil, or_false] at hx
  rcases hx with rfl | rfl | rfl | rfl | rfl | rfl | rfl
  · exact disk_sectors_ok
  · exact disk_sure_ok
  · exact disk_fail_ok
  · exact disk_write_ok
  · exact disk_read_ok
  · exact disk_flush_ok
  · exact disk_new_ok

theorem dDisk_ptr {H : Heap} {j : Nat} {D : DiskS} (h : H.get j = some (.ghost (.disk D))) : dDisk (.pointer (some ⟨j, 0, some 0⟩)) H = some (j, D) := by simp [dDisk, dGh, h]
theorem x_read {X : Exts} (hX : X 183 = some mDiskRead) {H : Heap} {j : Nat} {D : DiskS} (h : H.get j = some (.ghost (.disk D))) (n : Int) (N : Nat) :
    func Tryz.prog X ann (N + 1) 183 [.pointer (some ⟨j, 0, some 0⟩), .int .i64 n] H = .ok (.tuple ⟨[.agg ⟨encB (D.read n).1⟩, .int .i64 (D.read n).2]⟩) H := by
  rw [func_ext hX]; simp only [mDiskRead, dDisk_ptr h, dI_int]
theorem x_sure {X : Exts} (hX : X 52 = some mDiskSure) {H : Heap} {j : Nat} {D : DiskS} (h : H.get j = some (.ghost (.disk D))) (n : Int) (N : Nat) :
    func Tryz.prog X ann (N + 1) 52 [.pointer (some ⟨j, 0, some 0⟩), .int .i64 n] H = .ok (.tuple ⟨[.agg ⟨encB (D.sureOf n).1⟩, .int .i64 (D.sureOf n).2]⟩) H := by
  rw [func_ext hX]; simp only [mDiskSure, dDisk_ptr h, dI_int]
theorem x_sectors {X : Exts} (hX : X 141 = some mDiskSectors) {H : Heap} {j : Nat} {D : DiskS} (h : H.get j = some (.ghost (.disk D))) (N : Nat) :
    func Tryz.prog X ann (N + 1) 141 [.pointer (some ⟨j, 0, some 0⟩)] H = .ok (.int .i64 D.sure.length) H := by
  rw [func_ext hX]; simp only [mDiskSectors, dDisk_ptr h]
theorem x_fail {X : Exts} (hX : X 50 = some mDiskFail) {H : Heap} {j : Nat} {D : DiskS} (h : H.get j = some (.ghost (.disk D))) (N : Nat) :
    func Tryz.prog X ann (N + 1) 50 [.pointer (some ⟨j, 0, some 0⟩)] H = .ok (.int .i64 0) (H.set j (.ghost (.disk D.fail.1))) := by
  rw [func_ext hX]; simp only [mDiskFail, dDisk_ptr h]
theorem x_flush {X : Exts} (hX : X 149 = some mDiskFlush) {H : Heap} {j : Nat} {D : DiskS} (h : H.get j = some (.ghost (.disk D))) (N : Nat) :
    func Tryz.prog X ann (N + 1) 149 [.pointer (some ⟨j, 0, some 0⟩)] H = .ok (.int .i64 D.flush.2) (H.set j (.ghost (.disk D.flush.1))) := by
  rw [func_ext hX]; simp only [mDiskFlush, dDisk_ptr h]
theorem x_write {X : Exts} (hX : X 147 = some mDiskWrite) {H : Heap} {j : Nat} {D : DiskS} (h : H.get j = some (.ghost (.disk D))) (hl : D.loose.length < 2 ^ 40) (n : Int) {b : Blk} (hb : b.length = 64) (N : Nat) :
    func Tryz.prog X ann (N + 1) 147 [.pointer (some ⟨j, 0, some 0⟩), .int .i64 n, .agg ⟨encB b⟩] H = .ok (.int .i64 (D.write n b).2) (H.set j (.ghost (.disk (D.write n b).1))) := by
  rw [func_ext hX]; simp only [mDiskWrite, dDisk_ptr h, dI_int, dBlk_enc hb, Nat.blt, Nat.ble_eq_true_of_le (show D.loose.length + 1 ≤ 2 ^ 40 from hl), cond_true]

/-! ### a bench that lies open -/
def T_bench : TypeId := 112
def T_pdisk : TypeId := 109
def rootB (jd : Nat) (B : BenchS) : List Value := [.slice (some ⟨jd, 0, some 0⟩) B.disks.length 3, .int .i64 B.steps, .int .i64 B.armed, .bool B.dark]
structure BCur (H : Heap) (i jd : Nat) (ids : List Nat) (B : BenchS) (H2 : Heap) : Prop where
  root : H2.get i = some (.cells T_bench (rootB jd B))
  ptrs : H2.get jd = some (.cells T_pdisk (ids.map ptrTo))
  disks : ∀ (k : Nat) d, B.disks[k]? = some d → ∃ j, ids[k]? = some j ∧ H2.get j = some (.ghost (.disk d))
  len : ids.length = B.disks.length
  nd : (jd :: ids).Nodup
  ge : ∀ j ∈ jd :: ids, H.next ≤ j
  lt' : ∀ j ∈ jd :: ids, j < H2.next
  old : ∀ j, j < H.next → j ≠ i → H2.get j = H.get j
  next : H.next ≤ H2.next
  lt : i < H.next
structure BenchS.Wf (B : BenchS) : Prop where
  pos : B.disks ≠ []
  ds : ∀ d ∈ B.disks, d.Wf
theorem lay_bench {B : BenchS} {l : List Ob} (h : Lay (.bench B) l) : l = layBench B ∧ B.Wf := ⟨h.1, h.2.1, h.2.2⟩
theorem bench_lay {B : BenchS} (w : B.Wf) : Lay (.bench B) (layBench B) := ⟨rfl, w.pos, w.ds⟩
theorem rnL_ptrs (σ : Nat → Nat) (l : List Nat) : rnL σ (l.map ptrTo) = (l.map σ).map ptrTo := by
  rw [rnL_eq, List.map_map, List.map_map]
  exact List.map_congr_left fun k _ => by simp [rn, ptrTo, rnA, new]
theorem layBench_get (B : BenchS) (k : Nat) : (layBench B)[k + 2]? = (B.disks[k]?).map fun d => .ghost (.disk d) := by simp [layBench]
theorem layBench_len (B : BenchS) : (layBench B).length = B.disks.length + 2 := by simp [layBench]
theorem Opened.bench {H H1 : Heap} {i : Nat} {B : BenchS} (ho : Opened H i (layBench B) H1) : BCur H i (H.next + 1) ((List.range B.disks.length).map fun k => H.next + (2 + k)) B H1 := by
  have hn := ho.next
  rw [layBench_len] at hn
  have e0 := ho.at' 0 _ rfl
  have e1 := ho.at' 1 _ rfl
  rw [show sg i H.next 0 = i from rfl] at e0
  rw [show sg i H.next 1 = H.next + 1 from rfl] at e1
  refine ⟨?_, ?_, fun k d hd => ?_, by simp, ?_, fun j hj => ?_, fun j hj => ?_, ho.old, by omega, ho.lt⟩
  · rw [e0]; simp [rnO, rnL, rn, rnA, new, rootB, sg, T_bench]
  · rw [e1]
    have h1 : ((List.range B.disks.length).map fun k => ptrTo (2 + k)) = ((List.range B.disks.length).map fun k => 2 + k).map ptrTo := by rw [List.map_map]; rfl
    have h2 : (((List.range B.disks.length).map fun k => 2 + k).map (sg i H.next)) = (List.range B.disks.length).map fun k => H.next + (2 + k) := by
      rw [List.map_map]; exact List.map_congr_left fun k _ => by simp [sg]
    show some (rnO _ (Ob.cells 109 ((List.range B.disks.length).map fun k => ptrTo (2 + k)))) = _
    rw [h1]
    simp only [rnO]
    rw [rnL_ptrs, h2]; rfl
  · have hk := (List.getElem?_eq_some_iff.1 hd).1
    refine ⟨H.next + (2 + k), by simp [hk], ?_⟩
    have := ho.at' (k + 2) (.ghost (.disk d)) (by rw [layBench_get, hd]; rfl)
    rw [show sg i H.next (k + 2) = H.next + (2 + k) by simp [sg]; omega] at this
    exact this
  · refine List.nodup_cons.2 ⟨by simp; omega, ?_⟩
    refine List.pairwise_map.2 (List.Pairwise.imp ?_ List.nodup_range)
    intro a b hab h
    exact hab (by omega)
  · rcases List.mem_cons.1 hj with rfl | hj
    · omega
    · obtain ⟨k, _, rfl⟩ := List.mem_map.1 hj; omega
  · rcases List.mem_cons.1 hj with rfl | hj
    · omega
    · obtain ⟨k, hk, rfl⟩ := List.mem_map.1 hj
      have := List.mem_range.1 hk; omega

theorem BCur.push {H H2 : Heap} {i jd : Nat} {ids : List Nat} {B : BenchS} (h : BCur H i jd ids B H2) (o : Ob) : BCur H i jd ids B (H2.push o) := by
  have hn := h.next
  have hl := h.lt
  refine ⟨by rw [get_push_old (by omega)]; exact h.root, by rw [get_push_old (h.lt' _ (by simp))]; exact h.ptrs, fun k d hd => ?_, h.len, h.nd, h.ge, fun j hj => by have := h.lt' j hj; simp; omega, fun j q1 q2 => by rw [get_push_old (by omega)]; exact h.old j q1 q2, by simp; omega, hl⟩
  obtain ⟨j, h1, h2⟩ := h.disks k d hd
  exact ⟨j, h1, by rw [get_push_old (h.lt' _ (by simp [List.mem_of_getElem? h1]))]; exact h2⟩
theorem BCur.other {H H2 : Heap} {i jd : Nat} {ids : List Nat} {B : BenchS} (h : BCur H i jd ids B H2) {j : Nat} (h1 : H.next ≤ j) (h2 : j ∉ jd :: ids) (o : Ob) : BCur H i jd ids B (H2.set j o) := by
  have hl := h.lt
  have h3 : j ≠ jd := fun e => h2 (by simp [e])
  refine ⟨by rw [get_set_other (by omega)]; exact h.root, by rw [get_set_other (Ne.symm h3)]; exact h.ptrs, fun k d hd => ?_, h.len, h.nd, h.ge, h.lt', fun l q1 q2 => by rw [get_set_other (by omega)]; exact h.old l q1 q2, h.next, hl⟩
  obtain ⟨j', q1, q2⟩ := h.disks k d hd
  exact ⟨j', q1, by rw [get_set_other (fun e => h2 (by simp [← e, List.mem_of_getElem? q1]))]; exact q2⟩
/-- the root is written -/
theorem BCur.put {H H2 : Heap} {i jd : Nat} {ids : List Nat} {B : BenchS} (h : BCur H i jd ids B H2) (B' : BenchS) (hd : B'.disks = B.disks) : BCur H i jd ids B' (H2.set i (.cells T_bench (rootB jd B'))) := by
  have hl := h.lt
  have hg := h.ge jd (by simp)
  refine ⟨get_set_same, by rw [get_set_other (by omega)]; exact h.ptrs, fun k d hk => ?_, by rw [hd]; exact h.len, h.nd, h.ge, h.lt', fun j q1 q2 => by rw [get_set_other q2]; exact h.old j q1 q2, h.next, hl⟩
  rw [hd] at hk
  obtain ⟨j', q1, q2⟩ := h.disks k d hk
  exact ⟨j', q1, by rw [get_set_other (by have := h.ge j' (by simp [List.mem_of_getElem? q1]); omega)]; exact q2⟩
/-- a disk is another one -/
theorem BCur.disk {H H2 : Heap} {i jd : Nat} {ids : List Nat} {B : BenchS} (h : BCur H i jd ids B H2) {d : Int} {j : Nat} (hj : ids[d.toNat]? = some j) (D : DiskS) : BCur H i jd ids (B.setDisk d D) (H2.set j (.ghost (.disk D))) := by
  have hl := h.lt
  have hm := List.mem_of_getElem? hj
  have hg := h.ge j (by simp [hm])
  have nd := List.nodup_cons.1 h.nd
  have hjd : jd ≠ j := fun e => nd.1 (e ▸ hm)
  refine ⟨?_, by rw [get_set_other hjd]; exact h.ptrs, fun k d' hk => ?_, by rw [h.len]; simp [BenchS.setDisk], h.nd, h.ge, h.lt', fun l q1 q2 => by rw [get_set_other (by omega)]; exact h.old l q1 q2, h.next, hl⟩
  · rw [get_set_other (by omega), h.root]; simp [rootB, BenchS.setDisk]
  · have hk' : (B.disks.set d.toNat D)[k]? = some d' := hk
    rw [List.getElem?_set] at hk'
    split at hk'
    · rename_i e
      split at hk'
      · obtain rfl := Option.some.inj hk'
        exact ⟨j, e ▸ hj, get_set_same⟩
      · cases hk'
    · rename_i e
      obtain ⟨j', q1, q2⟩ := h.disks k d' hk'
      refine ⟨j', q1, ?_⟩
      rw [get_set_other]; · exact q2
      intro e2
      subst e2
      have b1 := (List.getElem?_eq_some_iff.1 q1)
      have b2 := (List.getElem?_eq_some_iff.1 hj)
      exact e (nodup_get nd.2 b2.1 b1.1 (b2.2.trans b1.2.symm))
theorem wf_setDisk {B : BenchS} (w : B.Wf) (d : Int) {D : DiskS} (h : D.Wf) : (B.setDisk d D).Wf :=
  ⟨fun e => w.pos (by have := congrArg List.length e; simp [BenchS.setDisk] at this; exact this), fun x hx => by rcases List.mem_or_eq_of_mem_set hx with h1 | h1; exact w.ds x h1; exact h1 ▸ h⟩
theorem wf_put {B B' : BenchS} (w : B.Wf) (hd : B'.disks = B.disks) : B'.Wf := ⟨by rw [hd]; exact w.pos, by rw [hd]; exact w.ds⟩
/-- what must hold where a bench is shut again -/
theorem BCur.hat {H H2 : Heap} {i jd : Nat} {ids : List Nat} {B : BenchS} (h : BCur H i jd ids B H2) : ∀ k o, (layBench B)[k]? = some o → solid o = true ∧ H2.get (nth (i :: jd :: ids) H2.next k) = some (rnO (nth (i :: jd :: ids) H2.next) o) := by
  intro k o hk
  match k, hk with
  | 0, hk =>
    obtain rfl := Option.some.inj hk
    refine ⟨rfl, ?_⟩
    show H2.get i = _
    rw [h.root]; simp [rnO, rnL, rn, rnA, new, rootB, nth, T_bench]
  | 1, hk =>
    obtain rfl := Option.some.inj hk
    refine ⟨rfl, ?_⟩
    show H2.get jd = _
    rw [h.ptrs]
    have h1 : ((List.range B.disks.length).map fun k => ptrTo (2 + k)) = ((List.range B.disks.length).map fun k => 2 + k).map ptrTo := by rw [List.map_map]; rfl
    have h2 : (((List.range B.disks.length).map fun k => 2 + k).map (nth (i :: jd :: ids) H2.next)) = ids := by
      rw [List.map_map]
      apply List.ext_getElem
      · simp [h.len]
      · intro k q1 q2
        simp only [List.getElem_map, List.getElem_range, Function.comp]
        have e2 : 2 + k = k + 2 := by omega
        simp only [e2]
        rw [nth_lt (by simp; omega)]; rfl
    rw [h1]
    simp only [rnO]
    rw [rnL_ptrs, h2]; rfl
  | k + 2, hk =>
    rw [layBench_get, Option.map_eq_some_iff] at hk
    obtain ⟨d, hd, rfl⟩ := hk
    obtain ⟨j, q1, q2⟩ := h.disks k d hd
    refine ⟨rfl, ?_⟩
    have b1 := List.getElem?_eq_some_iff.1 q1
    have : nth (i :: jd :: ids) H2.next (k + 2) = j := by rw [nth_lt (by simp; exact b1.1)]; exact b1.2
    rw [this, q2]; rfl
theorem bench_reach (B : BenchS) : ∀ k o, 0 < k → (layBench B)[k]? = some o → alive o = true → ∃ j u, j < k ∧ (layBench B)[j]? = some u ∧ menO k u = true := by
  intro k o h1 hk ha
  match k, h1, hk with
  | 1, _, hk => exact ⟨0, _, by omega, rfl, by simp [menO, menL, men, new]⟩
  | k + 2, _, hk =>
    rw [layBench_get, Option.map_eq_some_iff] at hk
    obtain ⟨d, hd, rfl⟩ := hk
    cases ha
theorem BCur.done {H H2 Hb : Heap} {args : List Value} {Q : Value → Heap → Prop} {v : Value} {i jd : Nat} {ids : List Nat} {B : BenchS} (h : BCur H i jd ids B H2) (w : B.Wf) (hf : Fresh H) {g : Gh} (hi : H.get i = some (.ghost g)) (u : Upd H i (.bench B) Hb)
    (born : Born H2 (v :: args) i) (hv : flat v = true) (hq : Q v Hb) : Done H args Q v H2 := by
  have hl := h.lt
  refine Done.updB (rest := jd :: ids) hf hi u h.next (bench_lay w) (by rw [layBench_len]; simp [h.len]) (List.nodup_cons.2 ⟨fun hm => by have := h.ge i hm; omega, h.nd⟩) h.ge h.hat (bench_reach B) h.old born hv hq

/-! ### steps -/
section
variable {X : Exts} {H H2 : Heap} {i jd : Nat} {ids : List Nat} {B : BenchS} (h : BCur H i jd ids B H2) (w : B.Wf)
include h
theorem b_disks : ∀ k, ld false 1 (.pointer (some ⟨i, 0, some 0⟩)) k H2 = .ok (.slice (some ⟨jd, 0, some 0⟩) B.disks.length 3) H2 := fun k => ld1 h.root rfl k
theorem b_steps : ∀ k, ld false 1 (.pointer (some ⟨i, 1, some 0⟩)) k H2 = .ok (.int .i64 B.steps) H2 := fun k => ld1 h.root rfl k
theorem b_armed : ∀ k, ld false 1 (.pointer (some ⟨i, 2, some 0⟩)) k H2 = .ok (.int .i64 B.armed) H2 := fun k => ld1 h.root rfl k
theorem b_dark : ∀ k, ld false 1 (.pointer (some ⟨i, 3, some 0⟩)) k H2 = .ok (.bool B.dark) H2 := fun k => ld1 h.root rfl k
include w
theorem bnone_func (hX : X 108 = none) (n : Nat) : func Tryz.prog X ann (n + 1) 108 [.pointer (some ⟨i, 0, some 0⟩)] H2 = .ok (.bool false) H2 := by
  rw [d108 hX]
  unfold s108
  have hp' : ¬ ((B.disks.length : Int) = 0) := fun e => w.pos (List.eq_nil_of_length_eq_zero (by omega))
  simp only [bind_ap, callF_ap, pure_ap, ok_bind, guard_ap, pck_t, pck_f, condV_t, condV_f, nilck_p, fld_p, binP_sn, binP_nn, binP_sn', binP_nn', binI_eql, binI_neq, binI_lss, binI_leq, binI_gtr, binI_geq, binI_add, binI_sub, un_not, mv, new, Nat.zero_add, Nat.add_zero, getH_ap, need_bind, sat_need, sat_ok, alloc_ap, decide_true, decide_false, cond_true, cond_false, Bool.not_true, Bool.not_false, beq_self_eq_true, bf1, bf2, bf3, bf4, Nat.mul_one, ne_eq, not_true_eq_false, not_false_eq_true, if_true, if_false, b_disks h, lenL_s, hp']
omit w in
theorem bhas_func (hX : X 109 = none) (d : Int) (n : Nat) : func Tryz.prog X ann (n + 1) 109 [.pointer (some ⟨i, 0, some 0⟩), .int .i64 d] H2 = .ok (.bool (decide (0 ≤ d ∧ d < B.disks.length))) H2 := by
  rw [d109 hX]
  unfold s109
  by_cases h1 : 0 ≤ d
  · simp only [bind_ap, callF_ap, pure_ap, ok_bind, guard_ap, pck_t, pck_f, condV_t, condV_f, nilck_p, fld_p, binP_sn, binP_nn, binP_sn', binP_nn', binI_eql, binI_neq, binI_lss, binI_leq, binI_gtr, binI_geq, binI_add, binI_sub, un_not, mv, new, Nat.zero_add, Nat.add_zero, getH_ap, need_bind, sat_need, sat_ok, alloc_ap, decide_true, decide_false, cond_true, cond_false, Bool.not_true, Bool.not_false, beq_self_eq_true, bf1, bf2, bf3, bf4, Nat.mul_one, ne_eq, not_true_eq_false, not_false_eq_true, if_true, if_false, h1, b_disks h, lenL_s, true_and]
  · simp only [bind_ap, callF_ap, pure_ap, ok_bind, guard_ap, pck_t, pck_f, condV_t, condV_f, nilck_p, fld_p, binP_sn, binP_nn, binP_sn', binP_nn', binI_eql, binI_neq, binI_lss, binI_leq, binI_gtr, binI_geq, binI_add, binI_sub, un_not, mv, new, Nat.zero_add, Nat.add_zero, getH_ap, need_bind, sat_need, sat_ok, alloc_ap, decide_true, decide_false, cond_true, cond_false, Bool.not_true, Bool.not_false, beq_self_eq_true, bf1, bf2, bf3, bf4, Nat.mul_one, ne_eq, not_true_eq_false, not_false_eq_true, if_true, if_false, h1, false_and]
theorem bthere_func (hX : X 108 = none) (hX2 : X 109 = none) (hX3 : X 49 = none) (d : Int) (n : Nat) :
    func Tryz.prog X ann (n + 2) 49 [.pointer (some ⟨i, 0, some 0⟩), .int .i64 d] H2 = .ok (.int .i64 (B.there d)) H2 := by
  rw [d49 hX3]
  unfold s49 BenchS.there
  simp only [bind_ap, callF_ap, pure_ap, ok_bind, guard_ap, pck_t, pck_f, condV_t, condV_f, nilck_p, fld_p, binP_sn, binP_nn, binP_sn', binP_nn', binI_eql, binI_neq, binI_lss, binI_leq, binI_gtr, binI_geq, binI_add, binI_sub, un_not, mv, new, Nat.zero_add, Nat.add_zero, getH_ap, need_bind, sat_need, sat_ok, alloc_ap, decide_true, decide_false, cond_true, cond_false, Bool.not_true, Bool.not_false, beq_self_eq_true, bf1, bf2, bf3, bf4, Nat.mul_one, ne_eq, not_true_eq_false, not_false_eq_true, if_true, if_false, bnone_func h w hX, bhas_func h hX2]
  by_cases h1 : 0 ≤ d ∧ d < B.disks.length
  · simp only [bind_ap, callF_ap, pure_ap, ok_bind, guard_ap, pck_t, pck_f, condV_t, condV_f, nilck_p, fld_p, binP_sn, binP_nn, binP_sn', binP_nn', binI_eql, binI_neq, binI_lss, binI_leq, binI_gtr, binI_geq, binI_add, binI_sub, un_not, mv, new, Nat.zero_add, Nat.add_zero, getH_ap, need_bind, sat_need, sat_ok, alloc_ap, decide_true, decide_false, cond_true, cond_false, Bool.not_true, Bool.not_false, beq_self_eq_true, bf1, bf2, bf3, bf4, Nat.mul_one, ne_eq, not_true_eq_false, not_false_eq_true, if_true, if_false, h1, and_self]
  · simp only [bind_ap, callF_ap, pure_ap, ok_bind, guard_ap, pck_t, pck_f, condV_t, condV_f, nilck_p, fld_p, binP_sn, binP_nn, binP_sn', binP_nn', binI_eql, binI_neq, binI_lss, binI_leq, binI_gtr, binI_geq, binI_add, binI_sub, un_not, mv, new, Nat.zero_add, Nat.add_zero, getH_ap, need_bind, sat_need, sat_ok, alloc_ap, decide_true, decide_false, cond_true, cond_false, Bool.not_true, Bool.not_false, beq_self_eq_true, bf1, bf2, bf3, bf4, Nat.mul_one, ne_eq, not_true_eq_false, not_false_eq_true, if_true, if_false, h1]
theorem blit_func (hX : X 108 = none) (hX2 : X 109 = none) (hX3 : X 49 = none) (hX4 : X 182 = none) (d : Int) (n : Nat) :
    func Tryz.prog X ann (n + 3) 182 [.pointer (some ⟨i, 0, some 0⟩), .int .i64 d] H2 = .ok (.int .i64 (B.lit d)) H2 := by
  rw [d182 hX4]
  unfold s182 BenchS.lit
  simp only [bind_ap, callF_ap, pure_ap, ok_bind, guard_ap, pck_t, pck_f, condV_t, condV_f, nilck_p, fld_p, binP_sn, binP_nn, binP_sn', binP_nn', binI_eql, binI_neq, binI_lss, binI_leq, binI_gtr, binI_geq, binI_add, binI_sub, un_not, mv, new, Nat.zero_add, Nat.add_zero, getH_ap, need_bind, sat_need, sat_ok, alloc_ap, decide_true, decide_false, cond_true, cond_false, Bool.not_true, Bool.not_false, beq_self_eq_true, bf1, bf2, bf3, bf4, Nat.mul_one, ne_eq, not_true_eq_false, not_false_eq_true, if_true, if_false, bnone_func h w hX, b_dark h]
  cases hd : B.dark with
  | true => simp only [bind_ap, callF_ap, pure_ap, ok_bind, guard_ap, pck_t, pck_f, condV_t, condV_f, nilck_p, fld_p, binP_sn, binP_nn, binP_sn', binP_nn', binI_eql, binI_neq, binI_lss, binI_leq, binI_gtr, binI_geq, binI_add, binI_sub, un_not, mv, new, Nat.zero_add, Nat.add_zero, getH_ap, need_bind, sat_need, sat_ok, alloc_ap, decide_true, decide_false, cond_true, cond_false, Bool.not_true, Bool.not_false, beq_self_eq_true, bf1, bf2, bf3, bf4, Nat.mul_one, ne_eq, not_true_eq_false, not_false_eq_true, if_true, if_false]
  | false => simp only [bind_ap, callF_ap, pure_ap, ok_bind, guard_ap, pck_t, pck_f, condV_t, condV_f, nilck_p, fld_p, binP_sn, binP_nn, binP_sn', binP_nn', binI_eql, binI_neq, binI_lss, binI_leq, binI_gtr, binI_geq, binI_add, binI_sub, un_not, mv, new, Nat.zero_add, Nat.add_zero, getH_ap, need_bind, sat_need, sat_ok, alloc_ap, decide_true, decide_false, cond_true, cond_false, Bool.not_true, Bool.not_false, beq_self_eq_true, bf1, bf2, bf3, bf4, Nat.mul_one, ne_eq, not_true_eq_false, not_false_eq_true, if_true, if_false, bthere_func h w hX hX2 hX3, Bool.false_eq_true]
end
theorem there0 {B : BenchS} {d : Int} (h : B.there d = 0) : 0 ≤ d ∧ d < B.disks.length := by
  unfold BenchS.there at h
  split at h
  · assumption
  · cases h
theorem lit0 {B : BenchS} {d : Int} (h : B.lit d = 0) : 0 ≤ d ∧ d < B.disks.length := by
  unfold BenchS.lit at h
  split at h
  · cases h
  · exact there0 h
theorem disk_at {B : BenchS} {d : Int} (h : 0 ≤ d ∧ d < B.disks.length) : B.disks[d.toNat]? = some (B.disk d) := getD_of (by omega)
theorem disk_wf {B : BenchS} (w : B.Wf) {d : Int} (h : 0 ≤ d ∧ d < B.disks.length) : (B.disk d).Wf := w.ds _ (List.mem_of_getElem? (disk_at h))
/-- the place of a disk's pointer -/
theorem BCur.at' {H H2 : Heap} {i jd : Nat} {ids : List Nat} {B : BenchS} (h : BCur H i jd ids B H2) {d : Int} (hd : 0 ≤ d ∧ d < B.disks.length) : ∃ j, ids[d.toNat]? = some j ∧ H2.get j = some (.ghost (.disk (B.disk d))) ∧
    (∀ k, idxS 1 (.slice (some ⟨jd, 0, some 0⟩) B.disks.length 3) (.int .i64 d) k H2 = .ok (.pointer (some ⟨jd, d.toNat, some 0⟩)) H2) ∧ ∀ k, ld false 1 (.pointer (some ⟨jd, d.toNat, some 0⟩)) k H2 = .ok (.pointer (some ⟨j, 0, some 0⟩)) H2 := by
  obtain ⟨j, h1, h2⟩ := h.disks _ _ (disk_at hd)
  refine ⟨j, h1, h2, fun k => ?_, fun k => ?_⟩
  · rw [idxS_p 1 _ _ _ _ _ hd.1 hd.2]; simp [mv, pure_ap]
  · exact ld1 h.ptrs (dt_map ptrTo h1) k
end Go.Am
