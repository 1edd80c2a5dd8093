/- Contracts of package bench, 2: the functions. -/
import Derived.Test.YtcagogdllnlihaaGreatCBench
set_option linter.all false
namespace Go.Am
open Go.Proofs
set_option linter.unusedSimpArgs false
set_option linter.unusedVariables false
attribute [local irreducible] func

def dBench (p : Value) (H : Heap) : Option (Nat × BenchS) := match dGh p H with
  | some (some (i, .bench B)) => some (i, B)
  | _ => none
theorem dBench_eq {p : Value} {H : Heap} {i : Nat} {B : BenchS} (h : dBench p H = some (i, B)) : p = .pointer (some ⟨i, 0, some 0⟩) ∧ H.get i = some (.ghost (.bench B)) := by
  unfold dBench at h
  split at h
  · rename_i h1; cases h; exact dGh_some h1
  · cases h
theorem dBench_ptr {H : Heap} {j : Nat} {B : BenchS} (h : H.get j = some (.ghost (.bench B))) : dBench (.pointer (some ⟨j, 0, some 0⟩)) H = some (j, B) := by simp [dBench, dGh, h]

def mBenchDevices (args : List Value) : M Value := fun _ H => match args with
  | [p] => (match dBench p H with
    | some (_, B) => .ok (.int .i64 B.disks.length) H
    | none => .fail)
  | _ => .fail
theorem bench_devices_ok : ExtOk Tryz.prog 85 mBenchDevices := by
  refine ext_any fol namesP extB_ok (A := ann) (n := 6) fun args k H Q E hf hm => ?_
  unfold mBenchDevices at hm
  split at hm
  · split at hm
    · rename_i i B h1
      obtain ⟨rfl, hg⟩ := dBench_eq h1
      right
      refine ⟨i, .bench B, hg, fun l H1 hlay _ ho => ?_⟩
      have w := (lay_bench hlay).2
      have e0 := (lay_bench hlay).1
      subst e0
      have c1 := ho.bench
      rw [d85 rfl]
      unfold s85
      simp only [bind_ap, callF_ap, pure_ap, ok_bind, guard_ap, pck_t, pck_f, condV_t, condV_f, nilck_p, fld_p, binP_sn, binP_nn, binP_sn', binP_nn', binI_eql, binI_neq, binI_lss, binI_leq, binI_gtr, binI_geq, binI_add, binI_sub, un_not, mv, new, Nat.zero_add, Nat.add_zero, getH_ap, need_bind, sat_need, sat_ok, alloc_ap, decide_true, decide_false, cond_true, cond_false, Bool.not_true, Bool.not_false, beq_self_eq_true, bf1, bf2, bf3, bf4, Nat.mul_one, ne_eq, not_true_eq_false, not_false_eq_true, if_true, if_false, bnone_func c1 w (X := extB) rfl, b_disks c1, lenL_s]
      exact c1.done w hf hg (Upd.self hg) (born_head ..) rfl hm
    · exact hm.elim
  · exact hm.elim

def mBenchSectors (args : List Value) : M Value := fun _ H => match args with
  | [p, d] => (match dBench p H, dI .i64 d with
    | some (_, B), some d => .ok (.int .i64 (B.sectors d)) H
    | _, _ => .fail)
  | _ => .fail
theorem bench_sectors_ok : ExtOk Tryz.prog 87 mBenchSectors := by
  refine ext_any fol namesP extB_ok (A := ann) (n := 6) fun args k H Q E hf hm => ?_
  unfold mBenchSectors at hm
  split at hm
  · split at hm
    · rename_i i B d h1 h2
      obtain ⟨rfl, hg⟩ := dBench_eq h1
      obtain rfl := dI_eq h2
      right
      refine ⟨i, .bench B, hg, fun l H1 hlay _ ho => ?_⟩
      have w := (lay_bench hlay).2
      have e0 := (lay_bench hlay).1
      subst e0
      have c1 := ho.bench
      rw [d87 rfl]
      unfold s87
      unfold BenchS.sectors at hm
      simp only [bind_ap, callF_ap, pure_ap, ok_bind, guard_ap, pck_t, pck_f, condV_t, condV_f, nilck_p, fld_p, binP_sn, binP_nn, binP_sn', binP_nn', binI_eql, binI_neq, binI_lss, binI_leq, binI_gtr, binI_geq, binI_add, binI_sub, un_not, mv, new, Nat.zero_add, Nat.add_zero, getH_ap, need_bind, sat_need, sat_ok, alloc_ap, decide_true, decide_false, cond_true, cond_false, Bool.not_true, Bool.not_false, beq_self_eq_true, bf1, bf2, bf3, bf4, Nat.mul_one, ne_eq, not_true_eq_false, not_false_eq_true, if_true, if_false, bthere_func c1 w (X := extB) rfl rfl rfl]
      by_cases ht : B.there d = 0
      · obtain ⟨j, q1, q2, q3, q4⟩ := c1.at' (there0 ht)
        simp only [bind_ap, callF_ap, pure_ap, ok_bind, guard_ap, pck_t, pck_f, condV_t, condV_f, nilck_p, fld_p, binP_sn, binP_nn, binP_sn', binP_nn', binI_eql, binI_neq, binI_lss, binI_leq, binI_gtr, binI_geq, binI_add, binI_sub, un_not, mv, new, Nat.zero_add, Nat.add_zero, getH_ap, need_bind, sat_need, sat_ok, alloc_ap, decide_true, decide_false, cond_true, cond_false, Bool.not_true, Bool.not_false, beq_self_eq_true, bf1, bf2, bf3, bf4, Nat.mul_one, ne_eq, not_true_eq_false, not_false_eq_true, if_true, if_false, ht, b_disks c1, q3, q4, x_sectors (X := extB) rfl q2] at hm ⊢
        exact c1.done w hf hg (Upd.self hg) (born_head ..) rfl hm
      · simp only [bind_ap, callF_ap, pure_ap, ok_bind, guard_ap, pck_t, pck_f, condV_t, condV_f, nilck_p, fld_p, binP_sn, binP_nn, binP_sn', binP_nn', binI_eql, binI_neq, binI_lss, binI_leq, binI_gtr, binI_geq, binI_add, binI_sub, un_not, mv, new, Nat.zero_add, Nat.add_zero, getH_ap, need_bind, sat_need, sat_ok, alloc_ap, decide_true, decide_false, cond_true, cond_false, Bool.not_true, Bool.not_false, beq_self_eq_true, bf1, bf2, bf3, bf4, Nat.mul_one, ne_eq, not_true_eq_false, not_false_eq_true, if_true, if_false, ht] at hm ⊢
        exact c1.done w hf hg (Upd.self hg) (born_head ..) rfl hm
    · exact hm.elim
  · exact hm.elim

theorem not_ids {H H2 : Heap} {i jd : Nat} {ids : List Nat} {B : BenchS} (h : BCur H i jd ids B H2) : H2.next ∉ jd :: ids := fun hm => Nat.lt_irrefl _ (h.lt' _ hm)
theorem sureOf_len {D : DiskS} (w : D.Wf) (n : Int) : (D.sureOf n).1.length = 64 := by
  unfold DiskS.sureOf; split
  · exact sureAt_len w n
  · rfl
theorem read_len {D : DiskS} (w : D.Wf) (n : Int) : (D.read n).1.length = 64 := by
  unfold DiskS.read; split
  · exact at_len w n
  · rfl
def mBenchSure (args : List Value) : M Value := fun _ H => match args with
  | [p, d, n] => (match dBench p H, dI .i64 d, dI .i64 n with
    | some (_, B), some d, some n => .ok (.tuple ⟨[.agg ⟨encB (B.sureOf d n).1⟩, .int .i64 (B.sureOf d n).2]⟩) H
    | _, _, _ => .fail)
  | _ => .fail
theorem bench_sure_ok : ExtOk Tryz.prog 16 mBenchSure := by
  refine ext_any fol namesP extB_ok (A := ann) (n := 6) fun args k H Q E hf hm => ?_
  unfold mBenchSure at hm
  split at hm
  · split at hm
    · rename_i i B d n h1 h2 h3
      obtain ⟨rfl, hg⟩ := dBench_eq h1
      obtain rfl := dI_eq h2
      obtain rfl := dI_eq h3
      right
      refine ⟨i, .bench B, hg, fun l H1 hlay _ ho => ?_⟩
      have w := (lay_bench hlay).2
      have e0 := (lay_bench hlay).1
      subst e0
      have c1 := ho.bench
      have c2 := c1.push (.cells 57 (encB zeroB))
      have x2 : (H1.push (.cells 57 (encB zeroB))).get H1.next = some (.cells 57 (encB zeroB)) := get_push_new
      have c3 := fun o => c2.other (j := H1.next) c1.next (not_ids c1) o
      rw [d16 rfl]
      unfold s16
      rw [encB_zero]
      unfold BenchS.sureOf at hm
      simp only [bind_ap, callF_ap, pure_ap, ok_bind, guard_ap, pck_t, pck_f, condV_t, condV_f, nilck_p, fld_p, binP_sn, binP_nn, binP_sn', binP_nn', binI_eql, binI_neq, binI_lss, binI_leq, binI_gtr, binI_geq, binI_add, binI_sub, un_not, mv, new, Nat.zero_add, Nat.add_zero, getH_ap, need_bind, sat_need, sat_ok, alloc_ap, decide_true, decide_false, cond_true, cond_false, Bool.not_true, Bool.not_false, beq_self_eq_true, bf1, bf2, bf3, bf4, Nat.mul_one, ne_eq, not_true_eq_false, not_false_eq_true, if_true, if_false, bthere_func c2 w (X := extB) rfl rfl rfl]
      by_cases ht : B.there d = 0
      · obtain ⟨j, q1, q2, q3, q4⟩ := c2.at' (there0 ht)
        have hl := sureOf_len (disk_wf w (there0 ht)) n
        simp only [bind_ap, callF_ap, pure_ap, ok_bind, guard_ap, pck_t, pck_f, condV_t, condV_f, nilck_p, fld_p, binP_sn, binP_nn, binP_sn', binP_nn', binI_eql, binI_neq, binI_lss, binI_leq, binI_gtr, binI_geq, binI_add, binI_sub, un_not, mv, new, Nat.zero_add, Nat.add_zero, getH_ap, need_bind, sat_need, sat_ok, alloc_ap, decide_true, decide_false, cond_true, cond_false, Bool.not_true, Bool.not_false, beq_self_eq_true, bf1, bf2, bf3, bf4, Nat.mul_one, ne_eq, not_true_eq_false, not_false_eq_true, if_true, if_false, ht, b_disks c2, q3, q4, x_sure (X := extB) rfl q2, ext_t 0 [_, _] rfl, ext_t 1 [_, _] rfl, stB x2 zeroB_len hl, ldB get_set_same hl] at hm ⊢
        exact (c3 _).done w hf hg (Upd.self hg) (born_head ..) (flat_tup2 _ _ rfl) hm
      · simp only [bind_ap, callF_ap, pure_ap, ok_bind, guard_ap, pck_t, pck_f, condV_t, condV_f, nilck_p, fld_p, binP_sn, binP_nn, binP_sn', binP_nn', binI_eql, binI_neq, binI_lss, binI_leq, binI_gtr, binI_geq, binI_add, binI_sub, un_not, mv, new, Nat.zero_add, Nat.add_zero, getH_ap, need_bind, sat_need, sat_ok, alloc_ap, decide_true, decide_false, cond_true, cond_false, Bool.not_true, Bool.not_false, beq_self_eq_true, bf1, bf2, bf3, bf4, Nat.mul_one, ne_eq, not_true_eq_false, not_false_eq_true, if_true, if_false, ht, bld_nil, stB x2 zeroB_len zeroB_len, ldB get_set_same zeroB_len] at hm ⊢
        exact (c3 _).done w hf hg (Upd.self hg) (born_head ..) (flat_tup2 _ _ rfl) hm
    · exact hm.elim
  · exact hm.elim

/-- Read, of a bench that lies open -/
theorem bread_func {H H2 : Heap} {i jd : Nat} {ids : List Nat} {B : BenchS} (c : BCur H i jd ids B H2) (w : B.Wf) (d n : Int) (N : Nat) :
    ∃ b, func Tryz.prog extB ann (N + 4) 144 [.pointer (some ⟨i, 0, some 0⟩), .int .i64 d, .int .i64 n] H2 = .ok (.tuple ⟨[.agg ⟨encB (B.read d n).1⟩, .int .i64 (B.read d n).2]⟩) ((H2.push (.cells 57 (encB zeroB))).set H2.next (.cells 57 b)) := by
  have c2 := c.push (.cells 57 (encB zeroB))
  have x2 : (H2.push (.cells 57 (encB zeroB))).get H2.next = some (.cells 57 (encB zeroB)) := get_push_new
  rw [d144 rfl]
  unfold s144
  rw [encB_zero]
  unfold BenchS.read
  simp only [bind_ap, callF_ap, pure_ap, ok_bind, guard_ap, pck_t, pck_f, condV_t, condV_f, nilck_p, fld_p, binP_sn, binP_nn, binP_sn', binP_nn', binI_eql, binI_neq, binI_lss, binI_leq, binI_gtr, binI_geq, binI_add, binI_sub, un_not, mv, new, Nat.zero_add, Nat.add_zero, getH_ap, need_bind, sat_need, sat_ok, alloc_ap, decide_true, decide_false, cond_true, cond_false, Bool.not_true, Bool.not_false, beq_self_eq_true, bf1, bf2, bf3, bf4, Nat.mul_one, ne_eq, not_true_eq_false, not_false_eq_true, if_true, if_false, blit_func c2 w (X := extB) rfl rfl rfl rfl]
  by_cases ht : B.lit d = 0
  · obtain ⟨j, q1, q2, q3, q4⟩ := c2.at' (lit0 ht)
    have hl := read_len (disk_wf w (lit0 ht)) n
    simp only [bind_ap, callF_ap, pure_ap, ok_bind, guard_ap, pck_t, pck_f, condV_t, condV_f, nilck_p, fld_p, binP_sn, binP_nn, binP_sn', binP_nn', binI_eql, binI_neq, binI_lss, binI_leq, binI_gtr, binI_geq, binI_add, binI_sub, un_not, mv, new, Nat.zero_add, Nat.add_zero, getH_ap, need_bind, sat_need, sat_ok, alloc_ap, decide_true, decide_false, cond_true, cond_false, Bool.not_true, Bool.not_false, beq_self_eq_true, bf1, bf2, bf3, bf4, Nat.mul_one, ne_eq, not_true_eq_false, not_false_eq_true, if_true, if_false, ht, b_disks c2, q3, q4, x_read (X := extB) rfl q2, ext_t 0 [_, _] rfl, ext_t 1 [_, _] rfl, stB x2 zeroB_len hl, ldB get_set_same hl]
    exact ⟨_, rfl⟩
  · simp only [bind_ap, callF_ap, pure_ap, ok_bind, guard_ap, pck_t, pck_f, condV_t, condV_f, nilck_p, fld_p, binP_sn, binP_nn, binP_sn', binP_nn', binI_eql, binI_neq, binI_lss, binI_leq, binI_gtr, binI_geq, binI_add, binI_sub, un_not, mv, new, Nat.zero_add, Nat.add_zero, getH_ap, need_bind, sat_need, sat_ok, alloc_ap, decide_true, decide_false, cond_true, cond_false, Bool.not_true, Bool.not_false, beq_self_eq_true, bf1, bf2, bf3, bf4, Nat.mul_one, ne_eq, not_true_eq_false, not_false_eq_true, if_true, if_false, ht, bld_nil, stB x2 zeroB_len zeroB_len, ldB get_set_same zeroB_len]
    exact ⟨_, rfl⟩
def mBenchRead (args : List Value) : M Value := fun _ H => match args with
  | [p, d, n] => (match dBench p H, dI .i64 d, dI .i64 n with
    | some (_, B), some d, some n => .ok (.tuple ⟨[.agg ⟨encB (B.read d n).1⟩, .int .i64 (B.read d n).2]⟩) H
    | _, _, _ => .fail)
  | _ => .fail
theorem bench_read_ok : ExtOk Tryz.prog 144 mBenchRead := by
  refine ext_any fol namesP extB_ok (A := ann) (n := 6) fun args k H Q E hf hm => ?_
  unfold mBenchRead at hm
  split at hm
  · split at hm
    · rename_i i B d n h1 h2 h3
      obtain ⟨rfl, hg⟩ := dBench_eq h1
      obtain rfl := dI_eq h2
      obtain rfl := dI_eq h3
      right
      refine ⟨i, .bench B, hg, fun l H1 hlay _ ho => ?_⟩
      have w := (lay_bench hlay).2
      have e0 := (lay_bench hlay).1
      subst e0
      have c1 := ho.bench
      obtain ⟨b, hr⟩ := bread_func c1 w d n 2
      rw [hr]
      exact ((c1.push _).other c1.next (not_ids c1) _).done w hf hg (Upd.self hg) (born_head ..) (flat_tup2 _ _ rfl) hm
    · exact hm.elim
  · exact hm.elim

def mBenchFail (args : List Value) : M Value := fun _ H => match args with
  | [p, d] => (match dBench p H, dI .i64 d with
    | some (i, B), some d => .ok (.int .i64 (B.fail d).2) (H.set i (.ghost (.bench (B.fail d).1)))
    | _, _ => .fail)
  | _ => .fail
theorem bench_fail_ok : ExtOk Tryz.prog 14 mBenchFail := by
  refine ext_any fol namesP extB_ok (A := ann) (n := 6) fun args k H Q E hf hm => ?_
  unfold mBenchFail at hm
  split at hm
  · split at hm
    · rename_i i B d h1 h2
      obtain ⟨rfl, hg⟩ := dBench_eq h1
      obtain rfl := dI_eq h2
      right
      refine ⟨i, .bench B, hg, fun l H1 hlay _ ho => ?_⟩
      have w := (lay_bench hlay).2
      have e0 := (lay_bench hlay).1
      subst e0
      have c1 := ho.bench
      rw [d14 rfl]
      unfold s14
      unfold BenchS.fail at hm
      simp only [bind_ap, callF_ap, pure_ap, ok_bind, guard_ap, pck_t, pck_f, condV_t, condV_f, nilck_p, fld_p, binP_sn, binP_nn, binP_sn', binP_nn', binI_eql, binI_neq, binI_lss, binI_leq, binI_gtr, binI_geq, binI_add, binI_sub, un_not, mv, new, Nat.zero_add, Nat.add_zero, getH_ap, need_bind, sat_need, sat_ok, alloc_ap, decide_true, decide_false, cond_true, cond_false, Bool.not_true, Bool.not_false, beq_self_eq_true, bf1, bf2, bf3, bf4, Nat.mul_one, ne_eq, not_true_eq_false, not_false_eq_true, if_true, if_false, bthere_func c1 w (X := extB) rfl rfl rfl]
      by_cases ht : B.there d = 0
      · obtain ⟨j, q1, q2, q3, q4⟩ := c1.at' (there0 ht)
        simp only [bind_ap, callF_ap, pure_ap, ok_bind, guard_ap, pck_t, pck_f, condV_t, condV_f, nilck_p, fld_p, binP_sn, binP_nn, binP_sn', binP_nn', binI_eql, binI_neq, binI_lss, binI_leq, binI_gtr, binI_geq, binI_add, binI_sub, un_not, mv, new, Nat.zero_add, Nat.add_zero, getH_ap, need_bind, sat_need, sat_ok, alloc_ap, decide_true, decide_false, cond_true, cond_false, Bool.not_true, Bool.not_false, beq_self_eq_true, bf1, bf2, bf3, bf4, Nat.mul_one, ne_eq, not_true_eq_false, not_false_eq_true, if_true, if_false, ht, b_disks c1, q3, q4, x_fail (X := extB) rfl q2] at hm ⊢
        exact (c1.disk q1 _).done (wf_setDisk w d (wf_fail (disk_wf w (there0 ht)))) hf hg (Upd.set ..) (born_head ..) rfl hm
      · simp only [bind_ap, callF_ap, pure_ap, ok_bind, guard_ap, pck_t, pck_f, condV_t, condV_f, nilck_p, fld_p, binP_sn, binP_nn, binP_sn', binP_nn', binI_eql, binI_neq, binI_lss, binI_leq, binI_gtr, binI_geq, binI_add, binI_sub, un_not, mv, new, Nat.zero_add, Nat.add_zero, getH_ap, need_bind, sat_need, sat_ok, alloc_ap, decide_true, decide_false, cond_true, cond_false, Bool.not_true, Bool.not_false, beq_self_eq_true, bf1, bf2, bf3, bf4, Nat.mul_one, ne_eq, not_true_eq_false, not_false_eq_true, if_true, if_false, ht] at hm ⊢
        exact c1.done w hf hg (Upd.set ..) (born_head ..) rfl hm
    · exact hm.elim
  · exact hm.elim

/-! ### steps; Write, Flush -/
theorem callV_f (cl : CallF) (g : FuncId) (a b xs : List Value) : callV cl (.func (.func g) ⟨a⟩ ⟨b⟩) xs = cl g (a ++ (xs ++ b)) := rfl
theorem bind_okk (o : Out Value) : (o.bind fun a H => Out.ok a H) = o := by
  induction o with
  | ok a H => rfl
  | panic v H => rfl
  | pick n k ih => simp only [Out.bind]; congr; funext i; exact ih i
  | need b o ih => simp only [Out.bind, ih]
  | fail => rfl
theorem step_disks (B : BenchS) : B.step.1.disks = B.disks := by
  unfold BenchS.step; split
  · rfl
  · split <;> rfl
theorem step_disk (B : BenchS) (d : Int) : B.step.1.disk d = B.disk d := by unfold BenchS.disk; rw [step_disks]
theorem bstep_func {H H2 : Heap} {i jd : Nat} {ids : List Nat} {B : BenchS} (c : BCur H i jd ids B H2) (w : B.Wf) (f : Value) (N : Nat) :
    ∃ H3, BCur H i jd ids B.step.1 H3 ∧ (∀ j, j ≠ i → H3.get j = H2.get j) ∧ H3.next = H2.next ∧
      func Tryz.prog extB ann (N + 1) 145 [.pointer (some ⟨i, 0, some 0⟩), f] H2 = if B.step.2 = true then callV (callF Tryz.prog extB ann N) f [] N H3 else .ok (.int .i64 8) H3 := by
  rw [d145 rfl]
  unfold s145 BenchS.step
  by_cases h0 : B.armed = 0
  · have s1 := st_to (n := 1) (off := 1) (x := .int .i64 (IntKind.i64.wrap (B.steps + 1))) c.root rfl (by show 2 ≤ 4; omega) rfl (show splice _ 1 [_] = rootB jd (B.setSt (IntKind.i64.wrap (B.steps + 1))) from rfl)
    refine ⟨_, c.put (B.setSt (IntKind.i64.wrap (B.steps + 1))) rfl |> fun x => by simpa [h0] using x, fun j hj => get_set_other hj, rfl, ?_⟩
    simp only [bind_ap, callF_ap, pure_ap, ok_bind, guard_ap, pck_t, pck_f, condV_t, condV_f, nilck_p, fld_p, binP_sn, binP_nn, binP_sn', binP_nn', binI_eql, binI_neq, binI_lss, binI_leq, binI_gtr, binI_geq, binI_add, binI_sub, un_not, mv, new, Nat.zero_add, Nat.add_zero, getH_ap, need_bind, sat_need, sat_ok, alloc_ap, decide_true, decide_false, cond_true, cond_false, Bool.not_true, Bool.not_false, beq_self_eq_true, bf1, bf2, bf3, bf4, Nat.mul_one, ne_eq, not_true_eq_false, not_false_eq_true, if_true, if_false, b_armed c, h0, b_steps c, s1, bind_okk]
  · by_cases h1 : B.armed = 1
    · have s1 := st_to (n := 1) (off := 3) (x := .bool true) c.root rfl (by show 4 ≤ 4; omega) rfl (show splice _ 3 [_] = rootB jd (B.setDk true) from rfl)
      refine ⟨_, c.put (B.setDk true) rfl |> fun x => by simpa [h0, h1] using x, fun j hj => get_set_other hj, rfl, ?_⟩
      simp only [bind_ap, callF_ap, pure_ap, ok_bind, guard_ap, pck_t, pck_f, condV_t, condV_f, nilck_p, fld_p, binP_sn, binP_nn, binP_sn', binP_nn', binI_eql, binI_neq, binI_lss, binI_leq, binI_gtr, binI_geq, binI_add, binI_sub, un_not, mv, new, Nat.zero_add, Nat.add_zero, getH_ap, need_bind, sat_need, sat_ok, alloc_ap, decide_true, decide_false, cond_true, cond_false, Bool.not_true, Bool.not_false, beq_self_eq_true, bf1, bf2, bf3, bf4, Nat.mul_one, ne_eq, not_true_eq_false, not_false_eq_true, if_true, if_false, b_armed c, h0, h1, s1, Bool.false_eq_true, show ¬ ((1 : Int) = 0) by decide]
    · have s1 := st_to (n := 1) (off := 2) (x := .int .i64 (IntKind.i64.wrap (B.armed - 1))) c.root rfl (by show 3 ≤ 4; omega) rfl (show splice _ 2 [_] = rootB jd (B.setAr (IntKind.i64.wrap (B.armed - 1))) from rfl)
      have c2 := c.put (B.setAr (IntKind.i64.wrap (B.armed - 1))) rfl
      have s2 := st_to (n := 1) (off := 1) (x := .int .i64 (IntKind.i64.wrap (B.steps + 1))) c2.root rfl (by show 2 ≤ 4; omega) rfl (show splice _ 1 [_] = rootB jd ((B.setAr (IntKind.i64.wrap (B.armed - 1))).setSt (IntKind.i64.wrap (B.steps + 1))) from rfl)
      have hst : (B.setAr (IntKind.i64.wrap (B.armed - 1))).steps = B.steps := rfl
      have c3 := c2.put ((B.setAr (IntKind.i64.wrap (B.armed - 1))).setSt (IntKind.i64.wrap (B.steps + 1))) rfl
      refine ⟨(H2.set i (.cells T_bench (rootB jd (B.setAr (IntKind.i64.wrap (B.armed - 1)))))).set i (.cells T_bench (rootB jd ((B.setAr (IntKind.i64.wrap (B.armed - 1))).setSt (IntKind.i64.wrap (B.steps + 1))))), by simpa [h0, h1] using c3, fun j hj => by rw [get_set_other hj, get_set_other hj], rfl, ?_⟩
      simp only [bind_ap, callF_ap, pure_ap, ok_bind, guard_ap, pck_t, pck_f, condV_t, condV_f, nilck_p, fld_p, binP_sn, binP_nn, binP_sn', binP_nn', binI_eql, binI_neq, binI_lss, binI_leq, binI_gtr, binI_geq, binI_add, binI_sub, un_not, mv, new, Nat.zero_add, Nat.add_zero, getH_ap, need_bind, sat_need, sat_ok, alloc_ap, decide_true, decide_false, cond_true, cond_false, Bool.not_true, Bool.not_false, beq_self_eq_true, bf1, bf2, bf3, bf4, Nat.mul_one, ne_eq, not_true_eq_false, not_false_eq_true, if_true, if_false, b_armed c, h0, h1, b_steps c2, hst, s1, s2, bind_okk]
theorem read_asked {B : BenchS} {d n : Int} (h : (B.read d n).2 = 0) : (0 ≤ d ∧ d < B.disks.length) ∧ (B.disk d).asked n = 0 := by
  unfold BenchS.read at h
  split at h
  · rename_i h1
    refine ⟨lit0 h1, ?_⟩
    unfold DiskS.read at h
    split at h
    · assumption
    · exact h
  · rename_i h1; exact absurd h h1

def mBenchWrite (args : List Value) : M Value := fun _ H => match args with
  | [p, d, n, b] => (match dBench p H, dI .i64 d, dI .i64 n, dBlk b with
    | some (i, B), some d, some n, some b => bif Nat.blt (B.disk d).loose.length (2 ^ 40) then .ok (.int .i64 (B.write d n b).2) (H.set i (.ghost (.bench (B.write d n b).1))) else .fail
    | _, _, _, _ => .fail)
  | _ => .fail
theorem wf_write {D : DiskS} (w : D.Wf) (hl : D.loose.length < 2 ^ 40) (n : Int) {b : Blk} (hb : b.length = 64) : (D.write n b).1.Wf := by
  unfold DiskS.write
  split
  · rename_i ha
    obtain ⟨q0, q1, _⟩ := dasked0 ha
    exact wf_setL w (fun x hx => by
      rcases List.mem_append.1 hx with h | h
      · exact w.ln x h
      · simp at h; subst h; exact ⟨q0, q1⟩) (fun x hx => by
      rcases List.mem_append.1 hx with h | h
      · exact w.lb x h
      · simp at h; subst h; exact hb) (by simp; omega)
  · exact w
theorem wf_flush {D : DiskS} (w : D.Wf) : D.flush.1.Wf := by
  unfold DiskS.flush
  split
  · exact wf_setL (wf_home w fun x hx => hx) (fun _ h => by simp at h) (fun _ h => by simp at h) (Nat.zero_le _)
  · exact w
theorem ld_box {H : Heap} {i : Nat} {e : TypeId} {v : Value} (h : H.get i = some (.cells e [v])) (k : Nat) : ld false 1 (.pointer (some ⟨i, 0, some 0⟩)) k H = .ok v H := ld1 h rfl k
theorem bench_write_ok : ExtOk Tryz.prog 94 mBenchWrite := by
  refine ext_any fol namesP extB_ok (A := ann) (n := 8) fun args k H Q E hf hm => ?_
  unfold mBenchWrite at hm
  split at hm
  · split at hm
    · rename_i i B d n b h1 h2 h3 h4
      obtain ⟨rfl, hg⟩ := dBench_eq h1
      obtain rfl := dI_eq h2
      obtain rfl := dI_eq h3
      obtain ⟨rfl, hb⟩ := dBlk_eq h4
      cases hlt : Nat.blt (B.disk d).loose.length (2 ^ 40) with
      | false => rw [hlt] at hm; exact hm.elim
      | true =>
        rw [hlt] at hm
        have hlt' : (B.disk d).loose.length < 2 ^ 40 := Nat.le_of_ble_eq_true hlt
        simp only [cond_true] at hm
        right
        refine ⟨i, .bench B, hg, fun l H1 hlay _ ho => ?_⟩
        have w := (lay_bench hlay).2
        have e0 := (lay_bench hlay).1
        subst e0
        have c1 := ho.bench
        have ca := (((c1.push (.cells 24 [.pointer (some ⟨i, 0, some 0⟩)])).push (.cells 3 [.int .i64 d])).push (.cells 3 [.int .i64 n])).push (.cells 57 (encB b))
        generalize hHa : (((H1.push (.cells 24 [.pointer (some ⟨i, 0, some 0⟩)])).push (.cells 3 [.int .i64 d])).push (.cells 3 [.int .i64 n])).push (.cells 57 (encB b)) = Ha at ca
        have hna : Ha.next = H1.next + 4 := by rw [← hHa]; rfl
        have a0 : Ha.get H1.next = some (.cells 24 [.pointer (some ⟨i, 0, some 0⟩)]) := by
          rw [← hHa, get_push_old (by simp; omega), get_push_old (by simp; omega), get_push_old (by simp), get_push_new]
        have a1 : Ha.get (H1.next + 1) = some (.cells 3 [.int .i64 d]) := by
          rw [← hHa, get_push_old (by simp), get_push_old (by simp), show H1.next + 1 = (H1.push (.cells 24 [.pointer (some ⟨i, 0, some 0⟩)])).next from rfl, get_push_new]
        have a2 : Ha.get (H1.next + 2) = some (.cells 3 [.int .i64 n]) := by
          rw [← hHa, get_push_old (by simp), show H1.next + 2 = ((H1.push (.cells 24 [.pointer (some ⟨i, 0, some 0⟩)])).push (.cells 3 [.int .i64 d])).next from rfl, get_push_new]
        have a3 : Ha.get (H1.next + 3) = some (.cells 57 (encB b)) := by
          rw [← hHa, show H1.next + 3 = (((H1.push (.cells 24 [.pointer (some ⟨i, 0, some 0⟩)])).push (.cells 3 [.int .i64 d])).push (.cells 3 [.int .i64 n])).next from rfl, get_push_new]
        obtain ⟨rb, hr⟩ := bread_func ca w d n 3
        have cb := (ca.push (.cells 57 (encB zeroB))).other ca.next (not_ids ca) (.cells 57 rb)
        generalize hHb : (Ha.push (.cells 57 (encB zeroB))).set Ha.next (.cells 57 rb) = Hb at hr cb
        have hnb : Hb.next = H1.next + 5 := by rw [← hHb]; simp [hna]
        have hold : ∀ j, j < Ha.next → Hb.get j = Ha.get j := fun j hj => by rw [← hHb, get_set_other (by omega), get_push_old hj]
        have hrl : (B.read d n).1.length = 64 := by
          unfold BenchS.read; split
          · rename_i ht; exact read_len (disk_wf w (lit0 ht)) n
          · rfl
        have cc := (cb.push (.cells 57 (encB zeroB))).other (j := Hb.next) cb.next (not_ids cb) (.cells 57 (encB (B.read d n).1))
        have xc : (Hb.push (.cells 57 (encB zeroB))).get Hb.next = some (.cells 57 (encB zeroB)) := get_push_new
        generalize hHd : (Hb.push (.cells 57 (encB zeroB))).set Hb.next (.cells 57 (encB (B.read d n).1)) = Hd at cc
        have hold2 : ∀ j, j < Ha.next → Hd.get j = Ha.get j := fun j hj => by rw [← hHd, get_set_other (by omega), get_push_old (by omega), hold j hj]
        rw [d94 rfl]
        unfold s94
        rw [encB_zero]
        unfold BenchS.write at hm
        simp only [bind_ap, callF_ap, pure_ap, ok_bind, guard_ap, pck_t, pck_f, condV_t, condV_f, nilck_p, fld_p, binP_sn, binP_nn, binP_sn', binP_nn', binI_eql, binI_neq, binI_lss, binI_leq, binI_gtr, binI_geq, binI_add, binI_sub, un_not, mv, new, Nat.zero_add, Nat.add_zero, getH_ap, need_bind, sat_need, sat_ok, alloc_ap, decide_true, decide_false, cond_true, cond_false, Bool.not_true, Bool.not_false, beq_self_eq_true, bf1, bf2, bf3, bf4, Nat.mul_one, ne_eq, not_true_eq_false, not_false_eq_true, if_true, if_false, box_ap _ (.pointer _) rfl, box_ap _ (.int _ _) rfl, box_ap _ (.agg ⟨_⟩) rfl, vlist, hHa, Heap.next_push, ld_box a0, ld_box a1, ld_box a2, Nat.add_assoc, Nat.reduceAdd, hr, ext_t 0 [_, _] rfl, ext_t 1 [_, _] rfl, stB xc zeroB_len hrl, hHd]
        by_cases he : (B.read d n).2 = 0
        · obtain ⟨q1, q2⟩ := read_asked he
          obtain ⟨H3, c3, o3, n3, r3⟩ := bstep_func cc w (.func (.func 146) ⟨[]⟩ ⟨[.pointer (some ⟨H1.next, 0, some 0⟩), .pointer (some ⟨H1.next + 1, 0, some 0⟩), .pointer (some ⟨H1.next + 2, 0, some 0⟩), .pointer (some ⟨H1.next + 3, 0, some 0⟩)]⟩) 6
          have hil := c1.lt
          have hnx := ho.next
          simp only [bind_ap, callF_ap, pure_ap, ok_bind, guard_ap, pck_t, pck_f, condV_t, condV_f, nilck_p, fld_p, binP_sn, binP_nn, binP_sn', binP_nn', binI_eql, binI_neq, binI_lss, binI_leq, binI_gtr, binI_geq, binI_add, binI_sub, un_not, mv, new, Nat.zero_add, Nat.add_zero, getH_ap, need_bind, sat_need, sat_ok, alloc_ap, decide_true, decide_false, cond_true, cond_false, Bool.not_true, Bool.not_false, beq_self_eq_true, bf1, bf2, bf3, bf4, Nat.mul_one, ne_eq, not_true_eq_false, not_false_eq_true, if_true, if_false, he, ld_box (hold2 _ (by omega) |>.trans a0), r3] at hm ⊢
          cases hs : B.step.2 with
          | false =>
            simp only [bind_ap, callF_ap, pure_ap, ok_bind, guard_ap, pck_t, pck_f, condV_t, condV_f, nilck_p, fld_p, binP_sn, binP_nn, binP_sn', binP_nn', binI_eql, binI_neq, binI_lss, binI_leq, binI_gtr, binI_geq, binI_add, binI_sub, un_not, mv, new, Nat.zero_add, Nat.add_zero, getH_ap, need_bind, sat_need, sat_ok, alloc_ap, decide_true, decide_false, cond_true, cond_false, Bool.not_true, Bool.not_false, beq_self_eq_true, bf1, bf2, bf3, bf4, Nat.mul_one, ne_eq, not_true_eq_false, not_false_eq_true, if_true, if_false, hs, Bool.false_eq_true] at hm ⊢
            exact c3.done (wf_put w (step_disks B)) hf hg (Upd.set ..) (born_head ..) rfl hm
          | true =>
            have b0 := (o3 H1.next (by omega)).trans ((hold2 _ (by omega)).trans a0)
            have b1 := (o3 (H1.next + 1) (by omega)).trans ((hold2 _ (by omega)).trans a1)
            have b2 := (o3 (H1.next + 2) (by omega)).trans ((hold2 _ (by omega)).trans a2)
            have b3 := (o3 (H1.next + 3) (by omega)).trans ((hold2 _ (by omega)).trans a3)
            obtain ⟨j, j1, j2, j3, j4⟩ := c3.at' (d := d) (by rw [step_disks]; exact q1)
            have hw : (B.step.1.disk d).loose.length < 2 ^ 40 := by rw [step_disk]; exact hlt'
            have wd := wf_write (disk_wf (wf_put w (step_disks B)) (d := d) (by rw [step_disks]; exact q1)) hw n hb
            have hcall : func Tryz.prog extB ann 6 146 [.pointer (some ⟨H1.next, 0, some 0⟩), .pointer (some ⟨H1.next + 1, 0, some 0⟩), .pointer (some ⟨H1.next + 2, 0, some 0⟩), .pointer (some ⟨H1.next + 3, 0, some 0⟩)] H3 = .ok (.int .i64 ((B.step.1.disk d).write n b).2) (H3.set j (.ghost (.disk ((B.step.1.disk d).write n b).1))) := by
              rw [d146 rfl]
              unfold s146
              simp only [bind_ap, callF_ap, pure_ap, ok_bind, guard_ap, pck_t, pck_f, condV_t, condV_f, nilck_p, fld_p, binP_sn, binP_nn, binP_sn', binP_nn', binI_eql, binI_neq, binI_lss, binI_leq, binI_gtr, binI_geq, binI_add, binI_sub, un_not, mv, new, Nat.zero_add, Nat.add_zero, getH_ap, need_bind, sat_need, sat_ok, alloc_ap, decide_true, decide_false, cond_true, cond_false, Bool.not_true, Bool.not_false, beq_self_eq_true, bf1, bf2, bf3, bf4, Nat.mul_one, ne_eq, not_true_eq_false, not_false_eq_true, if_true, if_false, ld_box b0, ld_box b1, ld_box b2, ldB b3 hb, b_disks c3, j3, j4, x_write (X := extB) rfl j2 hw n hb]
            simp only [bind_ap, callF_ap, pure_ap, ok_bind, guard_ap, pck_t, pck_f, condV_t, condV_f, nilck_p, fld_p, binP_sn, binP_nn, binP_sn', binP_nn', binI_eql, binI_neq, binI_lss, binI_leq, binI_gtr, binI_geq, binI_add, binI_sub, un_not, mv, new, Nat.zero_add, Nat.add_zero, getH_ap, need_bind, sat_need, sat_ok, alloc_ap, decide_true, decide_false, cond_true, cond_false, Bool.not_true, Bool.not_false, beq_self_eq_true, bf1, bf2, bf3, bf4, Nat.mul_one, ne_eq, not_true_eq_false, not_false_eq_true, if_true, if_false, hs, callV_f, List.nil_append, hcall] at hm ⊢
            rw [step_disk] at wd ⊢
            exact (c3.disk j1 _).done (wf_setDisk (wf_put w (step_disks B)) d wd) hf hg (Upd.set ..) (born_head ..) rfl hm
        · simp only [bind_ap, callF_ap, pure_ap, ok_bind, guard_ap, pck_t, pck_f, condV_t, condV_f, nilck_p, fld_p, binP_sn, binP_nn, binP_sn', binP_nn', binI_eql, binI_neq, binI_lss, binI_leq, binI_gtr, binI_geq, binI_add, binI_sub, un_not, mv, new, Nat.zero_add, Nat.add_zero, getH_ap, need_bind, sat_need, sat_ok, alloc_ap, decide_true, decide_false, cond_true, cond_false, Bool.not_true, Bool.not_false, beq_self_eq_true, bf1, bf2, bf3, bf4, Nat.mul_one, ne_eq, not_true_eq_false, not_false_eq_true, if_true, if_false, he] at hm ⊢
          exact cc.done w hf hg (Upd.set ..) (born_head ..) rfl hm
    · exact hm.elim
  · exact hm.elim

def mBenchFlush (args : List Value) : M Value := fun _ H => match args with
  | [p, d] => (match dBench p H, dI .i64 d with
    | some (i, B), some d => .ok (.int .i64 (B.flush d).2) (H.set i (.ghost (.bench (B.flush d).1)))
    | _, _ => .fail)
  | _ => .fail
theorem bench_flush_ok : ExtOk Tryz.prog 98 mBenchFlush := by
  refine ext_any fol namesP extB_ok (A := ann) (n := 8) fun args k H Q E hf hm => ?_
  unfold mBenchFlush at hm
  split at hm
  · split at hm
    · rename_i i B d h1 h2
      obtain ⟨rfl, hg⟩ := dBench_eq h1
      obtain rfl := dI_eq h2
      right
      refine ⟨i, .bench B, hg, fun l H1 hlay _ ho => ?_⟩
      have w := (lay_bench hlay).2
      have e0 := (lay_bench hlay).1
      subst e0
      have c1 := ho.bench
      obtain ⟨rb, hr⟩ := bread_func c1 w d 0 3
      have cb := (c1.push (.cells 57 (encB zeroB))).other c1.next (not_ids c1) (.cells 57 rb)
      generalize hHb : (H1.push (.cells 57 (encB zeroB))).set H1.next (.cells 57 rb) = Hb at hr cb
      have hrl : (B.read d 0).1.length = 64 := by
        unfold BenchS.read; split
        · rename_i ht; exact read_len (disk_wf w (lit0 ht)) 0
        · rfl
      have cc := (cb.push (.cells 57 (encB zeroB))).other (j := Hb.next) cb.next (not_ids cb) (.cells 57 (encB (B.read d 0).1))
      have xc : (Hb.push (.cells 57 (encB zeroB))).get Hb.next = some (.cells 57 (encB zeroB)) := get_push_new
      generalize hHd : (Hb.push (.cells 57 (encB zeroB))).set Hb.next (.cells 57 (encB (B.read d 0).1)) = Hd at cc
      rw [d98 rfl]
      unfold s98
      rw [encB_zero]
      unfold BenchS.flush at hm
      simp only [bind_ap, callF_ap, pure_ap, ok_bind, guard_ap, pck_t, pck_f, condV_t, condV_f, nilck_p, fld_p, binP_sn, binP_nn, binP_sn', binP_nn', binI_eql, binI_neq, binI_lss, binI_leq, binI_gtr, binI_geq, binI_add, binI_sub, un_not, mv, new, Nat.zero_add, Nat.add_zero, getH_ap, need_bind, sat_need, sat_ok, alloc_ap, decide_true, decide_false, cond_true, cond_false, Bool.not_true, Bool.not_false, beq_self_eq_true, bf1, bf2, bf3, bf4, Nat.mul_one, ne_eq, not_true_eq_false, not_false_eq_true, if_true, if_false, hr, ext_t 0 [_, _] rfl, ext_t 1 [_, _] rfl, stB xc zeroB_len hrl, hHd]
      by_cases he : (B.read d 0).2 = 0
      · obtain ⟨q1, q2⟩ := read_asked he
        obtain ⟨j, j1, j2, j3, j4⟩ := cc.at' q1
        obtain ⟨H3, c3, o3, n3, r3⟩ := bstep_func cc w (.func (.func 149) ⟨[.pointer (some ⟨j, 0, some 0⟩)]⟩ ⟨[]⟩) 6
        simp only [bind_ap, callF_ap, pure_ap, ok_bind, guard_ap, pck_t, pck_f, condV_t, condV_f, nilck_p, fld_p, binP_sn, binP_nn, binP_sn', binP_nn', binI_eql, binI_neq, binI_lss, binI_leq, binI_gtr, binI_geq, binI_add, binI_sub, un_not, mv, new, Nat.zero_add, Nat.add_zero, getH_ap, need_bind, sat_need, sat_ok, alloc_ap, decide_true, decide_false, cond_true, cond_false, Bool.not_true, Bool.not_false, beq_self_eq_true, bf1, bf2, bf3, bf4, Nat.mul_one, ne_eq, not_true_eq_false, not_false_eq_true, if_true, if_false, he, b_disks cc, j3, j4, r3] at hm ⊢
        cases hs : B.step.2 with
        | false =>
          simp only [bind_ap, callF_ap, pure_ap, ok_bind, guard_ap, pck_t, pck_f, condV_t, condV_f, nilck_p, fld_p, binP_sn, binP_nn, binP_sn', binP_nn', binI_eql, binI_neq, binI_lss, binI_leq, binI_gtr, binI_geq, binI_add, binI_sub, un_not, mv, new, Nat.zero_add, Nat.add_zero, getH_ap, need_bind, sat_need, sat_ok, alloc_ap, decide_true, decide_false, cond_true, cond_false, Bool.not_true, Bool.not_false, beq_self_eq_true, bf1, bf2, bf3, bf4, Nat.mul_one, ne_eq, not_true_eq_false, not_false_eq_true, if_true, if_false, hs, Bool.false_eq_true] at hm ⊢
          exact c3.done (wf_put w (step_disks B)) hf hg (Upd.set ..) (born_head ..) rfl hm
        | true =>
          have hil := c1.lt
          have hji : j ≠ i := by have := c1.ge j (by simp [List.mem_of_getElem? j1]); omega
          have j5 := (o3 j hji).trans j2
          simp only [bind_ap, callF_ap, pure_ap, ok_bind, guard_ap, pck_t, pck_f, condV_t, condV_f, nilck_p, fld_p, binP_sn, binP_nn, binP_sn', binP_nn', binI_eql, binI_neq, binI_lss, binI_leq, binI_gtr, binI_geq, binI_add, binI_sub, un_not, mv, new, Nat.zero_add, Nat.add_zero, getH_ap, need_bind, sat_need, sat_ok, alloc_ap, decide_true, decide_false, cond_true, cond_false, Bool.not_true, Bool.not_false, beq_self_eq_true, bf1, bf2, bf3, bf4, Nat.mul_one, ne_eq, not_true_eq_false, not_false_eq_true, if_true, if_false, hs, callV_f, List.append_nil, List.nil_append, x_flush (X := extB) rfl j5] at hm ⊢
          exact (c3.disk j1 _).done (wf_setDisk (wf_put w (step_disks B)) d (wf_flush (disk_wf w q1))) hf hg (Upd.set ..) (born_head ..) rfl hm
      · simp only [bind_ap, callF_ap, pure_ap, ok_bind, guard_ap, pck_t, pck_f, condV_t, condV_f, nilck_p, fld_p, binP_sn, binP_nn, binP_sn', binP_nn', binI_eql, binI_neq, binI_lss, binI_leq, binI_gtr, binI_geq, binI_add, binI_sub, un_not, mv, new, Nat.zero_add, Nat.add_zero, getH_ap, need_bind, sat_need, sat_ok, alloc_ap, decide_true, decide_false, cond_true, cond_false, Bool.not_true, Bool.not_false, beq_self_eq_true, bf1, bf2, bf3, bf4, Nat.mul_one, ne_eq, not_true_eq_false, not_false_eq_true, if_true, if_false, he] at hm ⊢
        exact cc.done w hf hg (Upd.set ..) (born_head ..) rfl hm
    · exact hm.elim
  · exact hm.elim

/-! ### New -/
def decI : List Value → Option (List Int)
  | [] => some []
  | .int .i64 n :: r => match decI r with
    | some b => some (n :: b)
    | none => none
  | _ => none
theorem decI_eq : ∀ {vs : List Value} {b : List Int}, decI vs = some b → vs = b.map (.int .i64)
  | [], b, h => by simp [decI] at h; subst h; rfl
  | v :: r, b, h => by
    unfold decI at h
    split at h
    · rename_i heq; cases heq
    · rename_i n r' heq
      cases heq
      split at h
      · rename_i b' hb
        obtain rfl := Option.some.inj h
        rw [decI_eq hb]; rfl
      · cases h
    · cases h
theorem decI_enc : ∀ (b : List Int), decI (b.map (.int .i64)) = some b
  | [] => rfl
  | n :: b => by simp [decI, decI_enc b]
/-- a slice of integers -/
def dInts (v : Value) (H : Heap) : Option (List Int) := match v with
  | .slice none 0 0 => some []
  | .slice (some a) n _ => (match H.cellsAt a n with
    | some l => decI l
    | none => none)
  | _ => none
theorem cellsAt_len {H : Heap} {a : Addr} {n : Nat} {l : List Value} (h : H.cellsAt a n = some l) : l.length = n := by
  unfold Heap.cellsAt at h
  split at h
  · split at h
    · rename_i e c hg
      cases hb : Nat.ble (a.off + n) c.length with
      | false => rw [hb] at h; cases h
      | true =>
        rw [hb] at h
        have := Nat.le_of_ble_eq_true hb
        obtain rfl := Option.some.inj h
        simp; omega
    · cases h
  · exact (baseCells_spec _ _ _ _ _ h).1
theorem baseCells_one (B : World) (b : Nat) : ∀ (n off : Nat) (l : List Value) (t : Nat) (v : Value), baseCells B b off n = some l → l[t]? = some v → baseCells B b (off + t) 1 = some [v]
  | 0, off, l, t, v, h, ht => by simp [baseCells] at h; subst h; simp at ht
  | n + 1, off, l, t, v, h, ht => by
    unfold baseCells at h
    split at h
    · rename_i u hu
      cases hp : plainB u with
      | false => rw [hp] at h; cases h
      | true =>
        rw [hp] at h
        simp only [cond_true, Option.map_eq_some_iff] at h
        obtain ⟨r, hr, rfl⟩ := h
        cases t with
        | zero => simp at ht; subst ht; simp [baseCells, hu, hp]
        | succ t =>
          have := baseCells_one B b n (off + 1) r t v hr (by simpa using ht)
          rwa [show off + (t + 1) = off + 1 + t by omega]
    · cases h
theorem ld_at {H : Heap} {a : Addr} {n : Nat} {l : List Value} (h : H.cellsAt a n = some l) {t : Nat} {v : Value} (ht : l[t]? = some v) (k : Nat) : ld false 1 (.pointer (some (mv a t))) k H = .ok v H := by
  have key : H.cellsAt (mv a t) 1 = some [v] := by
    unfold Heap.cellsAt at h ⊢
    have hsp : (mv a t).spot = a.spot := rfl
    rw [hsp]
    split at h
    · split at h
      · rename_i e c hg
        cases hb : Nat.ble (a.off + n) c.length with
        | false => rw [hb] at h; cases h
        | true =>
          rw [hb] at h
          have hle := Nat.le_of_ble_eq_true hb
          obtain rfl := Option.some.inj h
          rw [List.getElem?_take] at ht
          split at ht
          · rename_i htn
            rw [List.getElem?_drop] at ht
            have hx := (List.getElem?_eq_some_iff.1 ht)
            have hb' : (mv a t).block = a.block := rfl
            have ho' : (mv a t).off = a.off + t := rfl
            simp only [hb', ho', hg, Nat.ble_eq_true_of_le (show a.off + t + 1 ≤ c.length by omega), cond_true]
            rw [List.drop_eq_getElem_cons hx.1]
            simp [hx.2]
          · cases ht
      · cases h
    · exact baseCells_one _ _ _ _ _ _ _ h ht
  simp only [ld, key]
/-- what was read is read later on -/
theorem cellsAt_keep {H H2 : Heap} (hf : Fresh H) (hb : H2.base = H.base) (hold : ∀ j, j < H.next → H2.get j = H.get j) {a : Addr} {n : Nat} {l : List Value} (h : H.cellsAt a n = some l) : H2.cellsAt a n = some l := by
  unfold Heap.cellsAt at h ⊢
  split at h
  · split at h
    · rename_i e c hg
      have : a.block < H.next := by
        rcases Nat.lt_or_ge a.block H.next with h | h
        · exact h
        · rw [hf _ h] at hg; cases hg
      rw [hold _ this, hg]; exact h
    · cases h
  · rw [hb]; exact h

def okSize (n : Int) : Bool := decide (1 ≤ n) && decide (n ≤ 512)
def mBenchNew (args : List Value) : M Value := fun _ H => match args with
  | [v] => (match dInts v H with
    | some l => if l.length < 1 ∨ 17 < l.length ∨ l.all okSize = false then .ok (.tuple ⟨[.pointer none, .int .i64 2]⟩) H else .ok (.tuple ⟨[ptrTo H.next, .int .i64 0]⟩) (H.push (.ghost (.bench (BenchS.new l))))
    | none => .fail)
  | _ => .fail
theorem dInts_eq {v : Value} {H : Heap} {l : List Int} (h : dInts v H = some l) : (v = .slice none 0 0 ∧ l = []) ∨ ∃ a tag, v = .slice (some a) l.length tag ∧ H.cellsAt a l.length = some (l.map (.int .i64)) := by
  unfold dInts at h
  split at h
  · exact .inl ⟨rfl, (Option.some.inj h).symm⟩
  · split at h
    · rename_i a n tag _ c hc
      have h1 := decI_eq h
      have h2 := cellsAt_len hc
      subst h1
      rw [List.length_map] at h2
      subst h2
      exact .inr ⟨a, tag, rfl, hc⟩
    · cases h
  · cases h
def root0 (jd t : Nat) : List Value := [accV jd 3 t, .int .i64 0, .int .i64 0, .bool false]
structure NCur (H : Heap) (jd : Nat) (ids : List Nat) (ds : List DiskS) (H2 : Heap) : Prop where
  root : H2.get H.next = some (.cells T_bench (root0 jd ds.length))
  ptrs : ds ≠ [] → (H.next < jd ∧ jd < H2.next ∧ jd ∉ ids) ∧ H2.get jd = some (.cells T_pdisk (ids.map ptrTo))
  disks : ∀ (k : Nat) d, ds[k]? = some d → ∃ j, ids[k]? = some j ∧ H2.get j = some (.ghost (.disk d))
  len : ids.length = ds.length
  nd : ids.Nodup
  ge : ∀ j ∈ ids, H.next < j ∧ j < H2.next
  old : ∀ j, j < H.next → H2.get j = H.get j
  next : H.next < H2.next
  base : H2.base = H.base
def appP (H3 : Heap) (jd t : Nat) (c : List Value) : Heap := (if t = 0 then H3 else H3.set jd .gone).push (.cells T_pdisk c)
theorem NCur.more {H H2 : Heap} {jd : Nat} {ids : List Nat} {ds : List DiskS} (h : NCur H jd ids ds H2) (d : DiskS) (c0 : List Value) :
    let H4 := appP ((H2.push (.ghost (.disk d))).push (.cells T_pdisk c0)) jd ds.length (ids.map ptrTo ++ [ptrTo H2.next])
    H4.get H.next = some (.cells T_bench (root0 jd ds.length)) ∧ NCur H (H2.next + 2) (ids ++ [H2.next]) (ds ++ [d]) (H4.set H.next (.cells T_bench (root0 (H2.next + 2) (ds.length + 1)))) := by
  intro H4
  have hn := h.next
  have key : ∀ j, j < H2.next → (ds ≠ [] → j ≠ jd) → H4.get j = H2.get j := fun j h1 h2 => by
    show (appP _ _ _ _).get j = _
    unfold appP
    split
    · rw [get_push_old (by simp; omega), get_push_old (by simp; omega), get_push_old h1]
    · rename_i hne
      rw [get_push_old (by simp; omega), get_set_other (h2 fun h => hne (by rw [h]; rfl)), get_push_old (by simp; omega), get_push_old h1]
  have knew : H4.get (H2.next + 2) = some (.cells T_pdisk (ids.map ptrTo ++ [ptrTo H2.next])) := by
    show (appP _ _ _ _).get _ = _
    unfold appP; split <;> exact get_push_new (H := _)
  have kd : H4.get H2.next = some (.ghost (.disk d)) := by
    show (appP _ _ _ _).get _ = _
    unfold appP
    split
    · rw [get_push_old (by simp; omega), get_push_old (by simp), get_push_new]
    · rename_i hne
      have := (h.ptrs fun h => hne (by rw [h]; rfl)).1.2.1
      rw [get_push_old (by simp; omega), get_set_other (by omega), get_push_old (by simp), get_push_new]
  have hnx : H4.next = H2.next + 3 := by show (appP _ _ _ _).next = _; unfold appP; split <;> simp
  have hbs : H4.base = H.base := by show (appP _ _ _ _).base = _; unfold appP; split <;> exact h.base
  have kr : H4.get H.next = some (.cells T_bench (root0 jd ds.length)) := by
    rw [key _ hn fun hne => by have := (h.ptrs hne).1.1; omega]; exact h.root
  refine ⟨kr, ?_, fun _ => ⟨⟨by omega, by simp [hnx], ?_⟩, ?_⟩, fun k d' hk => ?_, by simp [h.len], ?_, fun j hj => ?_, fun j hj => ?_, by simp [hnx]; omega, hbs⟩
  · rw [get_set_same]; simp
  · intro hm
    rcases List.mem_append.1 hm with hm | hm
    · have := (h.ge _ hm).2; omega
    · simp at hm
  · rw [get_set_other (by omega), knew]; simp
  · by_cases hlt : k < ds.length
    · rw [List.getElem?_append_left hlt] at hk
      obtain ⟨j, q1, q2⟩ := h.disks k d' hk
      have hj := h.ge j (List.mem_of_getElem? q1)
      refine ⟨j, by rw [List.getElem?_append_left (by rw [h.len]; exact hlt)]; exact q1, ?_⟩
      rw [get_set_other (by omega), key j hj.2 fun hne e => (h.ptrs hne).1.2.2 (e ▸ List.mem_of_getElem? q1)]; exact q2
    · rw [List.getElem?_append_right (by omega)] at hk
      have hk0 : k - ds.length = 0 := by
        cases hq : k - ds.length with
        | zero => rfl
        | succ m => rw [hq] at hk; simp at hk
      rw [hk0] at hk
      simp at hk; subst hk
      refine ⟨H2.next, ?_, by rw [get_set_other (by omega)]; exact kd⟩
      rw [List.getElem?_append_right (by rw [h.len]; omega), h.len, hk0]; rfl
  · refine List.nodup_append.2 ⟨h.nd, by simp, fun a ha b hb => ?_⟩
    simp at hb; subst hb
    have := (h.ge a ha).2; omega
  · rw [Heap.next_set, hnx]
    rcases List.mem_append.1 hj with hj | hj
    · have := h.ge j hj; omega
    · simp at hj; omega
  · rw [get_set_other (by omega), key j (by omega) fun hne => by have := (h.ptrs hne).1.1; omega]; exact h.old j hj
theorem x_new {X : Exts} (hX : X 82 = some mDiskNew) (n : Int) (N : Nat) (H : Heap) :
    func Tryz.prog X ann (N + 1) 82 [.int .i64 n] H = if n < 1 ∨ 512 < n then .ok (.tuple ⟨[.pointer none, .int .i64 2]⟩) H else .ok (.tuple ⟨[ptrTo H.next, .int .i64 0]⟩) (H.push (.ghost (.disk (DiskS.new n)))) := by
  rw [func_ext hX]; simp only [mDiskNew, dI_int]
theorem new_map_wf {l : List Int} (h : l.all okSize = true) (hl : l ≠ []) : (BenchS.new l).Wf := by
  refine ⟨by simpa [BenchS.new] using hl, fun d hd => ?_⟩
  obtain ⟨n, hn, rfl⟩ := List.mem_map.1 hd
  have := List.all_eq_true.1 h n hn
  simp [okSize] at this
  exact wf_new this.1 this.2
theorem bench_new_ok : ExtOk Tryz.prog 32 mBenchNew := by
  refine ext_any fol namesP extB_ok (A := ann) (n := 40) fun args k H Q E hf hm => ?_
  unfold mBenchNew at hm
  split at hm
  · rename_i v
    split at hm
    · rename_i l h1
      left
      rw [d32 rfl]
      unfold s32
      rcases dInts_eq h1 with ⟨rfl, rfl⟩ | ⟨a, tag, rfl, hc⟩
      · simp only [bind_ap, callF_ap, pure_ap, ok_bind, guard_ap, pck_t, pck_f, condV_t, condV_f, nilck_p, fld_p, binP_sn, binP_nn, binP_sn', binP_nn', binI_eql, binI_neq, binI_lss, binI_leq, binI_gtr, binI_geq, binI_add, binI_sub, un_not, mv, new, Nat.zero_add, Nat.add_zero, getH_ap, need_bind, sat_need, sat_ok, alloc_ap, decide_true, decide_false, cond_true, cond_false, Bool.not_true, Bool.not_false, beq_self_eq_true, bf1, bf2, bf3, bf4, Nat.mul_one, ne_eq, not_true_eq_false, not_false_eq_true, if_true, if_false, lenL_n, show (0 : Int) < 1 by decide, List.length_nil, show (0 : Nat) < 1 by decide, true_or] at hm ⊢
        exact Done.same hf (Nat.le_refl _) (fun j hj => rfl) rfl hm
      · clear h1
        simp only [bind_ap, callF_ap, pure_ap, ok_bind, guard_ap, pck_t, pck_f, condV_t, condV_f, nilck_p, fld_p, binP_sn, binP_nn, binP_sn', binP_nn', binI_eql, binI_neq, binI_lss, binI_leq, binI_gtr, binI_geq, binI_add, binI_sub, un_not, mv, new, Nat.zero_add, Nat.add_zero, getH_ap, need_bind, sat_need, sat_ok, alloc_ap, decide_true, decide_false, cond_true, cond_false, Bool.not_true, Bool.not_false, beq_self_eq_true, bf1, bf2, bf3, bf4, Nat.mul_one, ne_eq, not_true_eq_false, not_false_eq_true, if_true, if_false, lenL_s] at hm ⊢
        by_cases hl0 : l.length < 1
        · simp only [bind_ap, callF_ap, pure_ap, ok_bind, guard_ap, pck_t, pck_f, condV_t, condV_f, nilck_p, fld_p, binP_sn, binP_nn, binP_sn', binP_nn', binI_eql, binI_neq, binI_lss, binI_leq, binI_gtr, binI_geq, binI_add, binI_sub, un_not, mv, new, Nat.zero_add, Nat.add_zero, getH_ap, need_bind, sat_need, sat_ok, alloc_ap, decide_true, decide_false, cond_true, cond_false, Bool.not_true, Bool.not_false, beq_self_eq_true, bf1, bf2, bf3, bf4, Nat.mul_one, ne_eq, not_true_eq_false, not_false_eq_true, if_true, if_false, hl0, show ((l.length : Int) < 1) by omega, true_or] at hm ⊢
          exact Done.same hf (Nat.le_refl _) (fun j hj => rfl) rfl hm
        · by_cases hl1 : 17 < l.length
          · simp only [bind_ap, callF_ap, pure_ap, ok_bind, guard_ap, pck_t, pck_f, condV_t, condV_f, nilck_p, fld_p, binP_sn, binP_nn, binP_sn', binP_nn', binI_eql, binI_neq, binI_lss, binI_leq, binI_gtr, binI_geq, binI_add, binI_sub, un_not, mv, new, Nat.zero_add, Nat.add_zero, getH_ap, need_bind, sat_need, sat_ok, alloc_ap, decide_true, decide_false, cond_true, cond_false, Bool.not_true, Bool.not_false, beq_self_eq_true, bf1, bf2, bf3, bf4, Nat.mul_one, ne_eq, not_true_eq_false, not_false_eq_true, if_true, if_false, hl0, hl1, show ¬ ((l.length : Int) < 1) by omega, show (17 : Int) < (l.length : Int) by omega, true_or, or_true, lenL_s] at hm ⊢
            exact Done.same hf (Nat.le_refl _) (fun j hj => rfl) rfl hm
          · have hb : bld [.slice none 0 0, .int .i64 0, .int .i64 0, .bool false] [] = M.pure (.agg ⟨root0 0 0⟩) := rfl
            simp only [bind_ap, callF_ap, pure_ap, ok_bind, guard_ap, pck_t, pck_f, condV_t, condV_f, nilck_p, fld_p, binP_sn, binP_nn, binP_sn', binP_nn', binI_eql, binI_neq, binI_lss, binI_leq, binI_gtr, binI_geq, binI_add, binI_sub, un_not, mv, new, Nat.zero_add, Nat.add_zero, getH_ap, need_bind, sat_need, sat_ok, alloc_ap, decide_true, decide_false, cond_true, cond_false, Bool.not_true, Bool.not_false, beq_self_eq_true, bf1, bf2, bf3, bf4, Nat.mul_one, ne_eq, not_true_eq_false, not_false_eq_true, if_true, if_false, hl0, hl1, show ¬ ((l.length : Int) < 1) by omega, show ¬ ((17 : Int) < (l.length : Int)) by omega, or_self, false_or, lenL_s, hb, box_ap _ (.agg ⟨root0 0 0⟩) rfl, vlist] at hm ⊢
            have n0 : NCur H 0 [] [] (H.push (.cells 112 (root0 0 0))) :=
              ⟨get_push_new, fun h => absurd rfl h, fun k d h => by simp at h, rfl, List.nodup_nil, fun j h => by simp at h, fun j hj => get_push_old hj, by simp, rfl⟩
            refine loopV_sat (fun m vs H2 => ∃ t jd ids, m = l.length - t ∧ t ≤ l.length ∧ vs = [.pointer (some ⟨H.next, 0, some 0⟩), .slice (some a) l.length tag, .int .i64 l.length, .int .i64 (t : Int)] ∧
              (l.take t).all okSize = true ∧ NCur H jd ids ((l.take t).map DiskS.new) H2) ?_ (n := l.length) ⟨0, 0, [], rfl, Nat.zero_le _, rfl, rfl, n0⟩ (by omega)
            rintro m again vs H2 ⟨t, jd, ids, rfl, hle, rfl, hall, nc⟩ hagain
            simp only [mk, assoc, nat_beq, Nat.reduceBEq, cond_true, cond_false, bf1, bf2, bf3, bf4, bind_ap, callF_ap, pure_ap, ok_bind, guard_ap, pck_t, pck_f, condV_t, condV_f, nilck_p, fld_p, binP_sn, binP_nn, binP_sn', binP_nn', binI_eql, binI_neq, binI_lss, binI_leq, binI_gtr, binI_geq, binI_add, binI_sub, un_not, mv, new, Nat.zero_add, Nat.add_zero, getH_ap, need_bind, sat_need, sat_ok, alloc_ap, decide_true, decide_false, cond_true, cond_false, Bool.not_true, Bool.not_false, beq_self_eq_true, bf1, bf2, bf3, bf4, Nat.mul_one, ne_eq, not_true_eq_false, not_false_eq_true, if_true, if_false]
            have htl : (l.take t).length = t := by simp; omega
            by_cases ht : t < l.length
            · have hlt : ((t : Int) < (l.length : Int)) := by omega
              have hidx := idxS_p 1 a l.length tag .i64 (t : Int) (Int.natCast_nonneg t) hlt
              have hel : (l.map (Value.int .i64))[t]? = some (.int .i64 l[t]) := by rw [List.getElem?_map, List.getElem?_eq_getElem ht]; rfl
              have hld := ld_at (cellsAt_keep hf nc.base nc.old hc) hel
              have htk : l.take (t + 1) = l.take t ++ [l[t]] := List.take_succ_eq_append_getElem ht
              rw [mv] at hidx hld
              simp only [Int.toNat_natCast, Nat.mul_one] at hidx
              simp only [bind_ap, callF_ap, pure_ap, ok_bind, guard_ap, pck_t, pck_f, condV_t, condV_f, nilck_p, fld_p, binP_sn, binP_nn, binP_sn', binP_nn', binI_eql, binI_neq, binI_lss, binI_leq, binI_gtr, binI_geq, binI_add, binI_sub, un_not, mv, new, Nat.zero_add, Nat.add_zero, getH_ap, need_bind, sat_need, sat_ok, alloc_ap, decide_true, decide_false, cond_true, cond_false, Bool.not_true, Bool.not_false, beq_self_eq_true, bf1, bf2, bf3, bf4, Nat.mul_one, ne_eq, not_true_eq_false, not_false_eq_true, if_true, if_false, hlt, hidx, hld, x_new (X := extB) rfl]
              by_cases hbad : l[t] < 1 ∨ 512 < l[t]
              · have hno : l.all okSize = false := by
                  rw [List.all_eq_false]
                  exact ⟨l[t], List.getElem_mem ht, by simp [okSize]; omega⟩
                simp only [bind_ap, callF_ap, pure_ap, ok_bind, guard_ap, pck_t, pck_f, condV_t, condV_f, nilck_p, fld_p, binP_sn, binP_nn, binP_sn', binP_nn', binI_eql, binI_neq, binI_lss, binI_leq, binI_gtr, binI_geq, binI_add, binI_sub, un_not, mv, new, Nat.zero_add, Nat.add_zero, getH_ap, need_bind, sat_need, sat_ok, alloc_ap, decide_true, decide_false, cond_true, cond_false, Bool.not_true, Bool.not_false, beq_self_eq_true, bf1, bf2, bf3, bf4, Nat.mul_one, ne_eq, not_true_eq_false, not_false_eq_true, if_true, if_false, hbad, ext_t 0 [_, _] rfl, ext_t 1 [_, _] rfl, show ¬ ((2 : Int) = 0) by decide, hno] at hm ⊢
                exact Done.same hf (by have := nc.next; omega) (fun j hj => nc.old j hj) rfl hm
              · have hlen : ((l.take t).map DiskS.new).length = t := by simp; omega
                obtain ⟨m1, m2⟩ := nc.more (DiskS.new l[t]) [ptrTo H2.next]
                have ncp := (nc.ge)
                have hpl : ∀ k, ld false 1 (.pointer (some ⟨H.next, 0, some 0⟩)) k (H2.push (.ghost (.disk (DiskS.new l[t])))) = .ok (accV jd 3 t) (H2.push (.ghost (.disk (DiskS.new l[t])))) := fun k => by
                  refine ld1 (by rw [get_push_old nc.next]; exact nc.root) ?_ k
                  rw [hlen]; rfl
                have hap := app1 (H := (H2.push (.ghost (.disk (DiskS.new l[t])))).push (.cells T_pdisk [ptrTo H2.next])) (e := T_pdisk) (size := 1) (bytes := 8) (j := jd) (tag := 3) (n := t) (old := ids.map ptrTo) (xs := [ptrTo H2.next]) (jx := H2.next + 1) (tx := 1 + 2)
                  (by omega) (by omega) (by omega) (by rw [List.length_map, nc.len, hlen]; omega) rfl rfl (fun hne => by
                    have hne' : (l.take t).map DiskS.new ≠ [] := fun h => hne (by have := congrArg List.length h; rw [hlen] at this; exact this)
                    obtain ⟨⟨a1, a2, a3⟩, a4⟩ := nc.ptrs hne'
                    rw [get_push_old (by simp; omega), get_push_old a2]; exact a4) (get_push_new (H := H2.push (.ghost (.disk (DiskS.new l[t]))))) rfl
                rw [hlen] at m1 m2
                have s4 := st_to (n := 1) (off := 0) (x := accV (H2.next + 2) 3 (t + 1)) m1 (by cases t <;> rfl) (by show 1 ≤ 4; omega) (by cases t <;> rfl) (show splice _ 0 _ = root0 (H2.next + 2) (t + 1) from rfl)
                have hap' : app 109 1 8 (accV jd 3 t) (.slice (some ⟨H2.next + 1, 0, some 0⟩) 1 (1 + 2)) 39 ((H2.push (.ghost (.disk (DiskS.new l[t])))).push (.cells 109 [ptrTo H2.next])) =
                    .ok (accV (H2.next + 2) 3 (t + 1)) (appP ((H2.push (.ghost (.disk (DiskS.new l[t])))).push (.cells T_pdisk [ptrTo H2.next])) jd t (ids.map ptrTo ++ [ptrTo H2.next])) := hap 39
                simp only [bind_ap, callF_ap, pure_ap, ok_bind, guard_ap, pck_t, pck_f, condV_t, condV_f, nilck_p, fld_p, binP_sn, binP_nn, binP_sn', binP_nn', binI_eql, binI_neq, binI_lss, binI_leq, binI_gtr, binI_geq, binI_add, binI_sub, un_not, mv, new, Nat.zero_add, Nat.add_zero, getH_ap, need_bind, sat_need, sat_ok, alloc_ap, decide_true, decide_false, cond_true, cond_false, Bool.not_true, Bool.not_false, beq_self_eq_true, bf1, bf2, bf3, bf4, Nat.mul_one, ne_eq, not_true_eq_false, not_false_eq_true, if_true, if_false, hbad, ext_t 0 [_, _] rfl, ext_t 1 [_, _] rfl, hpl, bldSlice1 109 1 [.pointer none] (ptrTo H2.next) rfl rfl rfl, show vlist (ptrTo H2.next) = [ptrTo H2.next] from rfl, Heap.next_push, hap', s4]
                rw [wrap64 (by omega) (by omega)]
                refine hagain (l.length - (t + 1)) _ _ (by omega) ⟨t + 1, H2.next + 2, ids ++ [H2.next], rfl, by omega, rfl, ?_, ?_⟩
                · rw [htk, List.all_append, hall]; simp [okSize]; omega
                · rw [htk, List.map_append]; exact m2
            · have het : t = l.length := by omega
              subst het
              have hlt : ¬ ((l.length : Int) < (l.length : Int)) := by omega
              rw [List.take_length] at hall nc
              simp only [bind_ap, callF_ap, pure_ap, ok_bind, guard_ap, pck_t, pck_f, condV_t, condV_f, nilck_p, fld_p, binP_sn, binP_nn, binP_sn', binP_nn', binI_eql, binI_neq, binI_lss, binI_leq, binI_gtr, binI_geq, binI_add, binI_sub, un_not, mv, new, Nat.zero_add, Nat.add_zero, getH_ap, need_bind, sat_need, sat_ok, alloc_ap, decide_true, decide_false, cond_true, cond_false, Bool.not_true, Bool.not_false, beq_self_eq_true, bf1, bf2, bf3, bf4, Nat.mul_one, ne_eq, not_true_eq_false, not_false_eq_true, if_true, if_false, hlt, hall, Bool.true_eq_false] at hm ⊢
              have hne : l ≠ [] := fun h => hl0 (by rw [h]; decide)
              have hne' : l.map DiskS.new ≠ [] := by simpa using hne
              have w := new_map_wf hall hne
              obtain ⟨⟨a1, a2, a3⟩, a4⟩ := nc.ptrs hne'
              have bc : BCur (H.push (.cells T_bench (root0 0 0))) H.next jd ids (BenchS.new l) H2 := by
                refine ⟨?_, a4, nc.disks, nc.len, List.nodup_cons.2 ⟨a3, nc.nd⟩, fun j hj => ?_, fun j hj => ?_, fun j q1 q2 => ?_, by simp; have := nc.next; omega, by simp⟩
                · rw [nc.root]
                  have : 0 < l.length := by omega
                  obtain ⟨m, hm'⟩ : ∃ m, l.length = m + 1 := ⟨l.length - 1, by omega⟩
                  simp [root0, rootB, BenchS.new, hm', accV]
                · rcases List.mem_cons.1 hj with rfl | hj
                  · simp; omega
                  · have := nc.ge j hj; simp; omega
                · rcases List.mem_cons.1 hj with rfl | hj
                  · exact a2
                  · exact (nc.ge j hj).2
                · simp at q1
                  have : j < H.next := by omega
                  rw [nc.old j this, get_push_old this]
              refine Done.newG (rest := jd :: ids) hf (j0 := H.next) (Nat.le_refl _) (bench_lay w) (by rw [layBench_len]; simp [nc.len, BenchS.new]) (List.nodup_cons.2 ⟨fun hm2 => ?_, bc.nd⟩) (fun j hj => ?_) bc.hat (bench_reach _) nc.old (by have := nc.next; omega)
                (.arg (by simp [menL, men, menR])) (v1 := .tuple ⟨[ptrTo H.next, .int .i64 0]⟩) (by simp [rn, rnR, rnL, ptrTo, rnA, new, keepT]) hm
              · have := bc.ge _ hm2; simp at this; omega
              · have := bc.ge _ hj; simp at this; omega
    · exact hm.elim
  · exact hm.elim
end Go.Am
