/- Laws for stepping through shallow functions. -/
import Derived.Test.YtcagogdllnlihaaGreatAmP
set_option linter.all false
namespace Go.Am

/-! ### cells -/
theorem dt_right {A B : List Value} {n m k : Nat} (h : k = A.length + n) : ((A ++ B).drop k).take m = (B.drop n).take m := by
  subst h; rw [List.drop_append, List.drop_eq_nil_of_le (by omega)]; simp
theorem dt_left {A B : List Value} {n m : Nat} (h : n + m ≤ A.length) : ((A ++ B).drop n).take m = (A.drop n).take m := by
  rw [List.drop_append, List.take_append_of_le_length (by simp; omega)]
theorem sp_right {A B xs : List Value} {n k : Nat} (h : k = A.length + n) : splice (A ++ B) k xs = A ++ splice B n xs := by
  subst h; unfold splice
  rw [List.take_append, List.drop_append, List.take_of_length_le (by omega), List.drop_eq_nil_of_le (by omega)]
  simp [Nat.add_assoc, Nat.add_sub_cancel_left]
theorem sp_left {A B xs : List Value} {n : Nat} (h : n + xs.length ≤ A.length) : splice (A ++ B) n xs = splice A n xs ++ B := by
  unfold splice
  rw [List.take_append_of_le_length (by omega), List.drop_append_of_le_length (by omega)]
  simp
theorem dt_map {α : Type} (f : α → Value) {l : List α} {i : Nat} {x : α} (h : l[i]? = some x) : ((l.map f).drop i).take 1 = [f x] := by
  have hi := (List.getElem?_eq_some_iff.1 h).1
  rw [List.drop_eq_getElem_cons (by simpa using hi)]
  simp [List.getElem?_eq_some_iff.1 h |>.2]
theorem sp_map {α : Type} (f : α → Value) {l : List α} {i : Nat} (x : α) (h : i < l.length) : splice (l.map f) i [f x] = (l.set i x).map f := by
  unfold splice
  rw [List.map_set, List.set_eq_take_append_cons_drop, if_pos (by simpa using h)]
  simp
theorem dt_flatMap {α : Type} (f : α → List Value) {s : Nat} (hf : ∀ x, (f x).length = s) : ∀ {l : List α} {i : Nat} {x : α}, l[i]? = some x → ((l.flatMap f).drop (i * s)).take s = f x
  | [], i, x, h => by simp at h
  | y :: l, 0, x, h => by simp at h; subst h; simp [List.flatMap_cons, hf y]
  | y :: l, i + 1, x, h => by
    rw [List.flatMap_cons, dt_right (n := i * s) (by rw [hf y, Nat.add_mul]; omega)]
    exact dt_flatMap f hf (by simpa using h)
theorem sp_flatMap {α : Type} (f : α → List Value) {s : Nat} (hf : ∀ x, (f x).length = s) : ∀ {l : List α} {i : Nat} (x : α), i < l.length → splice (l.flatMap f) (i * s) (f x) = (l.set i x).flatMap f
  | [], i, x, h => by simp at h
  | y :: l, 0, x, _ => by
    rw [List.flatMap_cons, Nat.zero_mul, sp_left (by simp [hf]), List.set_cons_zero, List.flatMap_cons]
    congr 1
    unfold splice; rw [List.drop_eq_nil_of_le (by simp [hf])]; simp
  | y :: l, i + 1, x, h => by
    rw [List.flatMap_cons, sp_right (n := i * s) (by rw [hf y, Nat.add_mul]; omega), sp_flatMap f hf x (by simpa using h), List.set_cons_succ, List.flatMap_cons]

/-! ### steps -/
theorem bind_ap {α β : Type} (m : M α) (f : α → M β) (k : Nat) (H : Heap) : M.bind m f k H = (m k H).bind fun a H' => f a k H' := rfl
theorem pure_ap {α : Type} (a : α) (k : Nat) (H : Heap) : M.pure a k H = .ok a H := rfl
theorem ok_bind {α β : Type} (a : α) (H : Heap) (f : α → Heap → Out β) : (Out.ok a H).bind f = f a H := rfl
theorem guard_ap (b w : Bool) (m : M Value) : guardM (.bool b) w m = bif b == w then m else M.pure undef := rfl
theorem pck_t (a b : Value) : pck (.bool true) a b = M.pure a := rfl
theorem pck_f (a b : Value) : pck (.bool false) a b = M.pure b := rfl
theorem condV_t (x y : M Value) : condV (.bool true) x y = x := rfl
theorem condV_f (x y : M Value) : condV (.bool false) x y = y := rfl
theorem condV_if (p : Prop) [Decidable p] (x y : M Value) : condV (.bool (decide p)) x y = if p then x else y := by
  by_cases h : p <;> simp [h, condV]
theorem nilck_p (a : Addr) : nilck (.pointer (some a)) = M.pure (.pointer (some a)) := rfl
theorem fld_p (n : Nat) (a : Addr) : fld n (.pointer (some a)) = M.pure (.pointer (some (mv a n))) := rfl
theorem binP_sn (a : Addr) (k : Nat) (H : Heap) : binP .eql (.pointer (some a)) (.pointer none) k H = .ok (.bool false) H := rfl
theorem binP_nn (k : Nat) (H : Heap) : binP .eql (.pointer none) (.pointer none) k H = .ok (.bool true) H := rfl
theorem binP_sn' (a : Addr) (k : Nat) (H : Heap) : binP .neq (.pointer (some a)) (.pointer none) k H = .ok (.bool true) H := rfl
theorem binP_nn' (k : Nat) (H : Heap) : binP .neq (.pointer none) (.pointer none) k H = .ok (.bool false) H := rfl
theorem binI_eql (kd : IntKind) (a b : Int) (k : Nat) (H : Heap) : binI .eql (.int kd a) (.int kd b) k H = .ok (.bool (decide (a = b))) H := by
  simp [binI, isShift, intOp, okO]; exact Bool.eq_iff_iff.2 (by simp)
theorem binI_neq (kd : IntKind) (a b : Int) (k : Nat) (H : Heap) : binI .neq (.int kd a) (.int kd b) k H = .ok (.bool (decide (a ≠ b))) H := by
  simp [binI, isShift, intOp, okO]; exact Bool.eq_iff_iff.2 (by simp)
theorem binI_lss (kd : IntKind) (a b : Int) (k : Nat) (H : Heap) : binI .lss (.int kd a) (.int kd b) k H = .ok (.bool (decide (a < b))) H := by
  simp [binI, isShift, intOp, okO]
theorem binI_leq (kd : IntKind) (a b : Int) (k : Nat) (H : Heap) : binI .leq (.int kd a) (.int kd b) k H = .ok (.bool (decide (a ≤ b))) H := by
  simp [binI, isShift, intOp, okO]
theorem binI_gtr (kd : IntKind) (a b : Int) (k : Nat) (H : Heap) : binI .gtr (.int kd a) (.int kd b) k H = .ok (.bool (decide (b < a))) H := by
  simp [binI, isShift, intOp, okO]
theorem binI_geq (kd : IntKind) (a b : Int) (k : Nat) (H : Heap) : binI .geq (.int kd a) (.int kd b) k H = .ok (.bool (decide (b ≤ a))) H := by
  simp [binI, isShift, intOp, okO]
theorem binI_add (kd : IntKind) (a b : Int) (k : Nat) (H : Heap) : binI .add (.int kd a) (.int kd b) k H = .ok (.int kd (kd.wrap (a + b))) H := by
  simp [binI, isShift, intOp, okO]
theorem binI_sub (kd : IntKind) (a b : Int) (k : Nat) (H : Heap) : binI .sub (.int kd a) (.int kd b) k H = .ok (.int kd (kd.wrap (a - b))) H := by
  simp [binI, isShift, intOp, okO]
theorem un_not (b : Bool) : un .not (.bool b) = M.pure (.bool !b) := rfl
theorem idxP_p (len size : Nat) (a : Addr) (kd : IntKind) (i : Int) (h0 : 0 ≤ i) (h1 : i < (len : Int)) : idxP len size (.pointer (some a)) (.int kd i) = M.pure (.pointer (some (mv a (i.toNat * size)))) := by
  simp [idxP, h0, h1]
theorem box_ap (e : TypeId) (x : Value) (h : bad x = false) (k : Nat) (H : Heap) : box e x k H = .ok (.pointer (some (new H.next 0))) (H.push (.cells e (vlist x))) := by
  simp [box, h, newOb]
theorem alloc_ap (e : TypeId) (z : List Value) (k : Nat) (H : Heap) : alloc e z k H = .ok (.pointer (some (new H.next 0))) (H.push (.cells e z)) := rfl
theorem ld1 {H : Heap} {i off : Nat} {e : TypeId} {c : List Value} {v : Value} (hg : H.get i = some (.cells e c)) (hc : (c.drop off).take 1 = [v]) (k : Nat) : ld false 1 (.pointer (some ⟨i, off, some 0⟩)) k H = .ok v H := by
  have hl : off + 1 ≤ c.length := by
    have := congrArg List.length hc
    simp at this; omega
  simp only [ld, Heap.cellsAt, hg, Nat.ble_eq_true_of_le hl, cond_true, hc]
theorem ldA {H : Heap} {i off n : Nat} {e : TypeId} {c l : List Value} (hg : H.get i = some (.cells e c)) (hn : off + n ≤ c.length) (hc : (c.drop off).take n = l) (k : Nat) : ld true n (.pointer (some ⟨i, off, some 0⟩)) k H = .ok (.agg ⟨l⟩) H := by
  simp only [ld, Heap.cellsAt, hg, Nat.ble_eq_true_of_le hn, cond_true, hc]
theorem st_ap {H : Heap} {i off n : Nat} {e : TypeId} {c : List Value} {x : Value} (hg : H.get i = some (.cells e c)) (hx : (vlist x).length = n) (hn : off + n ≤ c.length) (hs : (vlist x).all scalar = true) (k : Nat) :
    st n (.pointer (some ⟨i, off, some 0⟩)) x k H = .ok undef (H.set i (.cells e (splice c off (vlist x)))) := by
  subst hx
  simp only [st, Nat.beq_refl, cond_true, putCells, hg, Nat.ble_eq_true_of_le hn, hs, Bool.and_self]
theorem st_to {H : Heap} {i off n : Nat} {e : TypeId} {c c' : List Value} {x : Value} (hg : H.get i = some (.cells e c)) (hx : (vlist x).length = n) (hn : off + n ≤ c.length) (hs : (vlist x).all scalar = true)
    (hc : splice c off (vlist x) = c') (k : Nat) : st n (.pointer (some ⟨i, off, some 0⟩)) x k H = .ok undef (H.set i (.cells e c')) := by
  rw [st_ap hg hx hn hs, hc]
theorem getH_ap (k : Nat) (H : Heap) : getH k H = .ok H H := rfl
theorem chk_ap {m : M Value} {v : Value} {h : Heap} {k : Nat} (hm : sameR (m k h) v = true) (H : Heap) : chk m v h k H = .need true (.ok () H) := by
  simp [chk, hm]
theorem need_bind {α β : Type} (o : Out α) (f : α → Heap → Out β) : (Out.need true o).bind f = .need true (o.bind f) := rfl
theorem sat_need {α : Type} {o : Out α} {Q : α → Heap → Prop} {E : Value → Heap → Prop} : (Out.need true o).Sat Q E ↔ o.Sat Q E := by simp [Out.Sat]
theorem sat_ok {α : Type} {a : α} {H : Heap} {Q : α → Heap → Prop} {E : Value → Heap → Prop} : (Out.ok a H).Sat Q E ↔ Q a H := Iff.rfl
theorem chk_ld {H h : Heap} {n : Nat} {p : Value} {agg : Bool} {v : Value} {k : Nat} {h' : Heap} (hl : ld agg n p k h = .ok v h') (hv : eqV 6 v v = true) :
    chk (ld agg n p) v h k H = .need true (.ok () H) := chk_ap (by rw [hl]; exact hv) H
theorem eqV_refl_agg (l : List Value) (h : ∀ v ∈ l, eqV 5 v v = true) : eqV 6 (.agg ⟨l⟩) (.agg ⟨l⟩) = true := by
  simp only [eqV]
  induction l with
  | nil => rfl
  | cons x l ih =>
    simp only [eqL, Bool.and_eq_true]
    exact ⟨h x (by simp), ih fun v hv => h v (by simp [hv])⟩
theorem eqV_int (d : Nat) (k : IntKind) (n : Int) : eqV (d + 1) (.int k n) (.int k n) = true := by simp [eqV, eqK]
theorem bf1 : (false == false) = true := rfl
theorem bf2 : (true == false) = false := rfl
theorem bf3 : (false == true) = false := rfl
theorem bf4 : (true == true) = true := rfl
end Go.Am
