/- Functions of the program, told shallowly: by program (sh.py). -/
import Derived.Test.YtcagogdllnlihaaGreatAmP
set_option linter.all false
namespace Go.Am
open Go.Proofs
/- function 104 -/
noncomputable def s104 (cl : CallF) (a0 : Value) (a1 : Value) : M Value :=
  M.bind (binP .eql a0 (Value.pointer none)) fun v7_1 =>
  M.bind (guardM v7_1 false (M.pure a0)) fun v9_2 =>
  M.bind (guardM v7_1 false (nilck v9_2)) fun v10_3 =>
  M.bind (guardM v7_1 false (fld 0 v10_3)) fun v11_4 =>
  M.bind (guardM v7_1 false (ld false 1 v11_4)) fun v12_5 =>
  M.bind (guardM v7_1 false (binI .eql v12_5 (Value.int .i64 0))) fun v13_6 =>
  M.bind (pck v7_1 (Value.bool true) v13_6) fun v14_7 =>
  condV v14_7 (
    M.pure (Value.int .i64 1)
  ) (
    M.bind (binI .lss a1 (Value.int .i64 0)) fun v17_8 =>
    M.bind (guardM v17_8 false (M.pure a1)) fun v19_9 =>
    M.bind (guardM v17_8 false (M.pure a0)) fun v20_10 =>
    M.bind (guardM v17_8 false (nilck v20_10)) fun v21_11 =>
    M.bind (guardM v17_8 false (fld 0 v21_11)) fun v22_12 =>
    M.bind (guardM v17_8 false (ld false 1 v22_12)) fun v23_13 =>
    M.bind (guardM v17_8 false (binI .geq v19_9 v23_13)) fun v24_14 =>
    M.bind (pck v17_8 (Value.bool true) v24_14) fun v25_15 =>
    condV v25_15 (
      M.pure (Value.int .i64 2)
    ) (
      M.pure (Value.int .i64 0)
    )
  )
noncomputable def b104 : Code := match Tryz.f104.body with
  | some c => c
  | none => .skip
theorem e104 (cl : CallF) (a0 : Value) (a1 : Value) : bodyK Tryz.prog cl ann 104 Tryz.f104 b104 [a0, a1] = s104 cl a0 a1 := by kernel_rfl
theorem d104 {X : Exts} (hX : X 104 = none) (n : Nat) (a0 : Value) (a1 : Value) (H : Heap) : func Tryz.prog X ann (n + 1) 104 [a0, a1] H = s104 (callF Tryz.prog X ann n) a0 a1 n H :=
  (func_succ hX (by kernel_rfl) (by kernel_rfl : Tryz.f104.body = some b104) n (by rfl) H).trans (congrFun (congrFun (e104 _ a0 a1) n) H)

/- function 44 -/
noncomputable def s44 (cl : CallF) (a0 : Value) (a1 : Value) (a2 : Value) (a3 : Value) : M Value :=
  M.bind (box 57 a2) fun v6_1 =>
  M.bind (cl 104 [a0, a1]) fun v12_2 =>
  M.bind (binI .neq v12_2 (Value.int .i64 0)) fun v14_3 =>
  condV v14_3 (
    M.pure v12_2
  ) (
    M.bind (binI .eql a3 (Value.int .u64 0)) fun v17_4 =>
    condV v17_4 (
      M.pure (Value.int .i64 2)
    ) (
      M.bind (ld true 64 v6_1) fun v24_5 =>
      M.bind (nilck a0) fun v25_6 =>
      M.bind (fld 1 v25_6) fun v26_7 =>
      M.bind (idxP 16 1 v26_7 a1) fun v27_8 =>
      M.bind (nilck a0) fun v28_9 =>
      M.bind (fld 17 v28_9) fun v29_10 =>
      M.bind (nilck a0) fun v31_11 =>
      M.bind (fld 33 v31_11) fun v32_12 =>
      M.bind (st 1 v27_8 (Value.bool true)) fun _ =>
      M.bind getH fun h_14 =>
      M.bind (chk (ld true 64 v6_1) v24_5 h_14) fun _ =>
      M.bind (idxP 16 1 v29_10 a1) fun v30_15 =>
      M.bind (st 1 v30_15 (Value.bool true)) fun _ =>
      M.bind getH fun h_17 =>
      M.bind (chk (ld true 64 v6_1) v24_5 h_17) fun _ =>
      M.bind (idxP 16 64 v32_12 a1) fun v33_18 =>
      M.bind (st 64 v33_18 v24_5) fun _ =>
      M.bind (nilck a0) fun v35_20 =>
      M.bind (fld 1057 v35_20) fun v36_21 =>
      M.bind (ld false 1 v36_21) fun v37_22 =>
      M.bind (binI .eql v37_22 (Value.int .u64 0)) fun v38_23 =>
      M.bind (guardM v38_23 false (M.pure a3)) fun v40_24 =>
      M.bind (guardM v38_23 false (M.pure a0)) fun v41_25 =>
      M.bind (guardM v38_23 false (nilck v41_25)) fun v42_26 =>
      M.bind (guardM v38_23 false (fld 1057 v42_26)) fun v43_27 =>
      M.bind (guardM v38_23 false (ld false 1 v43_27)) fun v44_28 =>
      M.bind (guardM v38_23 false (binI .lss v40_24 v44_28)) fun v45_29 =>
      M.bind (pck v38_23 (Value.bool true) v45_29) fun v46_30 =>
      condV v46_30 (
        M.bind (nilck a0) fun v49_32 =>
        M.bind (fld 1057 v49_32) fun v50_33 =>
        M.bind (st 1 v50_33 a3) fun _ =>
        M.pure (Value.int .i64 0)
      ) (
        M.pure (Value.int .i64 0)
      )
    )
  )
noncomputable def b44 : Code := match Tryz.f44.body with
  | some c => c
  | none => .skip
theorem e44 (cl : CallF) (a0 : Value) (a1 : Value) (a2 : Value) (a3 : Value) : bodyK Tryz.prog cl ann 44 Tryz.f44 b44 [a0, a1, a2, a3] = s44 cl a0 a1 a2 a3 := by kernel_rfl
theorem d44 {X : Exts} (hX : X 44 = none) (n : Nat) (a0 : Value) (a1 : Value) (a2 : Value) (a3 : Value) (H : Heap) : func Tryz.prog X ann (n + 1) 44 [a0, a1, a2, a3] H = s44 (callF Tryz.prog X ann n) a0 a1 a2 a3 n H :=
  (func_succ hX (by kernel_rfl) (by kernel_rfl : Tryz.f44.body = some b44) n (by rfl) H).trans (congrFun (congrFun (e44 _ a0 a1 a2 a3) n) H)

/- function 51 -/
noncomputable def s51 (cl : CallF) (a0 : Value) (a1 : Value) : M Value :=
  M.bind (alloc 57 (List.replicate 64 (Value.int .u8 0))) fun v4_1 =>
  M.bind (cl 104 [a0, a1]) fun v8_2 =>
  M.bind (binI .neq v8_2 (Value.int .i64 0)) fun v9_3 =>
  M.bind (guardM v9_3 false (M.pure a0)) fun v11_4 =>
  M.bind (guardM v9_3 false (M.pure a1)) fun v12_5 =>
  M.bind (guardM v9_3 false (nilck v11_4)) fun v13_6 =>
  M.bind (guardM v9_3 false (fld 1 v13_6)) fun v14_7 =>
  M.bind (guardM v9_3 false (idxP 16 1 v14_7 v12_5)) fun v15_8 =>
  M.bind (guardM v9_3 false (ld false 1 v15_8)) fun v16_9 =>
  M.bind (guardM v9_3 false (un .not v16_9)) fun v17_10 =>
  M.bind (pck v9_3 (Value.bool true) v17_10) fun v18_11 =>
  condV v18_11 (
    M.bind (bld (List.replicate 64 (Value.int .u8 0)) []) fun v19_12 =>
    M.bind (st 64 v4_1 v19_12) fun _ =>
    M.bind (ld true 64 v4_1) fun r_14 =>
    M.pure (Value.tuple ⟨[r_14, Value.bool false]⟩)
  ) (
    M.bind (nilck a0) fun v22_15 =>
    M.bind (fld 33 v22_15) fun v23_16 =>
    M.bind (idxP 16 64 v23_16 a1) fun v24_17 =>
    M.bind (ld true 64 v24_17) fun v25_18 =>
    M.bind (st 64 v4_1 v25_18) fun _ =>
    M.bind (ld true 64 v4_1) fun r_20 =>
    M.pure (Value.tuple ⟨[r_20, Value.bool true]⟩)
  )
noncomputable def b51 : Code := match Tryz.f51.body with
  | some c => c
  | none => .skip
theorem e51 (cl : CallF) (a0 : Value) (a1 : Value) : bodyK Tryz.prog cl ann 51 Tryz.f51 b51 [a0, a1] = s51 cl a0 a1 := by kernel_rfl
theorem d51 {X : Exts} (hX : X 51 = none) (n : Nat) (a0 : Value) (a1 : Value) (H : Heap) : func Tryz.prog X ann (n + 1) 51 [a0, a1] H = s51 (callF Tryz.prog X ann n) a0 a1 n H :=
  (func_succ hX (by kernel_rfl) (by kernel_rfl : Tryz.f51.body = some b51) n (by rfl) H).trans (congrFun (congrFun (e51 _ a0 a1) n) H)

/- function 56 -/
noncomputable def s56 (cl : CallF) (a0 : Value) (a1 : Value) (a2 : Value) : M Value :=
  M.bind (box 57 a2) fun v5_1 =>
  M.bind (cl 104 [a0, a1]) fun v10_2 =>
  M.bind (binI .neq v10_2 (Value.int .i64 0)) fun v12_3 =>
  condV v12_3 (
    M.pure v10_2
  ) (
    M.bind (nilck a0) fun v16_4 =>
    M.bind (fld 1 v16_4) fun v17_5 =>
    M.bind (idxP 16 1 v17_5 a1) fun v18_6 =>
    M.bind (ld false 1 v18_6) fun v19_7 =>
    M.bind (un .not v19_7) fun v20_8 =>
    condV v20_8 (
      M.bind (ld true 64 v5_1) fun v25_10 =>
      M.bind (nilck a0) fun v26_11 =>
      M.bind (fld 1 v26_11) fun v27_12 =>
      M.bind (idxP 16 1 v27_12 a1) fun v28_13 =>
      M.bind (nilck a0) fun v29_14 =>
      M.bind (fld 33 v29_14) fun v30_15 =>
      M.bind (st 1 v28_13 (Value.bool true)) fun _ =>
      M.bind getH fun h_17 =>
      M.bind (chk (ld true 64 v5_1) v25_10 h_17) fun _ =>
      M.bind (idxP 16 64 v30_15 a1) fun v31_18 =>
      M.bind (st 64 v31_18 v25_10) fun _ =>
      M.pure (Value.int .i64 0)
    ) (
      M.pure (Value.int .i64 0)
    )
  )
noncomputable def b56 : Code := match Tryz.f56.body with
  | some c => c
  | none => .skip
theorem e56 (cl : CallF) (a0 : Value) (a1 : Value) (a2 : Value) : bodyK Tryz.prog cl ann 56 Tryz.f56 b56 [a0, a1, a2] = s56 cl a0 a1 a2 := by kernel_rfl
theorem d56 {X : Exts} (hX : X 56 = none) (n : Nat) (a0 : Value) (a1 : Value) (a2 : Value) (H : Heap) : func Tryz.prog X ann (n + 1) 56 [a0, a1, a2] H = s56 (callF Tryz.prog X ann n) a0 a1 a2 n H :=
  (func_succ hX (by kernel_rfl) (by kernel_rfl : Tryz.f56.body = some b56) n (by rfl) H).trans (congrFun (congrFun (e56 _ a0 a1 a2) n) H)

/- function 47 -/
noncomputable def s47 (cl : CallF) (a0 : Value) : M Value :=
  M.bind (binP .eql a0 (Value.pointer none)) fun v6_1 =>
  condV v6_1 (
    M.pure (Value.slice none 0 0)
  ) (
    M.bind (nilck a0) fun v8_2 =>
    M.bind (fld 0 v8_2) fun v9_3 =>
    M.bind (ld false 1 v9_3) fun v10_4 =>
    loopV (fun again_5 vs_5 =>
      let x0_5 := mk [0, 3, 10, 11] vs_5 0
      let x3_5 := mk [0, 3, 10, 11] vs_5 3
      let x10_5 := mk [0, 3, 10, 11] vs_5 10
      let x11_5 := mk [0, 3, 10, 11] vs_5 11
      M.bind (binI .lss x11_5 x10_5) fun v12_6 =>
      condV v12_6 (
        let j_7 := fun (y0_7 : Value) (y3_7 : Value) (y10_7 : Value) (y11_7 : Value) =>
          M.bind (binI .add y11_7 (Value.int .i64 1)) fun v24_8 =>
          again_5 [y0_7, y3_7, y10_7, v24_8]
        M.bind (nilck x0_5) fun v16_9 =>
        M.bind (fld 17 v16_9) fun v17_10 =>
        M.bind (idxP 16 1 v17_10 x11_5) fun v18_11 =>
        M.bind (ld false 1 v18_11) fun v19_12 =>
        condV v19_12 (
          M.bind (bldSlice 3 1 [.int .i64 0] 1 [(0, 1, x11_5)]) fun v22_14 =>
          M.bind (app 3 1 8 x3_5 v22_14) fun v23_15 =>
          j_7 x0_5 v23_15 x10_5 x11_5
        ) (
          j_7 x0_5 x3_5 x10_5 x11_5
        )
      ) (
        M.pure x3_5
      )
    ) [a0, Value.slice none 0 0, v10_4, Value.int .i64 0]
  )
noncomputable def b47 : Code := match Tryz.f47.body with
  | some c => c
  | none => .skip
theorem e47 (cl : CallF) (a0 : Value) : bodyK Tryz.prog cl ann 47 Tryz.f47 b47 [a0] = s47 cl a0 := by kernel_rfl
theorem d47 {X : Exts} (hX : X 47 = none) (n : Nat) (a0 : Value) (H : Heap) : func Tryz.prog X ann (n + 1) 47 [a0] H = s47 (callF Tryz.prog X ann n) a0 n H :=
  (func_succ hX (by kernel_rfl) (by kernel_rfl : Tryz.f47.body = some b47) n (by rfl) H).trans (congrFun (congrFun (e47 _ a0) n) H)

/- function 46 -/
noncomputable def s46 (cl : CallF) (a0 : Value) (a1 : Value) : M Value :=
  M.bind (cl 104 [a0, a1]) fun v8_1 =>
  M.bind (binI .neq v8_1 (Value.int .i64 0)) fun v10_2 =>
  condV v10_2 (
    M.pure v8_1
  ) (
    M.bind (bld (List.replicate 64 (Value.int .u8 0)) []) fun v18_3 =>
    M.bind (nilck a0) fun v19_4 =>
    M.bind (fld 1 v19_4) fun v20_5 =>
    M.bind (idxP 16 1 v20_5 a1) fun v21_6 =>
    M.bind (nilck a0) fun v22_7 =>
    M.bind (fld 17 v22_7) fun v23_8 =>
    M.bind (nilck a0) fun v25_9 =>
    M.bind (fld 33 v25_9) fun v26_10 =>
    M.bind (st 1 v21_6 (Value.bool false)) fun _ =>
    M.bind (idxP 16 1 v23_8 a1) fun v24_12 =>
    M.bind (st 1 v24_12 (Value.bool false)) fun _ =>
    M.bind (idxP 16 64 v26_10 a1) fun v27_14 =>
    M.bind (st 64 v27_14 v18_3) fun _ =>
    M.pure (Value.int .i64 0)
  )
noncomputable def b46 : Code := match Tryz.f46.body with
  | some c => c
  | none => .skip
theorem e46 (cl : CallF) (a0 : Value) (a1 : Value) : bodyK Tryz.prog cl ann 46 Tryz.f46 b46 [a0, a1] = s46 cl a0 a1 := by kernel_rfl
theorem d46 {X : Exts} (hX : X 46 = none) (n : Nat) (a0 : Value) (a1 : Value) (H : Heap) : func Tryz.prog X ann (n + 1) 46 [a0, a1] H = s46 (callF Tryz.prog X ann n) a0 a1 n H :=
  (func_succ hX (by kernel_rfl) (by kernel_rfl : Tryz.f46.body = some b46) n (by rfl) H).trans (congrFun (congrFun (e46 _ a0 a1) n) H)

/- function 59 -/
noncomputable def s59 (cl : CallF) (a0 : Value) : M Value :=
  M.bind (binP .eql a0 (Value.pointer none)) fun v4_1 =>
  M.bind (guardM v4_1 false (M.pure a0)) fun v6_2 =>
  M.bind (guardM v4_1 false (nilck v6_2)) fun v7_3 =>
  M.bind (guardM v4_1 false (fld 0 v7_3)) fun v8_4 =>
  M.bind (guardM v4_1 false (ld false 1 v8_4)) fun v9_5 =>
  M.bind (guardM v4_1 false (binI .eql v9_5 (Value.int .i64 0))) fun v10_6 =>
  M.bind (pck v4_1 (Value.bool true) v10_6) fun v11_7 =>
  condV v11_7 (
    M.pure (Value.int .i64 1)
  ) (
    M.bind (bld (List.replicate 16 (Value.bool false)) []) fun v14_8 =>
    M.bind (nilck a0) fun v15_9 =>
    M.bind (fld 17 v15_9) fun v16_10 =>
    M.bind (st 16 v16_10 v14_8) fun _ =>
    M.bind (nilck a0) fun v17_12 =>
    M.bind (fld 1057 v17_12) fun v18_13 =>
    M.bind (st 1 v18_13 (Value.int .u64 0)) fun _ =>
    M.pure (Value.int .i64 0)
  )
noncomputable def b59 : Code := match Tryz.f59.body with
  | some c => c
  | none => .skip
theorem e59 (cl : CallF) (a0 : Value) : bodyK Tryz.prog cl ann 59 Tryz.f59 b59 [a0] = s59 cl a0 := by kernel_rfl
theorem d59 {X : Exts} (hX : X 59 = none) (n : Nat) (a0 : Value) (H : Heap) : func Tryz.prog X ann (n + 1) 59 [a0] H = s59 (callF Tryz.prog X ann n) a0 n H :=
  (func_succ hX (by kernel_rfl) (by kernel_rfl : Tryz.f59.body = some b59) n (by rfl) H).trans (congrFun (congrFun (e59 _ a0) n) H)

/- function 61 -/
noncomputable def s61 (cl : CallF) (a0 : Value) : M Value :=
  M.bind (binP .eql a0 (Value.pointer none)) fun v4_1 =>
  condV v4_1 (
    M.pure (Value.int .u64 0)
  ) (
    M.bind (nilck a0) fun v6_2 =>
    M.bind (fld 1057 v6_2) fun v7_3 =>
    M.bind (ld false 1 v7_3) fun v8_4 =>
    M.pure v8_4
  )
noncomputable def b61 : Code := match Tryz.f61.body with
  | some c => c
  | none => .skip
theorem e61 (cl : CallF) (a0 : Value) : bodyK Tryz.prog cl ann 61 Tryz.f61 b61 [a0] = s61 cl a0 := by kernel_rfl
theorem d61 {X : Exts} (hX : X 61 = none) (n : Nat) (a0 : Value) (H : Heap) : func Tryz.prog X ann (n + 1) 61 [a0] H = s61 (callF Tryz.prog X ann n) a0 n H :=
  (func_succ hX (by kernel_rfl) (by kernel_rfl : Tryz.f61.body = some b61) n (by rfl) H).trans (congrFun (congrFun (e61 _ a0) n) H)

/- function 103 -/
noncomputable def s103 (cl : CallF) (a0 : Value) : M Value :=
  M.bind (binI .lss a0 (Value.int .i64 1)) fun v5_1 =>
  M.bind (guardM v5_1 false (M.pure a0)) fun v7_2 =>
  M.bind (guardM v5_1 false (binI .gtr v7_2 (Value.int .i64 16))) fun v8_3 =>
  M.bind (pck v5_1 (Value.bool true) v8_3) fun v9_4 =>
  condV v9_4 (
    M.pure (Value.tuple ⟨[Value.pointer none, Value.int .i64 2]⟩)
  ) (
    M.bind (bld ([.int .i64 0] ++ List.replicate 32 (Value.bool false) ++ List.replicate 1024 (Value.int .u8 0) ++ [.int .u64 0]) [(0, 1, a0)]) fun v11_5 =>
    M.bind (box 156 v11_5) fun v12_6 =>
    M.pure (Value.tuple ⟨[v12_6, Value.int .i64 0]⟩)
  )
noncomputable def b103 : Code := match Tryz.f103.body with
  | some c => c
  | none => .skip
theorem e103 (cl : CallF) (a0 : Value) : bodyK Tryz.prog cl ann 103 Tryz.f103 b103 [a0] = s103 cl a0 := by kernel_rfl
theorem d103 {X : Exts} (hX : X 103 = none) (n : Nat) (a0 : Value) (H : Heap) : func Tryz.prog X ann (n + 1) 103 [a0] H = s103 (callF Tryz.prog X ann n) a0 n H :=
  (func_succ hX (by kernel_rfl) (by kernel_rfl : Tryz.f103.body = some b103) n (by rfl) H).trans (congrFun (congrFun (e103 _ a0) n) H)

end Go.Am
