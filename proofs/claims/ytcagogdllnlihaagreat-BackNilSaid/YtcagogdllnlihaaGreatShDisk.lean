/- Functions of the program, told shallowly: by program (sh.py). -/
import Derived.Test.YtcagogdllnlihaaGreatAmP
set_option linter.all false
namespace Go.Am
open Go.Proofs
/- function 82 -/
noncomputable def s82 (cl : CallF) (a0 : Value) : M Value :=
  M.bind (binI .lss a0 (Value.int .i64 1)) fun v5_1 =>
  M.bind (guardM v5_1 false (M.pure a0)) fun v7_2 =>
  M.bind (guardM v5_1 false (binI .gtr v7_2 (Value.int .i64 512))) fun v8_3 =>
  M.bind (pck v5_1 (Value.bool true) v8_3) fun v9_4 =>
  condV v9_4 (
    M.pure (Value.tuple ⟨[Value.pointer none, Value.int .i64 2]⟩)
  ) (
    M.bind (mkSlice 57 64 64 (List.replicate 64 (Value.int .u8 0)) a0 a0) fun v11_5 =>
    M.bind (bld [.slice none 0 0, .slice none 0 0, .bool false] [(0, 1, v11_5)]) fun v12_6 =>
    M.bind (box 167 v12_6) fun v13_7 =>
    M.pure (Value.tuple ⟨[v13_7, Value.int .i64 0]⟩)
  )
noncomputable def b82 : Code := match Tryz.f82.body with
  | some c => c
  | none => .skip
theorem e82 (cl : CallF) (a0 : Value) : bodyK Tryz.prog cl ann 82 Tryz.f82 b82 [a0] = s82 cl a0 := by kernel_rfl
theorem d82 {X : Exts} (hX : X 82 = none) (n : Nat) (a0 : Value) (H : Heap) : func Tryz.prog X ann (n + 1) 82 [a0] H = s82 (callF Tryz.prog X ann n) a0 n H :=
  (func_succ hX (by kernel_rfl) (by kernel_rfl : Tryz.f82.body = some b82) n (by rfl) H).trans (congrFun (congrFun (e82 _ a0) n) H)

/- function 110 -/
noncomputable def s110 (cl : CallF) (a0 : Value) : M Value :=
  M.bind (binP .eql a0 (Value.pointer none)) fun v4_1 =>
  M.bind (guardM v4_1 false (M.pure a0)) fun v6_2 =>
  M.bind (guardM v4_1 false (nilck v6_2)) fun v7_3 =>
  M.bind (guardM v4_1 false (fld 0 v7_3)) fun v8_4 =>
  M.bind (guardM v4_1 false (ld false 1 v8_4)) fun v9_5 =>
  M.bind (guardM v4_1 false (lenL v9_5)) fun v10_6 =>
  M.bind (guardM v4_1 false (binI .eql v10_6 (Value.int .i64 0))) fun v11_7 =>
  M.bind (pck v4_1 (Value.bool true) v11_7) fun v12_8 =>
  M.pure v12_8
noncomputable def b110 : Code := match Tryz.f110.body with
  | some c => c
  | none => .skip
theorem e110 (cl : CallF) (a0 : Value) : bodyK Tryz.prog cl ann 110 Tryz.f110 b110 [a0] = s110 cl a0 := by kernel_rfl
theorem d110 {X : Exts} (hX : X 110 = none) (n : Nat) (a0 : Value) (H : Heap) : func Tryz.prog X ann (n + 1) 110 [a0] H = s110 (callF Tryz.prog X ann n) a0 n H :=
  (func_succ hX (by kernel_rfl) (by kernel_rfl : Tryz.f110.body = some b110) n (by rfl) H).trans (congrFun (congrFun (e110 _ a0) n) H)

/- function 111 -/
noncomputable def s111 (cl : CallF) (a0 : Value) (a1 : Value) : M Value :=
  M.bind (cl 110 [a0]) fun v7_1 =>
  condV v7_1 (
    M.pure (Value.int .i64 1)
  ) (
    M.bind (binI .lss a1 (Value.int .i64 0)) fun v10_2 =>
    M.bind (guardM v10_2 false (M.pure a1)) fun v12_3 =>
    M.bind (guardM v10_2 false (M.pure a0)) fun v13_4 =>
    M.bind (guardM v10_2 false (nilck v13_4)) fun v14_5 =>
    M.bind (guardM v10_2 false (fld 0 v14_5)) fun v15_6 =>
    M.bind (guardM v10_2 false (ld false 1 v15_6)) fun v16_7 =>
    M.bind (guardM v10_2 false (lenL v16_7)) fun v17_8 =>
    M.bind (guardM v10_2 false (binI .geq v12_3 v17_8)) fun v18_9 =>
    M.bind (pck v10_2 (Value.bool true) v18_9) fun v19_10 =>
    condV v19_10 (
      M.pure (Value.int .i64 2)
    ) (
      M.bind (nilck a0) fun v22_11 =>
      M.bind (fld 2 v22_11) fun v23_12 =>
      M.bind (ld false 1 v23_12) fun v24_13 =>
      condV v24_13 (
        M.pure (Value.int .i64 9)
      ) (
        M.pure (Value.int .i64 0)
      )
    )
  )
noncomputable def b111 : Code := match Tryz.f111.body with
  | some c => c
  | none => .skip
theorem e111 (cl : CallF) (a0 : Value) (a1 : Value) : bodyK Tryz.prog cl ann 111 Tryz.f111 b111 [a0, a1] = s111 cl a0 a1 := by kernel_rfl
theorem d111 {X : Exts} (hX : X 111 = none) (n : Nat) (a0 : Value) (a1 : Value) (H : Heap) : func Tryz.prog X ann (n + 1) 111 [a0, a1] H = s111 (callF Tryz.prog X ann n) a0 a1 n H :=
  (func_succ hX (by kernel_rfl) (by kernel_rfl : Tryz.f111.body = some b111) n (by rfl) H).trans (congrFun (congrFun (e111 _ a0 a1) n) H)

/- function 141 -/
noncomputable def s141 (cl : CallF) (a0 : Value) : M Value :=
  M.bind (cl 110 [a0]) fun v4_1 =>
  condV v4_1 (
    M.pure (Value.int .i64 0)
  ) (
    M.bind (nilck a0) fun v6_2 =>
    M.bind (fld 0 v6_2) fun v7_3 =>
    M.bind (ld false 1 v7_3) fun v8_4 =>
    M.bind (lenL v8_4) fun v9_5 =>
    M.pure v9_5
  )
noncomputable def b141 : Code := match Tryz.f141.body with
  | some c => c
  | none => .skip
theorem e141 (cl : CallF) (a0 : Value) : bodyK Tryz.prog cl ann 141 Tryz.f141 b141 [a0] = s141 cl a0 := by kernel_rfl
theorem d141 {X : Exts} (hX : X 141 = none) (n : Nat) (a0 : Value) (H : Heap) : func Tryz.prog X ann (n + 1) 141 [a0] H = s141 (callF Tryz.prog X ann n) a0 n H :=
  (func_succ hX (by kernel_rfl) (by kernel_rfl : Tryz.f141.body = some b141) n (by rfl) H).trans (congrFun (congrFun (e141 _ a0) n) H)

/- function 183 -/
noncomputable def s183 (cl : CallF) (a0 : Value) (a1 : Value) : M Value :=
  M.bind (alloc 57 (List.replicate 64 (Value.int .u8 0))) fun v4_1 =>
  M.bind (cl 111 [a0, a1]) fun v10_2 =>
  M.bind (binI .neq v10_2 (Value.int .i64 0)) fun v12_3 =>
  condV v12_3 (
    M.bind (bld (List.replicate 64 (Value.int .u8 0)) []) fun v13_4 =>
    M.bind (st 64 v4_1 v13_4) fun _ =>
    M.bind (ld true 64 v4_1) fun r_6 =>
    M.pure (Value.tuple ⟨[r_6, v10_2]⟩)
  ) (
    M.bind (nilck a0) fun v16_7 =>
    M.bind (fld 1 v16_7) fun v17_8 =>
    M.bind (ld false 1 v17_8) fun v18_9 =>
    M.bind (lenL v18_9) fun v19_10 =>
    M.bind (binI .sub v19_10 (Value.int .i64 1)) fun v20_11 =>
    loopV (fun again_12 vs_12 =>
      let x0_12 := mk [0, 1, 4, 7] vs_12 0
      let x1_12 := mk [0, 1, 4, 7] vs_12 1
      let x4_12 := mk [0, 1, 4, 7] vs_12 4
      let x7_12 := mk [0, 1, 4, 7] vs_12 7
      M.bind (binI .geq x7_12 (Value.int .i64 0)) fun v22_13 =>
      condV v22_13 (
        M.bind (nilck x0_12) fun v26_14 =>
        M.bind (fld 1 v26_14) fun v27_15 =>
        M.bind (ld false 1 v27_15) fun v28_16 =>
        M.bind (idxS 65 v28_16 x7_12) fun v30_17 =>
        M.bind (fld 0 v30_17) fun v31_18 =>
        M.bind (ld false 1 v31_18) fun v32_19 =>
        M.bind (binI .eql v32_19 x1_12) fun v34_20 =>
        condV v34_20 (
          M.bind (nilck x0_12) fun v36_21 =>
          M.bind (fld 1 v36_21) fun v37_22 =>
          M.bind (ld false 1 v37_22) fun v38_23 =>
          M.bind (idxS 65 v38_23 x7_12) fun v40_24 =>
          M.bind (fld 1 v40_24) fun v41_25 =>
          M.bind (ld true 64 v41_25) fun v42_26 =>
          M.bind (st 64 x4_12 v42_26) fun _ =>
          M.bind (ld true 64 x4_12) fun r_28 =>
          M.pure (Value.tuple ⟨[r_28, Value.int .i64 0]⟩)
        ) (
          M.bind (binI .sub x7_12 (Value.int .i64 1)) fun v24_29 =>
          again_12 [x0_12, x1_12, x4_12, v24_29]
        )
      ) (
        M.bind (nilck x0_12) fun v44_30 =>
        M.bind (fld 0 v44_30) fun v45_31 =>
        M.bind (ld false 1 v45_31) fun v46_32 =>
        M.bind (idxS 64 v46_32 x1_12) fun v48_33 =>
        M.bind (ld true 64 v48_33) fun v49_34 =>
        M.bind (st 64 x4_12 v49_34) fun _ =>
        M.bind (ld true 64 x4_12) fun r_36 =>
        M.pure (Value.tuple ⟨[r_36, Value.int .i64 0]⟩)
      )
    ) [a0, a1, v4_1, v20_11]
  )
noncomputable def b183 : Code := match Tryz.f183.body with
  | some c => c
  | none => .skip
theorem e183 (cl : CallF) (a0 : Value) (a1 : Value) : bodyK Tryz.prog cl ann 183 Tryz.f183 b183 [a0, a1] = s183 cl a0 a1 := by kernel_rfl
theorem d183 {X : Exts} (hX : X 183 = none) (n : Nat) (a0 : Value) (a1 : Value) (H : Heap) : func Tryz.prog X ann (n + 1) 183 [a0, a1] H = s183 (callF Tryz.prog X ann n) a0 a1 n H :=
  (func_succ hX (by kernel_rfl) (by kernel_rfl : Tryz.f183.body = some b183) n (by rfl) H).trans (congrFun (congrFun (e183 _ a0 a1) n) H)

/- function 147 -/
noncomputable def s147 (cl : CallF) (a0 : Value) (a1 : Value) (a2 : Value) : M Value :=
  M.bind (box 57 a2) fun v5_1 =>
  M.bind (cl 111 [a0, a1]) fun v10_2 =>
  M.bind (binI .eql v10_2 (Value.int .i64 0)) fun v12_3 =>
  condV v12_3 (
    M.bind (nilck a0) fun v15_5 =>
    M.bind (fld 1 v15_5) fun v16_6 =>
    M.bind (ld false 1 v16_6) fun v17_7 =>
    M.bind (ld true 64 v5_1) fun v19_8 =>
    M.bind (bld ([.int .i64 0] ++ List.replicate 64 (Value.int .u8 0)) [(0, 1, a1), (1, 64, v19_8)]) fun v20_9 =>
    M.bind (bldSlice 219 65 ([.int .i64 0] ++ List.replicate 64 (Value.int .u8 0)) 1 [(0, 65, v20_9)]) fun v21_10 =>
    M.bind (app 219 65 72 v17_7 v21_10) fun v22_11 =>
    M.bind (nilck a0) fun v23_12 =>
    M.bind (fld 1 v23_12) fun v24_13 =>
    M.bind (st 1 v24_13 v22_11) fun _ =>
    M.pure v10_2
  ) (
    M.pure v10_2
  )
noncomputable def b147 : Code := match Tryz.f147.body with
  | some c => c
  | none => .skip
theorem e147 (cl : CallF) (a0 : Value) (a1 : Value) (a2 : Value) : bodyK Tryz.prog cl ann 147 Tryz.f147 b147 [a0, a1, a2] = s147 cl a0 a1 a2 := by kernel_rfl
theorem d147 {X : Exts} (hX : X 147 = none) (n : Nat) (a0 : Value) (a1 : Value) (a2 : Value) (H : Heap) : func Tryz.prog X ann (n + 1) 147 [a0, a1, a2] H = s147 (callF Tryz.prog X ann n) a0 a1 a2 n H :=
  (func_succ hX (by kernel_rfl) (by kernel_rfl : Tryz.f147.body = some b147) n (by rfl) H).trans (congrFun (congrFun (e147 _ a0 a1 a2) n) H)

/- function 149 -/
noncomputable def s149 (cl : CallF) (a0 : Value) : M Value :=
  M.bind (cl 111 [a0, Value.int .i64 0]) fun v7_1 =>
  M.bind (binI .neq v7_1 (Value.int .i64 0)) fun v9_2 =>
  condV v9_2 (
    M.pure v7_1
  ) (
    M.bind (nilck a0) fun v12_3 =>
    M.bind (fld 1 v12_3) fun v13_4 =>
    M.bind (ld false 1 v13_4) fun v14_5 =>
    M.bind (lenL v14_5) fun v15_6 =>
    loopV (fun again_7 vs_7 =>
      let x0_7 := mk [0, 14, 15, 16] vs_7 0
      let x14_7 := mk [0, 14, 15, 16] vs_7 14
      let x15_7 := mk [0, 14, 15, 16] vs_7 15
      let x16_7 := mk [0, 14, 15, 16] vs_7 16
      M.bind (binI .lss x16_7 x15_7) fun v17_8 =>
      condV v17_8 (
        M.bind (idxS 65 x14_7 x16_7) fun v18_9 =>
        M.bind (ld true 65 v18_9) fun v19_10 =>
        M.bind (alloc 219 ([.int .i64 0] ++ List.replicate 64 (Value.int .u8 0))) fun v5_11 =>
        M.bind (st 65 v5_11 v19_10) fun _ =>
        M.bind (nilck x0_7) fun v21_13 =>
        M.bind (fld 0 v21_13) fun v22_14 =>
        M.bind (ld false 1 v22_14) fun v23_15 =>
        M.bind (fld 0 v5_11) fun v24_16 =>
        M.bind (ld false 1 v24_16) fun v25_17 =>
        M.bind (fld 1 v5_11) fun v26_18 =>
        M.bind (ld true 64 v26_18) fun v27_19 =>
        M.bind (idxS 64 v23_15 v25_17) fun v28_20 =>
        M.bind (st 64 v28_20 v27_19) fun _ =>
        M.bind (binI .add x16_7 (Value.int .i64 1)) fun v29_22 =>
        again_7 [x0_7, x14_7, x15_7, v29_22]
      ) (
        M.bind (nilck x0_7) fun v31_23 =>
        M.bind (fld 1 v31_23) fun v32_24 =>
        M.bind (st 1 v32_24 (Value.slice none 0 0)) fun _ =>
        M.pure (Value.int .i64 0)
      )
    ) [a0, v14_5, v15_6, Value.int .i64 0]
  )
noncomputable def b149 : Code := match Tryz.f149.body with
  | some c => c
  | none => .skip
theorem e149 (cl : CallF) (a0 : Value) : bodyK Tryz.prog cl ann 149 Tryz.f149 b149 [a0] = s149 cl a0 := by kernel_rfl
theorem d149 {X : Exts} (hX : X 149 = none) (n : Nat) (a0 : Value) (H : Heap) : func Tryz.prog X ann (n + 1) 149 [a0] H = s149 (callF Tryz.prog X ann n) a0 n H :=
  (func_succ hX (by kernel_rfl) (by kernel_rfl : Tryz.f149.body = some b149) n (by rfl) H).trans (congrFun (congrFun (e149 _ a0) n) H)

/- function 50 -/
noncomputable def s50 (cl : CallF) (a0 : Value) : M Value :=
  M.bind (cl 110 [a0]) fun v4_1 =>
  condV v4_1 (
    M.pure (Value.int .i64 1)
  ) (
    M.bind (nilck a0) fun v7_2 =>
    M.bind (fld 2 v7_2) fun v8_3 =>
    M.bind (st 1 v8_3 (Value.bool true)) fun _ =>
    M.bind (nilck a0) fun v9_5 =>
    M.bind (fld 1 v9_5) fun v10_6 =>
    M.bind (st 1 v10_6 (Value.slice none 0 0)) fun _ =>
    M.pure (Value.int .i64 0)
  )
noncomputable def b50 : Code := match Tryz.f50.body with
  | some c => c
  | none => .skip
theorem e50 (cl : CallF) (a0 : Value) : bodyK Tryz.prog cl ann 50 Tryz.f50 b50 [a0] = s50 cl a0 := by kernel_rfl
theorem d50 {X : Exts} (hX : X 50 = none) (n : Nat) (a0 : Value) (H : Heap) : func Tryz.prog X ann (n + 1) 50 [a0] H = s50 (callF Tryz.prog X ann n) a0 n H :=
  (func_succ hX (by kernel_rfl) (by kernel_rfl : Tryz.f50.body = some b50) n (by rfl) H).trans (congrFun (congrFun (e50 _ a0) n) H)

/- function 52 -/
noncomputable def s52 (cl : CallF) (a0 : Value) (a1 : Value) : M Value :=
  M.bind (alloc 57 (List.replicate 64 (Value.int .u8 0))) fun v4_1 =>
  M.bind (cl 111 [a0, a1]) fun v9_2 =>
  M.bind (binI .neq v9_2 (Value.int .i64 0)) fun v11_3 =>
  condV v11_3 (
    M.bind (bld (List.replicate 64 (Value.int .u8 0)) []) fun v12_4 =>
    M.bind (st 64 v4_1 v12_4) fun _ =>
    M.bind (ld true 64 v4_1) fun r_6 =>
    M.pure (Value.tuple ⟨[r_6, v9_2]⟩)
  ) (
    M.bind (nilck a0) fun v15_7 =>
    M.bind (fld 0 v15_7) fun v16_8 =>
    M.bind (ld false 1 v16_8) fun v17_9 =>
    M.bind (idxS 64 v17_9 a1) fun v19_10 =>
    M.bind (ld true 64 v19_10) fun v20_11 =>
    M.bind (st 64 v4_1 v20_11) fun _ =>
    M.bind (ld true 64 v4_1) fun r_13 =>
    M.pure (Value.tuple ⟨[r_13, Value.int .i64 0]⟩)
  )
noncomputable def b52 : Code := match Tryz.f52.body with
  | some c => c
  | none => .skip
theorem e52 (cl : CallF) (a0 : Value) (a1 : Value) : bodyK Tryz.prog cl ann 52 Tryz.f52 b52 [a0, a1] = s52 cl a0 a1 := by kernel_rfl
theorem d52 {X : Exts} (hX : X 52 = none) (n : Nat) (a0 : Value) (a1 : Value) (H : Heap) : func Tryz.prog X ann (n + 1) 52 [a0, a1] H = s52 (callF Tryz.prog X ann n) a0 a1 n H :=
  (func_succ hX (by kernel_rfl) (by kernel_rfl : Tryz.f52.body = some b52) n (by rfl) H).trans (congrFun (congrFun (e52 _ a0 a1) n) H)

end Go.Am
