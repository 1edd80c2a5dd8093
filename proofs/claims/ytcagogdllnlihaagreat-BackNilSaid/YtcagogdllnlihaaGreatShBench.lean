/- Functions of the program, told shallowly: by program (sh.py). -/
import Derived.Test.YtcagogdllnlihaaGreatAmP
set_option linter.all false
namespace Go.Am
open Go.Proofs
/- function 32 -/
noncomputable def s32 (cl : CallF) (a0 : Value) : M Value :=
  M.bind (lenL a0) fun v10_1 =>
  M.bind (binI .lss v10_1 (Value.int .i64 1)) fun v11_2 =>
  M.bind (guardM v11_2 false (M.pure a0)) fun v13_3 =>
  M.bind (guardM v11_2 false (lenL v13_3)) fun v14_4 =>
  M.bind (guardM v11_2 false (binI .gtr v14_4 (Value.int .i64 17))) fun v15_5 =>
  M.bind (pck v11_2 (Value.bool true) v15_5) fun v16_6 =>
  condV v16_6 (
    M.pure (Value.tuple ⟨[Value.pointer none, Value.int .i64 2]⟩)
  ) (
    M.bind (bld [.slice none 0 0, .int .i64 0, .int .i64 0, .bool false] []) fun v17_7 =>
    M.bind (box 112 v17_7) fun v18_8 =>
    M.bind (lenL a0) fun v20_9 =>
    loopV (fun again_10 vs_10 =>
      let x4_10 := mk [4, 19, 20, 21] vs_10 4
      let x19_10 := mk [4, 19, 20, 21] vs_10 19
      let x20_10 := mk [4, 19, 20, 21] vs_10 20
      let x21_10 := mk [4, 19, 20, 21] vs_10 21
      M.bind (binI .lss x21_10 x20_10) fun v22_11 =>
      condV v22_11 (
        M.bind (idxS 1 x19_10 x21_10) fun v23_12 =>
        M.bind (ld false 1 v23_12) fun v24_13 =>
        M.bind (cl 82 [v24_13]) fun v27_14 =>
        M.bind (ext 0 v27_14) fun v28_15 =>
        M.bind (ext 1 v27_14) fun v29_16 =>
        M.bind (binI .neq v29_16 (Value.int .i64 0)) fun v31_17 =>
        condV v31_17 (
          M.pure (Value.tuple ⟨[Value.pointer none, v29_16]⟩)
        ) (
          M.bind (nilck x4_10) fun v35_18 =>
          M.bind (fld 0 v35_18) fun v36_19 =>
          M.bind (ld false 1 v36_19) fun v37_20 =>
          M.bind (bldSlice 109 1 [.pointer none] 1 [(0, 1, v28_15)]) fun v39_21 =>
          M.bind (app 109 1 8 v37_20 v39_21) fun v40_22 =>
          M.bind (nilck x4_10) fun v41_23 =>
          M.bind (fld 0 v41_23) fun v42_24 =>
          M.bind (st 1 v42_24 v40_22) fun _ =>
          M.bind (binI .add x21_10 (Value.int .i64 1)) fun v43_26 =>
          again_10 [x4_10, x19_10, x20_10, v43_26]
        )
      ) (
        M.pure (Value.tuple ⟨[x4_10, Value.int .i64 0]⟩)
      )
    ) [v18_8, a0, v20_9, Value.int .i64 0]
  )
noncomputable def b32 : Code := match Tryz.f32.body with
  | some c => c
  | none => .skip
theorem e32 (cl : CallF) (a0 : Value) : bodyK Tryz.prog cl ann 32 Tryz.f32 b32 [a0] = s32 cl a0 := by kernel_rfl
theorem d32 {X : Exts} (hX : X 32 = none) (n : Nat) (a0 : Value) (H : Heap) : func Tryz.prog X ann (n + 1) 32 [a0] H = s32 (callF Tryz.prog X ann n) a0 n H :=
  (func_succ hX (by kernel_rfl) (by kernel_rfl : Tryz.f32.body = some b32) n (by rfl) H).trans (congrFun (congrFun (e32 _ a0) n) H)

/- function 108 -/
noncomputable def s108 (cl : CallF) (a0 : Value) : M Value :=
  M.bind (binP .eql a0 (Value.pointer none)) fun v4_1 =>
  M.bind (guardM v4_1 false (M.pure a0)) fun v6_2 =>
  M.bind (guardM v4_1 false (nilck v6_2)) fun v7_3 =>
  M.bind (guardM v4_1 false (fld 0 v7_3)) fun v8_4 =>
  M.bind (guardM v4_1 false (ld false 1 v8_4)) fun v9_5 =>
  M.bind (guardM v4_1 false (lenL v9_5)) fun v10_6 =>
  M.bind (guardM v4_1 false (binI .eql v10_6 (Value.int .i64 0))) fun v11_7 =>
  M.bind (pck v4_1 (Value.bool true) v11_7) fun v12_8 =>
  M.pure v12_8
noncomputable def b108 : Code := match Tryz.f108.body with
  | some c => c
  | none => .skip
theorem e108 (cl : CallF) (a0 : Value) : bodyK Tryz.prog cl ann 108 Tryz.f108 b108 [a0] = s108 cl a0 := by kernel_rfl
theorem d108 {X : Exts} (hX : X 108 = none) (n : Nat) (a0 : Value) (H : Heap) : func Tryz.prog X ann (n + 1) 108 [a0] H = s108 (callF Tryz.prog X ann n) a0 n H :=
  (func_succ hX (by kernel_rfl) (by kernel_rfl : Tryz.f108.body = some b108) n (by rfl) H).trans (congrFun (congrFun (e108 _ a0) n) H)

/- function 109 -/
noncomputable def s109 (cl : CallF) (a0 : Value) (a1 : Value) : M Value :=
  M.bind (binI .geq a1 (Value.int .i64 0)) fun v6_1 =>
  M.bind (guardM v6_1 true (M.pure a1)) fun v8_2 =>
  M.bind (guardM v6_1 true (M.pure a0)) fun v9_3 =>
  M.bind (guardM v6_1 true (nilck v9_3)) fun v10_4 =>
  M.bind (guardM v6_1 true (fld 0 v10_4)) fun v11_5 =>
  M.bind (guardM v6_1 true (ld false 1 v11_5)) fun v12_6 =>
  M.bind (guardM v6_1 true (lenL v12_6)) fun v13_7 =>
  M.bind (guardM v6_1 true (binI .lss v8_2 v13_7)) fun v14_8 =>
  M.bind (pck v6_1 v14_8 (Value.bool false)) fun v15_9 =>
  M.pure v15_9
noncomputable def b109 : Code := match Tryz.f109.body with
  | some c => c
  | none => .skip
theorem e109 (cl : CallF) (a0 : Value) (a1 : Value) : bodyK Tryz.prog cl ann 109 Tryz.f109 b109 [a0, a1] = s109 cl a0 a1 := by kernel_rfl
theorem d109 {X : Exts} (hX : X 109 = none) (n : Nat) (a0 : Value) (a1 : Value) (H : Heap) : func Tryz.prog X ann (n + 1) 109 [a0, a1] H = s109 (callF Tryz.prog X ann n) a0 a1 n H :=
  (func_succ hX (by kernel_rfl) (by kernel_rfl : Tryz.f109.body = some b109) n (by rfl) H).trans (congrFun (congrFun (e109 _ a0 a1) n) H)

/- function 49 -/
noncomputable def s49 (cl : CallF) (a0 : Value) (a1 : Value) : M Value :=
  M.bind (cl 108 [a0]) fun v7_1 =>
  condV v7_1 (
    M.pure (Value.int .i64 1)
  ) (
    M.bind (cl 109 [a0, a1]) fun v11_2 =>
    M.bind (un .not v11_2) fun v12_3 =>
    condV v12_3 (
      M.pure (Value.int .i64 2)
    ) (
      M.pure (Value.int .i64 0)
    )
  )
noncomputable def b49 : Code := match Tryz.f49.body with
  | some c => c
  | none => .skip
theorem e49 (cl : CallF) (a0 : Value) (a1 : Value) : bodyK Tryz.prog cl ann 49 Tryz.f49 b49 [a0, a1] = s49 cl a0 a1 := by kernel_rfl
theorem d49 {X : Exts} (hX : X 49 = none) (n : Nat) (a0 : Value) (a1 : Value) (H : Heap) : func Tryz.prog X ann (n + 1) 49 [a0, a1] H = s49 (callF Tryz.prog X ann n) a0 a1 n H :=
  (func_succ hX (by kernel_rfl) (by kernel_rfl : Tryz.f49.body = some b49) n (by rfl) H).trans (congrFun (congrFun (e49 _ a0 a1) n) H)

/- function 182 -/
noncomputable def s182 (cl : CallF) (a0 : Value) (a1 : Value) : M Value :=
  M.bind (cl 108 [a0]) fun v6_1 =>
  M.bind (un .not v6_1) fun v7_2 =>
  M.bind (guardM v7_2 true (M.pure a0)) fun v9_3 =>
  M.bind (guardM v7_2 true (nilck v9_3)) fun v10_4 =>
  M.bind (guardM v7_2 true (fld 3 v10_4)) fun v11_5 =>
  M.bind (guardM v7_2 true (ld false 1 v11_5)) fun v12_6 =>
  M.bind (pck v7_2 v12_6 (Value.bool false)) fun v13_7 =>
  condV v13_7 (
    M.pure (Value.int .i64 8)
  ) (
    M.bind (cl 49 [a0, a1]) fun v16_8 =>
    M.pure v16_8
  )
noncomputable def b182 : Code := match Tryz.f182.body with
  | some c => c
  | none => .skip
theorem e182 (cl : CallF) (a0 : Value) (a1 : Value) : bodyK Tryz.prog cl ann 182 Tryz.f182 b182 [a0, a1] = s182 cl a0 a1 := by kernel_rfl
theorem d182 {X : Exts} (hX : X 182 = none) (n : Nat) (a0 : Value) (a1 : Value) (H : Heap) : func Tryz.prog X ann (n + 1) 182 [a0, a1] H = s182 (callF Tryz.prog X ann n) a0 a1 n H :=
  (func_succ hX (by kernel_rfl) (by kernel_rfl : Tryz.f182.body = some b182) n (by rfl) H).trans (congrFun (congrFun (e182 _ a0 a1) n) H)

/- function 85 -/
noncomputable def s85 (cl : CallF) (a0 : Value) : M Value :=
  M.bind (cl 108 [a0]) fun v4_1 =>
  condV v4_1 (
    M.pure (Value.int .i64 0)
  ) (
    M.bind (nilck a0) fun v6_2 =>
    M.bind (fld 0 v6_2) fun v7_3 =>
    M.bind (ld false 1 v7_3) fun v8_4 =>
    M.bind (lenL v8_4) fun v9_5 =>
    M.pure v9_5
  )
noncomputable def b85 : Code := match Tryz.f85.body with
  | some c => c
  | none => .skip
theorem e85 (cl : CallF) (a0 : Value) : bodyK Tryz.prog cl ann 85 Tryz.f85 b85 [a0] = s85 cl a0 := by kernel_rfl
theorem d85 {X : Exts} (hX : X 85 = none) (n : Nat) (a0 : Value) (H : Heap) : func Tryz.prog X ann (n + 1) 85 [a0] H = s85 (callF Tryz.prog X ann n) a0 n H :=
  (func_succ hX (by kernel_rfl) (by kernel_rfl : Tryz.f85.body = some b85) n (by rfl) H).trans (congrFun (congrFun (e85 _ a0) n) H)

/- function 87 -/
noncomputable def s87 (cl : CallF) (a0 : Value) (a1 : Value) : M Value :=
  M.bind (cl 49 [a0, a1]) fun v7_1 =>
  M.bind (binI .neq v7_1 (Value.int .i64 0)) fun v8_2 =>
  condV v8_2 (
    M.pure (Value.int .i64 0)
  ) (
    M.bind (nilck a0) fun v10_3 =>
    M.bind (fld 0 v10_3) fun v11_4 =>
    M.bind (ld false 1 v11_4) fun v12_5 =>
    M.bind (idxS 1 v12_5 a1) fun v14_6 =>
    M.bind (ld false 1 v14_6) fun v15_7 =>
    M.bind (cl 141 [v15_7]) fun v16_8 =>
    M.pure v16_8
  )
noncomputable def b87 : Code := match Tryz.f87.body with
  | some c => c
  | none => .skip
theorem e87 (cl : CallF) (a0 : Value) (a1 : Value) : bodyK Tryz.prog cl ann 87 Tryz.f87 b87 [a0, a1] = s87 cl a0 a1 := by kernel_rfl
theorem d87 {X : Exts} (hX : X 87 = none) (n : Nat) (a0 : Value) (a1 : Value) (H : Heap) : func Tryz.prog X ann (n + 1) 87 [a0, a1] H = s87 (callF Tryz.prog X ann n) a0 a1 n H :=
  (func_succ hX (by kernel_rfl) (by kernel_rfl : Tryz.f87.body = some b87) n (by rfl) H).trans (congrFun (congrFun (e87 _ a0 a1) n) H)

/- function 144 -/
noncomputable def s144 (cl : CallF) (a0 : Value) (a1 : Value) (a2 : Value) : M Value :=
  M.bind (alloc 57 (List.replicate 64 (Value.int .u8 0))) fun v6_1 =>
  M.bind (cl 182 [a0, a1]) fun v11_2 =>
  M.bind (binI .neq v11_2 (Value.int .i64 0)) fun v13_3 =>
  condV v13_3 (
    M.bind (bld (List.replicate 64 (Value.int .u8 0)) []) fun v14_4 =>
    M.bind (st 64 v6_1 v14_4) fun _ =>
    M.bind (ld true 64 v6_1) fun r_6 =>
    M.pure (Value.tuple ⟨[r_6, v11_2]⟩)
  ) (
    M.bind (nilck a0) fun v17_7 =>
    M.bind (fld 0 v17_7) fun v18_8 =>
    M.bind (ld false 1 v18_8) fun v19_9 =>
    M.bind (idxS 1 v19_9 a1) fun v21_10 =>
    M.bind (ld false 1 v21_10) fun v22_11 =>
    M.bind (cl 183 [v22_11, a2]) fun v24_12 =>
    M.bind (ext 0 v24_12) fun v25_13 =>
    M.bind (ext 1 v24_12) fun v26_14 =>
    M.bind (st 64 v6_1 v25_13) fun _ =>
    M.bind (ld true 64 v6_1) fun r_16 =>
    M.pure (Value.tuple ⟨[r_16, v26_14]⟩)
  )
noncomputable def b144 : Code := match Tryz.f144.body with
  | some c => c
  | none => .skip
theorem e144 (cl : CallF) (a0 : Value) (a1 : Value) (a2 : Value) : bodyK Tryz.prog cl ann 144 Tryz.f144 b144 [a0, a1, a2] = s144 cl a0 a1 a2 := by kernel_rfl
theorem d144 {X : Exts} (hX : X 144 = none) (n : Nat) (a0 : Value) (a1 : Value) (a2 : Value) (H : Heap) : func Tryz.prog X ann (n + 1) 144 [a0, a1, a2] H = s144 (callF Tryz.prog X ann n) a0 a1 a2 n H :=
  (func_succ hX (by kernel_rfl) (by kernel_rfl : Tryz.f144.body = some b144) n (by rfl) H).trans (congrFun (congrFun (e144 _ a0 a1 a2) n) H)

/- function 145 -/
noncomputable def s145 (cl : CallF) (a0 : Value) (a1 : Value) : M Value :=
  M.bind (nilck a0) fun v6_1 =>
  M.bind (fld 2 v6_1) fun v7_2 =>
  M.bind (ld false 1 v7_2) fun v8_3 =>
  let j_4 := fun (y0_4 : Value) (y1_4 : Value) =>
    M.bind (nilck y0_4) fun v24_5 =>
    M.bind (fld 1 v24_5) fun v25_6 =>
    M.bind (ld false 1 v25_6) fun v26_7 =>
    M.bind (binI .add v26_7 (Value.int .i64 1)) fun v27_8 =>
    M.bind (nilck y0_4) fun v28_9 =>
    M.bind (fld 1 v28_9) fun v29_10 =>
    M.bind (st 1 v29_10 v27_8) fun _ =>
    M.bind (callV cl y1_4 []) fun v31_12 =>
    M.pure v31_12
  M.bind (binI .eql v8_3 (Value.int .i64 0)) fun v17_13 =>
  condV v17_13 (
    j_4 a0 a1
  ) (
    M.bind (binI .eql v8_3 (Value.int .i64 1)) fun v19_15 =>
    condV v19_15 (
      M.bind (nilck a0) fun v21_16 =>
      M.bind (fld 3 v21_16) fun v22_17 =>
      M.bind (st 1 v22_17 (Value.bool true)) fun _ =>
      M.pure (Value.int .i64 8)
    ) (
      M.bind (nilck a0) fun v10_19 =>
      M.bind (fld 2 v10_19) fun v11_20 =>
      M.bind (ld false 1 v11_20) fun v12_21 =>
      M.bind (binI .sub v12_21 (Value.int .i64 1)) fun v13_22 =>
      M.bind (nilck a0) fun v14_23 =>
      M.bind (fld 2 v14_23) fun v15_24 =>
      M.bind (st 1 v15_24 v13_22) fun _ =>
      j_4 a0 a1
    )
  )
noncomputable def b145 : Code := match Tryz.f145.body with
  | some c => c
  | none => .skip
theorem e145 (cl : CallF) (a0 : Value) (a1 : Value) : bodyK Tryz.prog cl ann 145 Tryz.f145 b145 [a0, a1] = s145 cl a0 a1 := by kernel_rfl
theorem d145 {X : Exts} (hX : X 145 = none) (n : Nat) (a0 : Value) (a1 : Value) (H : Heap) : func Tryz.prog X ann (n + 1) 145 [a0, a1] H = s145 (callF Tryz.prog X ann n) a0 a1 n H :=
  (func_succ hX (by kernel_rfl) (by kernel_rfl : Tryz.f145.body = some b145) n (by rfl) H).trans (congrFun (congrFun (e145 _ a0 a1) n) H)

/- function 94 -/
noncomputable def s94 (cl : CallF) (a0 : Value) (a1 : Value) (a2 : Value) (a3 : Value) : M Value :=
  M.bind (box 24 a0) fun v4_1 =>
  M.bind (box 3 a1) fun v5_2 =>
  M.bind (box 3 a2) fun v6_3 =>
  M.bind (box 57 a3) fun v7_4 =>
  M.bind (ld false 1 v4_1) fun v12_5 =>
  M.bind (ld false 1 v5_2) fun v13_6 =>
  M.bind (ld false 1 v6_3) fun v14_7 =>
  M.bind (cl 144 [v12_5, v13_6, v14_7]) fun v15_8 =>
  M.bind (ext 0 v15_8) fun v16_9 =>
  M.bind (ext 1 v15_8) fun v17_10 =>
  M.bind (alloc 57 (List.replicate 64 (Value.int .u8 0))) fun v9_11 =>
  M.bind (st 64 v9_11 v16_9) fun _ =>
  M.bind (binI .neq v17_10 (Value.int .i64 0)) fun v19_13 =>
  condV v19_13 (
    M.pure v17_10
  ) (
    M.bind (ld false 1 v4_1) fun v21_14 =>
    M.bind (M.pure (Value.func (.func 146) ⟨[]⟩ ⟨[v4_1, v5_2, v6_3, v7_4]⟩)) fun v22_15 =>
    M.bind (cl 145 [v21_14, v22_15]) fun v23_16 =>
    M.pure v23_16
  )
noncomputable def b94 : Code := match Tryz.f94.body with
  | some c => c
  | none => .skip
theorem e94 (cl : CallF) (a0 : Value) (a1 : Value) (a2 : Value) (a3 : Value) : bodyK Tryz.prog cl ann 94 Tryz.f94 b94 [a0, a1, a2, a3] = s94 cl a0 a1 a2 a3 := by kernel_rfl
theorem d94 {X : Exts} (hX : X 94 = none) (n : Nat) (a0 : Value) (a1 : Value) (a2 : Value) (a3 : Value) (H : Heap) : func Tryz.prog X ann (n + 1) 94 [a0, a1, a2, a3] H = s94 (callF Tryz.prog X ann n) a0 a1 a2 a3 n H :=
  (func_succ hX (by kernel_rfl) (by kernel_rfl : Tryz.f94.body = some b94) n (by rfl) H).trans (congrFun (congrFun (e94 _ a0 a1 a2 a3) n) H)

/- function 146 -/
noncomputable def s146 (cl : CallF) (a0 : Value) (a1 : Value) (a2 : Value) (a3 : Value) : M Value :=
  M.bind (ld false 1 a0) fun v5_1 =>
  M.bind (nilck v5_1) fun v6_2 =>
  M.bind (fld 0 v6_2) fun v7_3 =>
  M.bind (ld false 1 v7_3) fun v8_4 =>
  M.bind (ld false 1 a1) fun v9_5 =>
  M.bind (idxS 1 v8_4 v9_5) fun v10_6 =>
  M.bind (ld false 1 v10_6) fun v11_7 =>
  M.bind (ld false 1 a2) fun v12_8 =>
  M.bind (ld true 64 a3) fun v13_9 =>
  M.bind (cl 147 [v11_7, v12_8, v13_9]) fun v14_10 =>
  M.pure v14_10
noncomputable def b146 : Code := match Tryz.f146.body with
  | some c => c
  | none => .skip
theorem e146 (cl : CallF) (a0 : Value) (a1 : Value) (a2 : Value) (a3 : Value) : bodyK Tryz.prog cl ann 146 Tryz.f146 b146 [a0, a1, a2, a3] = s146 cl a0 a1 a2 a3 := by kernel_rfl
theorem d146 {X : Exts} (hX : X 146 = none) (n : Nat) (a0 : Value) (a1 : Value) (a2 : Value) (a3 : Value) (H : Heap) : func Tryz.prog X ann (n + 1) 146 [a0, a1, a2, a3] H = s146 (callF Tryz.prog X ann n) a0 a1 a2 a3 n H :=
  (func_succ hX (by kernel_rfl) (by kernel_rfl : Tryz.f146.body = some b146) n (by rfl) H).trans (congrFun (congrFun (e146 _ a0 a1 a2 a3) n) H)

/- function 98 -/
noncomputable def s98 (cl : CallF) (a0 : Value) (a1 : Value) : M Value :=
  M.bind (cl 144 [a0, a1, Value.int .i64 0]) fun v10_1 =>
  M.bind (ext 0 v10_1) fun v11_2 =>
  M.bind (ext 1 v10_1) fun v12_3 =>
  M.bind (alloc 57 (List.replicate 64 (Value.int .u8 0))) fun v5_4 =>
  M.bind (st 64 v5_4 v11_2) fun _ =>
  M.bind (binI .neq v12_3 (Value.int .i64 0)) fun v14_6 =>
  condV v14_6 (
    M.pure v12_3
  ) (
    M.bind (nilck a0) fun v18_7 =>
    M.bind (fld 0 v18_7) fun v19_8 =>
    M.bind (ld false 1 v19_8) fun v20_9 =>
    M.bind (idxS 1 v20_9 a1) fun v22_10 =>
    M.bind (ld false 1 v22_10) fun v23_11 =>
    M.bind (M.pure (Value.func (.func 149) ⟨[v23_11]⟩ ⟨[]⟩)) fun v24_12 =>
    M.bind (cl 145 [a0, v24_12]) fun v25_13 =>
    M.pure v25_13
  )
noncomputable def b98 : Code := match Tryz.f98.body with
  | some c => c
  | none => .skip
theorem e98 (cl : CallF) (a0 : Value) (a1 : Value) : bodyK Tryz.prog cl ann 98 Tryz.f98 b98 [a0, a1] = s98 cl a0 a1 := by kernel_rfl
theorem d98 {X : Exts} (hX : X 98 = none) (n : Nat) (a0 : Value) (a1 : Value) (H : Heap) : func Tryz.prog X ann (n + 1) 98 [a0, a1] H = s98 (callF Tryz.prog X ann n) a0 a1 n H :=
  (func_succ hX (by kernel_rfl) (by kernel_rfl : Tryz.f98.body = some b98) n (by rfl) H).trans (congrFun (congrFun (e98 _ a0 a1) n) H)

/- function 14 -/
noncomputable def s14 (cl : CallF) (a0 : Value) (a1 : Value) : M Value :=
  M.bind (cl 49 [a0, a1]) fun v8_1 =>
  M.bind (binI .neq v8_1 (Value.int .i64 0)) fun v10_2 =>
  condV v10_2 (
    M.pure v8_1
  ) (
    M.bind (nilck a0) fun v13_3 =>
    M.bind (fld 0 v13_3) fun v14_4 =>
    M.bind (ld false 1 v14_4) fun v15_5 =>
    M.bind (idxS 1 v15_5 a1) fun v17_6 =>
    M.bind (ld false 1 v17_6) fun v18_7 =>
    M.bind (cl 50 [v18_7]) fun v19_8 =>
    M.pure v19_8
  )
noncomputable def b14 : Code := match Tryz.f14.body with
  | some c => c
  | none => .skip
theorem e14 (cl : CallF) (a0 : Value) (a1 : Value) : bodyK Tryz.prog cl ann 14 Tryz.f14 b14 [a0, a1] = s14 cl a0 a1 := by kernel_rfl
theorem d14 {X : Exts} (hX : X 14 = none) (n : Nat) (a0 : Value) (a1 : Value) (H : Heap) : func Tryz.prog X ann (n + 1) 14 [a0, a1] H = s14 (callF Tryz.prog X ann n) a0 a1 n H :=
  (func_succ hX (by kernel_rfl) (by kernel_rfl : Tryz.f14.body = some b14) n (by rfl) H).trans (congrFun (congrFun (e14 _ a0 a1) n) H)

/- function 16 -/
noncomputable def s16 (cl : CallF) (a0 : Value) (a1 : Value) (a2 : Value) : M Value :=
  M.bind (alloc 57 (List.replicate 64 (Value.int .u8 0))) fun v6_1 =>
  M.bind (cl 49 [a0, a1]) fun v11_2 =>
  M.bind (binI .neq v11_2 (Value.int .i64 0)) fun v13_3 =>
  condV v13_3 (
    M.bind (bld (List.replicate 64 (Value.int .u8 0)) []) fun v14_4 =>
    M.bind (st 64 v6_1 v14_4) fun _ =>
    M.bind (ld true 64 v6_1) fun r_6 =>
    M.pure (Value.tuple ⟨[r_6, v11_2]⟩)
  ) (
    M.bind (nilck a0) fun v17_7 =>
    M.bind (fld 0 v17_7) fun v18_8 =>
    M.bind (ld false 1 v18_8) fun v19_9 =>
    M.bind (idxS 1 v19_9 a1) fun v21_10 =>
    M.bind (ld false 1 v21_10) fun v22_11 =>
    M.bind (cl 52 [v22_11, a2]) fun v24_12 =>
    M.bind (ext 0 v24_12) fun v25_13 =>
    M.bind (ext 1 v24_12) fun v26_14 =>
    M.bind (st 64 v6_1 v25_13) fun _ =>
    M.bind (ld true 64 v6_1) fun r_16 =>
    M.pure (Value.tuple ⟨[r_16, v26_14]⟩)
  )
noncomputable def b16 : Code := match Tryz.f16.body with
  | some c => c
  | none => .skip
theorem e16 (cl : CallF) (a0 : Value) (a1 : Value) (a2 : Value) : bodyK Tryz.prog cl ann 16 Tryz.f16 b16 [a0, a1, a2] = s16 cl a0 a1 a2 := by kernel_rfl
theorem d16 {X : Exts} (hX : X 16 = none) (n : Nat) (a0 : Value) (a1 : Value) (a2 : Value) (H : Heap) : func Tryz.prog X ann (n + 1) 16 [a0, a1, a2] H = s16 (callF Tryz.prog X ann n) a0 a1 a2 n H :=
  (func_succ hX (by kernel_rfl) (by kernel_rfl : Tryz.f16.body = some b16) n (by rfl) H).trans (congrFun (congrFun (e16 _ a0 a1 a2) n) H)

end Go.Am
