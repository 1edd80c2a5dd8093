/- Functions of the program, told shallowly: by program (tab.py). -/
import Derived.Test.YtcagogdllnlihaaGreatAmP
set_option linter.all false
namespace Go.Am
open Go.Proofs
set_option linter.unusedVariables false
/- function 95 -/
noncomputable def s95 (cl : CallF) (a0 : Value) : M Value :=
  M.bind (nilck a0) fun v4_1 =>
  M.bind (fld 3 v4_1) fun v5_2 =>
  M.bind (ld true 21 v5_2) fun v6_3 =>
  M.bind (cl 148 [v6_3]) fun v7_4 =>
  M.bind (binI .eql v7_4 (Value.int .i64 5)) fun v8_5 =>
  condV v8_5 (
    M.pure (Value.int .i64 16)
  ) (
    M.pure (Value.int .i64 0)
  )
noncomputable def b95 : Code := match Tryz.f95.body with
  | some c => c
  | none => .skip
theorem e95 (cl : CallF) (a0 : Value) : bodyK Tryz.prog cl ann 95 Tryz.f95 b95 [a0] = s95 cl a0 := by kernel_rfl
theorem d95 {X : Exts} (hX : X 95 = none) (n : Nat) (a0 : Value) (H : Heap) : func Tryz.prog X ann (n + 1) 95 [a0] H = s95 (callF Tryz.prog X ann n) a0 n H :=
  (func_succ hX (by kernel_rfl) (by kernel_rfl : Tryz.f95.body = some b95) n (by rfl) H).trans (congrFun (congrFun (e95 _ a0) n) H)

/- function 96 -/
noncomputable def s96 (cl : CallF) (a0 : Value) (a1 : Value) : M Value :=
  M.bind (nilck a0) fun v8_1 =>
  M.bind (fld 3 v8_1) fun v9_2 =>
  M.bind (fld 0 v9_2) fun v10_3 =>
  M.bind (fld 0 v10_3) fun v11_4 =>
  M.bind (ld false 1 v11_4) fun v12_5 =>
  loopV (fun again_6 vs_6 =>
    let x0_6 := mk [0, 1, 12, 13] vs_6 0
    let x1_6 := mk [0, 1, 12, 13] vs_6 1
    let x12_6 := mk [0, 1, 12, 13] vs_6 12
    let x13_6 := mk [0, 1, 12, 13] vs_6 13
    M.bind (binI .lss x13_6 x12_6) fun v14_7 =>
    condV v14_7 (
      M.bind (nilck x0_6) fun v18_8 =>
      M.bind (fld 3 v18_8) fun v19_9 =>
      M.bind (fld 3 v19_9) fun v20_10 =>
      M.bind (idxP 16 1 v20_10 x13_6) fun v21_11 =>
      M.bind (ld false 1 v21_11) fun v22_12 =>
      M.bind (binI .eql v22_12 (Value.int .u8 1)) fun v23_13 =>
      condV v23_13 (
        M.bind (binI .add x13_6 (Value.int .i64 1)) fun v30_14 =>
        again_6 [x0_6, x1_6, x12_6, v30_14]
      ) (
        M.bind (callV cl x1_6 [x13_6]) fun v26_15 =>
        M.bind (binI .neq v26_15 (Value.int .i64 0)) fun v28_16 =>
        condV v28_16 (
          M.pure v26_15
        ) (
          M.bind (binI .add x13_6 (Value.int .i64 1)) fun v30_17 =>
          again_6 [x0_6, x1_6, x12_6, v30_17]
        )
      )
    ) (
      M.pure (Value.int .i64 0)
    )
  ) [a0, a1, v12_5, Value.int .i64 0]
noncomputable def b96 : Code := match Tryz.f96.body with
  | some c => c
  | none => .skip
theorem e96 (cl : CallF) (a0 : Value) (a1 : Value) : bodyK Tryz.prog cl ann 96 Tryz.f96 b96 [a0, a1] = s96 cl a0 a1 := by kernel_rfl
theorem d96 {X : Exts} (hX : X 96 = none) (n : Nat) (a0 : Value) (a1 : Value) (H : Heap) : func Tryz.prog X ann (n + 1) 96 [a0, a1] H = s96 (callF Tryz.prog X ann n) a0 a1 n H :=
  (func_succ hX (by kernel_rfl) (by kernel_rfl : Tryz.f96.body = some b96) n (by rfl) H).trans (congrFun (congrFun (e96 _ a0 a1) n) H)

/- function 97 -/
noncomputable def s97 (cl : CallF) (a0 : Value) (a1 : Value) : M Value :=
  M.bind (ld false 1 a1) fun v5_1 =>
  M.bind (nilck v5_1) fun v6_2 =>
  M.bind (fld 0 v6_2) fun v7_3 =>
  M.bind (ld false 1 v7_3) fun v8_4 =>
  M.bind (cl 98 [v8_4, a0]) fun v10_5 =>
  M.bind (binI .eql v10_5 (Value.int .i64 9)) fun v12_6 =>
  condV v12_6 (
    M.bind (ld false 1 a1) fun v13_7 =>
    M.bind (cl 99 [v13_7, a0]) fun v15_8 =>
    M.pure v15_8
  ) (
    M.pure v10_5
  )
noncomputable def b97 : Code := match Tryz.f97.body with
  | some c => c
  | none => .skip
theorem e97 (cl : CallF) (a0 : Value) (a1 : Value) : bodyK Tryz.prog cl ann 97 Tryz.f97 b97 [a0, a1] = s97 cl a0 a1 := by kernel_rfl
theorem d97 {X : Exts} (hX : X 97 = none) (n : Nat) (a0 : Value) (a1 : Value) (H : Heap) : func Tryz.prog X ann (n + 1) 97 [a0, a1] H = s97 (callF Tryz.prog X ann n) a0 a1 n H :=
  (func_succ hX (by kernel_rfl) (by kernel_rfl : Tryz.f97.body = some b97) n (by rfl) H).trans (congrFun (congrFun (e97 _ a0 a1) n) H)

/- function 99 -/
noncomputable def s99 (cl : CallF) (a0 : Value) (a1 : Value) : M Value :=
  M.bind (nilck a0) fun v8_1 =>
  M.bind (fld 3 v8_1) fun v9_2 =>
  M.bind (ld true 21 v9_2) fun v10_3 =>
  M.bind (cl 150 [v10_3, a1]) fun v12_4 =>
  M.bind (ext 0 v12_4) fun v13_5 =>
  M.bind (ext 1 v12_4) fun v14_6 =>
  M.bind (nilck a0) fun v15_7 =>
  M.bind (fld 3 v15_7) fun v16_8 =>
  M.bind (st 21 v16_8 v13_5) fun _ =>
  M.bind (cl 151 [a0]) fun v18_10 =>
  M.pure v18_10
noncomputable def b99 : Code := match Tryz.f99.body with
  | some c => c
  | none => .skip
theorem e99 (cl : CallF) (a0 : Value) (a1 : Value) : bodyK Tryz.prog cl ann 99 Tryz.f99 b99 [a0, a1] = s99 cl a0 a1 := by kernel_rfl
theorem d99 {X : Exts} (hX : X 99 = none) (n : Nat) (a0 : Value) (a1 : Value) (H : Heap) : func Tryz.prog X ann (n + 1) 99 [a0, a1] H = s99 (callF Tryz.prog X ann n) a0 a1 n H :=
  (func_succ hX (by kernel_rfl) (by kernel_rfl : Tryz.f99.body = some b99) n (by rfl) H).trans (congrFun (congrFun (e99 _ a0 a1) n) H)

/- function 100 -/
noncomputable def s100 (cl : CallF) (a0 : Value) (a1 : Value) : M Value :=
  M.bind (box 32 a0) fun v2_1 =>
  M.bind (ld true 3 v2_1) fun v6_2 =>
  M.bind (cl 54 [v6_2]) fun v7_3 =>
  M.bind (un .not v7_3) fun v8_4 =>
  condV v8_4 (
    M.pure (Value.int .i64 2)
  ) (
    M.bind (fld 1 v2_1) fun v11_5 =>
    M.bind (ld false 1 v11_5) fun v12_6 =>
    M.bind (binI .sub v12_6 (Value.int .i64 1)) fun v13_7 =>
    M.bind (cl 112 [a1, Value.int .i64 0, v13_7]) fun v14_8 =>
    M.bind (un .not v14_8) fun v15_9 =>
    condV v15_9 (
      M.pure (Value.int .i64 12)
    ) (
      M.pure (Value.int .i64 0)
    )
  )
noncomputable def b100 : Code := match Tryz.f100.body with
  | some c => c
  | none => .skip
theorem e100 (cl : CallF) (a0 : Value) (a1 : Value) : bodyK Tryz.prog cl ann 100 Tryz.f100 b100 [a0, a1] = s100 cl a0 a1 := by kernel_rfl
theorem d100 {X : Exts} (hX : X 100 = none) (n : Nat) (a0 : Value) (a1 : Value) (H : Heap) : func Tryz.prog X ann (n + 1) 100 [a0, a1] H = s100 (callF Tryz.prog X ann n) a0 a1 n H :=
  (func_succ hX (by kernel_rfl) (by kernel_rfl : Tryz.f100.body = some b100) n (by rfl) H).trans (congrFun (congrFun (e100 _ a0 a1) n) H)

/- function 101 -/
noncomputable def s101 (cl : CallF) (a0 : Value) (a1 : Value) : M Value :=
  M.bind (box 32 a0) fun v2_1 =>
  M.bind (fld 0 v2_1) fun v5_2 =>
  M.bind (ld false 1 v5_2) fun v6_3 =>
  M.bind (binI .sub v6_3 (Value.int .i64 1)) fun v7_4 =>
  M.bind (fld 0 v2_1) fun v9_5 =>
  M.bind (ld false 1 v9_5) fun v10_6 =>
  M.bind (binI .rem a1 v10_6) fun v11_7 =>
  M.bind (binI .sub v7_4 v11_7) fun v12_8 =>
  M.pure v12_8
noncomputable def b101 : Code := match Tryz.f101.body with
  | some c => c
  | none => .skip
theorem e101 (cl : CallF) (a0 : Value) (a1 : Value) : bodyK Tryz.prog cl ann 101 Tryz.f101 b101 [a0, a1] = s101 cl a0 a1 := by kernel_rfl
theorem d101 {X : Exts} (hX : X 101 = none) (n : Nat) (a0 : Value) (a1 : Value) (H : Heap) : func Tryz.prog X ann (n + 1) 101 [a0, a1] H = s101 (callF Tryz.prog X ann n) a0 a1 n H :=
  (func_succ hX (by kernel_rfl) (by kernel_rfl : Tryz.f101.body = some b101) n (by rfl) H).trans (congrFun (congrFun (e101 _ a0 a1) n) H)

/- function 102 -/
noncomputable def s102 (cl : CallF) (a0 : Value) (a1 : Value) : M Value :=
  M.bind (cl 117 [a0]) fun v12_1 =>
  condV v12_1 (
    M.pure (Value.tuple ⟨[Value.int .i64 0, Value.bool false, Value.int .i64 1]⟩)
  ) (
    M.bind (nilck a0) fun v15_2 =>
    M.bind (fld 1 v15_2) fun v16_3 =>
    M.bind (ld false 1 v16_3) fun v17_4 =>
    M.bind (lkp (Value.pointer none) true v17_4 a1) fun v19_5 =>
    M.bind (ext 0 v19_5) fun v20_6 =>
    M.bind (ext 1 v19_5) fun v21_7 =>
    condV v21_7 (
      M.bind (cl 152 [v20_6]) fun v24_8 =>
      M.bind (cl 153 [a0, v20_6]) fun v27_9 =>
      M.pure (Value.tuple ⟨[Value.int .i64 0, Value.bool false, Value.int .i64 0]⟩)
    ) (
      M.bind (nilck a0) fun v29_10 =>
      M.bind (fld 1 v29_10) fun v30_11 =>
      M.bind (ld false 1 v30_11) fun v31_12 =>
      M.bind (lenM v31_12) fun v32_13 =>
      M.bind (nilck a0) fun v34_14 =>
      M.bind (fld 0 v34_14) fun v35_15 =>
      M.bind (ld false 1 v35_15) fun v36_16 =>
      M.bind (binI .eql v32_13 v36_16) fun v37_17 =>
      let j_18 := fun (y0_18 : Value) (y1_18 : Value) (y4_18 : Value) (y5_18 : Value) =>
        M.bind (bld [.int .i64 0, .bool false, .pointer none, .pointer none] [(0, 1, y1_18)]) fun v75_19 =>
        M.bind (box 161 v75_19) fun v76_20 =>
        M.bind (nilck y0_18) fun v78_21 =>
        M.bind (fld 1 v78_21) fun v79_22 =>
        M.bind (ld false 1 v79_22) fun v80_23 =>
        M.bind (mupd v80_23 y1_18 v76_20) fun _ =>
        M.bind (cl 153 [y0_18, v76_20]) fun v85_25 =>
        M.pure (Value.tuple ⟨[y4_18, y5_18, Value.int .i64 0]⟩)
      condV v37_17 (
        M.bind (nilck a0) fun v39_26 =>
        M.bind (fld 2 v39_26) fun v40_27 =>
        M.bind (ld false 1 v40_27) fun v41_28 =>
        M.bind (nilck v41_28) fun v42_29 =>
        M.bind (fld 2 v42_29) fun v43_30 =>
        M.bind (ld false 1 v43_30) fun v44_31 =>
        loopV (fun again_32 vs_32 =>
          let x0_32 := mk [0, 1, 9] vs_32 0
          let x1_32 := mk [0, 1, 9] vs_32 1
          let x9_32 := mk [0, 1, 9] vs_32 9
          M.bind (nilck x0_32) fun v47_33 =>
          M.bind (fld 2 v47_33) fun v48_34 =>
          M.bind (ld false 1 v48_34) fun v49_35 =>
          M.bind (binP .neq x9_32 v49_35) fun v50_36 =>
          M.bind (guardM v50_36 true (M.pure x9_32)) fun v52_37 =>
          M.bind (guardM v50_36 true (nilck v52_37)) fun v53_38 =>
          M.bind (guardM v50_36 true (fld 1 v53_38)) fun v54_39 =>
          M.bind (guardM v50_36 true (ld false 1 v54_39)) fun v55_40 =>
          M.bind (pck v50_36 v55_40 (Value.bool false)) fun v56_41 =>
          condV v56_41 (
            M.bind (nilck x9_32) fun v58_42 =>
            M.bind (fld 2 v58_42) fun v59_43 =>
            M.bind (ld false 1 v59_43) fun v60_44 =>
            again_32 [x0_32, x1_32, v60_44]
          ) (
            M.bind (nilck x0_32) fun v63_45 =>
            M.bind (fld 2 v63_45) fun v64_46 =>
            M.bind (ld false 1 v64_46) fun v65_47 =>
            M.bind (binP .eql x9_32 v65_47) fun v66_48 =>
            condV v66_48 (
              M.pure (Value.tuple ⟨[Value.int .i64 0, Value.bool false, Value.int .i64 10]⟩)
            ) (
              M.bind (nilck x9_32) fun v68_49 =>
              M.bind (fld 0 v68_49) fun v69_50 =>
              M.bind (ld false 1 v69_50) fun v70_51 =>
              M.bind (cl 118 [x0_32, x9_32]) fun v73_52 =>
              j_18 x0_32 x1_32 v70_51 (Value.bool true)
            )
          )
        ) [a0, a1, v44_31]
      ) (
        j_18 a0 a1 (Value.int .i64 0) (Value.bool false)
      )
    )
  )
noncomputable def b102 : Code := match Tryz.f102.body with
  | some c => c
  | none => .skip
theorem e102 (cl : CallF) (a0 : Value) (a1 : Value) : bodyK Tryz.prog cl ann 102 Tryz.f102 b102 [a0, a1] = s102 cl a0 a1 := by kernel_rfl
theorem d102 {X : Exts} (hX : X 102 = none) (n : Nat) (a0 : Value) (a1 : Value) (H : Heap) : func Tryz.prog X ann (n + 1) 102 [a0, a1] H = s102 (callF Tryz.prog X ann n) a0 a1 n H :=
  (func_succ hX (by kernel_rfl) (by kernel_rfl : Tryz.f102.body = some b102) n (by rfl) H).trans (congrFun (congrFun (e102 _ a0 a1) n) H)

/- function 105 -/
noncomputable def s105 (cl : CallF) (a0 : Value) (a1 : Value) : M Value :=
  M.bind (cl 117 [a0]) fun v9_1 =>
  condV v9_1 (
    M.pure (Value.tuple ⟨[Value.pointer none, Value.int .i64 1]⟩)
  ) (
    M.bind (nilck a0) fun v12_2 =>
    M.bind (fld 1 v12_2) fun v13_3 =>
    M.bind (ld false 1 v13_3) fun v14_4 =>
    M.bind (lkp (Value.pointer none) true v14_4 a1) fun v16_5 =>
    M.bind (ext 0 v16_5) fun v17_6 =>
    M.bind (ext 1 v16_5) fun v18_7 =>
    M.bind (un .not v18_7) fun v20_8 =>
    condV v20_8 (
      M.pure (Value.tuple ⟨[Value.pointer none, Value.int .i64 7]⟩)
    ) (
      M.pure (Value.tuple ⟨[v17_6, Value.int .i64 0]⟩)
    )
  )
noncomputable def b105 : Code := match Tryz.f105.body with
  | some c => c
  | none => .skip
theorem e105 (cl : CallF) (a0 : Value) (a1 : Value) : bodyK Tryz.prog cl ann 105 Tryz.f105 b105 [a0, a1] = s105 cl a0 a1 := by kernel_rfl
theorem d105 {X : Exts} (hX : X 105 = none) (n : Nat) (a0 : Value) (a1 : Value) (H : Heap) : func Tryz.prog X ann (n + 1) 105 [a0, a1] H = s105 (callF Tryz.prog X ann n) a0 a1 n H :=
  (func_succ hX (by kernel_rfl) (by kernel_rfl : Tryz.f105.body = some b105) n (by rfl) H).trans (congrFun (congrFun (e105 _ a0 a1) n) H)

/- function 106 -/
noncomputable def s106 (cl : CallF) (a0 : Value) (a1 : Value) (a2 : Value) (a3 : Value) : M Value :=
  loopV (fun again_1 vs_1 =>
    let x0_1 := mk [0, 1, 2, 3, 8, 9] vs_1 0
    let x1_1 := mk [0, 1, 2, 3, 8, 9] vs_1 1
    let x2_1 := mk [0, 1, 2, 3, 8, 9] vs_1 2
    let x3_1 := mk [0, 1, 2, 3, 8, 9] vs_1 3
    let x8_1 := mk [0, 1, 2, 3, 8, 9] vs_1 8
    let x9_1 := mk [0, 1, 2, 3, 8, 9] vs_1 9
    M.bind (binI .sub x2_1 x1_1) fun v21_3 =>
    M.bind (binI .leq v21_3 (Value.int .i64 12)) fun v23_4 =>
    condV v23_4 (
      M.bind (cl 154 [x0_1, x1_1, x2_1]) fun v27_5 =>
      M.pure (Value.tuple ⟨[]⟩)
    ) (
      M.bind (binI .eql x3_1 (Value.int .i64 0)) fun v29_6 =>
      condV v29_6 (
        M.bind (cl 155 [x0_1, x1_1, x2_1]) fun v33_7 =>
        M.pure (Value.tuple ⟨[]⟩)
      ) (
        M.bind (un .not x8_1) fun v35_8 =>
        let j_9 := fun (y0_9 : Value) (y1_9 : Value) (y2_9 : Value) (y3_9 : Value) (y8_9 : Value) (y9_9 : Value) (y10_9 : Value) =>
          M.bind (cl 157 [y0_9, y1_9, y2_9]) fun v46_10 =>
          M.bind (ext 0 v46_10) fun v47_11 =>
          M.bind (ext 1 v46_10) fun v48_12 =>
          M.bind (binI .eql v48_12 (Value.int .i64 2)) fun v50_13 =>
          let j_14 := fun (y0_14 : Value) (y1_14 : Value) (y2_14 : Value) (y3_14 : Value) (y8_14 : Value) (y9_14 : Value) (y10_14 : Value) (y11_14 : Value) (y12_14 : Value) =>
            M.bind (guardM y8_14 true (M.pure y9_14)) fun v63_15 =>
            M.bind (pck y8_14 v63_15 (Value.bool false)) fun v64_16 =>
            M.bind (guardM v64_16 true (M.pure y12_14)) fun v66_17 =>
            M.bind (guardM v64_16 true (binI .eql v66_17 (Value.int .i64 1))) fun v67_18 =>
            M.bind (pck v64_16 v67_18 (Value.bool false)) fun v68_19 =>
            let j_20 := fun (y0_20 : Value) (y1_20 : Value) (y2_20 : Value) (y3_20 : Value) (y8_20 : Value) (y9_20 : Value) (y10_20 : Value) (y11_20 : Value) =>
              M.bind (binI .gtr y1_20 (Value.int .i64 0)) fun v74_21 =>
              M.bind (guardM v74_21 true (M.pure y0_20)) fun v76_22 =>
              M.bind (guardM v74_21 true (M.pure y1_20)) fun v77_23 =>
              M.bind (guardM v74_21 true (binI .sub v77_23 (Value.int .i64 1))) fun v78_24 =>
              M.bind (guardM v74_21 true (idxS 1 v76_22 v78_24)) fun v79_25 =>
              M.bind (guardM v74_21 true (ld false 1 v79_25)) fun v80_26 =>
              M.bind (guardM v74_21 true (M.pure y0_20)) fun v81_27 =>
              M.bind (guardM v74_21 true (M.pure y11_20)) fun v82_28 =>
              M.bind (guardM v74_21 true (idxS 1 v81_27 v82_28)) fun v83_29 =>
              M.bind (guardM v74_21 true (ld false 1 v83_29)) fun v84_30 =>
              M.bind (guardM v74_21 true (cl 160 [v80_26, v84_30])) fun v85_31 =>
              M.bind (guardM v74_21 true (un .not v85_31)) fun v86_32 =>
              M.bind (pck v74_21 v86_32 (Value.bool false)) fun v87_33 =>
              condV v87_33 (
                M.bind (cl 161 [y0_20, y1_20, y2_20, y11_20]) fun v92_34 =>
                again_1 [y0_20, v92_34, y2_20, y3_20, y8_20, y9_20]
              ) (
                M.bind (cl 162 [y0_20, y1_20, y2_20, y11_20]) fun v99_35 =>
                M.bind (ext 0 v99_35) fun v100_36 =>
                M.bind (ext 1 v99_35) fun v101_37 =>
                M.bind (binI .sub v100_36 y1_20) fun v105_38 =>
                M.bind (binI .sub y2_20 v100_36) fun v108_39 =>
                M.bind (binI .quo y10_20 (Value.int .i64 8)) fun v110_40 =>
                M.bind (binI .lss v105_38 v108_39) fun v113_41 =>
                condV v113_41 (
                  M.bind (binI .geq v105_38 v110_40) fun v116_43 =>
                  M.bind (cl 106 [y0_20, y1_20, v100_36, y3_20]) fun v121_44 =>
                  M.bind (binI .add v100_36 (Value.int .i64 1)) fun v123_45 =>
                  again_1 [y0_20, v123_45, y2_20, y3_20, v116_43, v101_37]
                ) (
                  M.bind (binI .geq v108_39 v110_40) fun v126_46 =>
                  M.bind (binI .add v100_36 (Value.int .i64 1)) fun v129_47 =>
                  M.bind (cl 106 [y0_20, v129_47, y2_20, y3_20]) fun v132_48 =>
                  again_1 [y0_20, y1_20, v100_36, y3_20, v126_46, v101_37]
                )
              )
            condV v68_19 (
              M.bind (cl 159 [y0_14, y1_14, y2_14]) fun v72_49 =>
              condV v72_49 (
                M.pure (Value.tuple ⟨[]⟩)
              ) (
                j_20 y0_14 y1_14 y2_14 y3_14 y8_14 y9_14 y10_14 y11_14
              )
            ) (
              j_20 y0_14 y1_14 y2_14 y3_14 y8_14 y9_14 y10_14 y11_14
            )
          condV v50_13 (
            M.bind (cl 158 [y0_9, y1_9, y2_9]) fun v54_50 =>
            M.bind (binI .sub y2_9 (Value.int .i64 1)) fun v56_51 =>
            M.bind (binI .sub v47_11 y1_9) fun v59_52 =>
            M.bind (binI .sub v56_51 v59_52) fun v60_53 =>
            j_14 y0_9 y1_9 y2_9 y3_9 y8_9 y9_9 y10_9 v60_53 (Value.int .i64 1)
          ) (
            j_14 y0_9 y1_9 y2_9 y3_9 y8_9 y9_9 y10_9 v47_11 v48_12
          )
        condV v35_8 (
          M.bind (cl 156 [x0_1, x1_1, x2_1]) fun v39_54 =>
          M.bind (binI .sub x3_1 (Value.int .i64 1)) fun v41_55 =>
          j_9 x0_1 x1_1 x2_1 v41_55 x8_1 x9_1 v21_3
        ) (
          j_9 x0_1 x1_1 x2_1 x3_1 x8_1 x9_1 v21_3
        )
      )
    )
  ) [a0, a1, a2, a3, Value.bool true, Value.bool true]
noncomputable def b106 : Code := match Tryz.f106.body with
  | some c => c
  | none => .skip
theorem e106 (cl : CallF) (a0 : Value) (a1 : Value) (a2 : Value) (a3 : Value) : bodyK Tryz.prog cl ann 106 Tryz.f106 b106 [a0, a1, a2, a3] = s106 cl a0 a1 a2 a3 := by kernel_rfl
theorem d106 {X : Exts} (hX : X 106 = none) (n : Nat) (a0 : Value) (a1 : Value) (a2 : Value) (a3 : Value) (H : Heap) : func Tryz.prog X ann (n + 1) 106 [a0, a1, a2, a3] H = s106 (callF Tryz.prog X ann n) a0 a1 a2 a3 n H :=
  (func_succ hX (by kernel_rfl) (by kernel_rfl : Tryz.f106.body = some b106) n (by rfl) H).trans (congrFun (congrFun (e106 _ a0 a1 a2 a3) n) H)

/- function 107 -/
noncomputable def s107 (cl : CallF) (a0 : Value) : M Value :=
  condV (Value.bool false) (
    M.bind (cvt .u32 a0) fun v4_1 =>
    M.bind (cl 163 [v4_1]) fun v5_2 =>
    M.pure v5_2
  ) (
    M.bind (cl 164 [a0]) fun v7_3 =>
    M.pure v7_3
  )
noncomputable def b107 : Code := match Tryz.f107.body with
  | some c => c
  | none => .skip
theorem e107 (cl : CallF) (a0 : Value) : bodyK Tryz.prog cl ann 107 Tryz.f107 b107 [a0] = s107 cl a0 := by kernel_rfl
theorem d107 {X : Exts} (hX : X 107 = none) (n : Nat) (a0 : Value) (H : Heap) : func Tryz.prog X ann (n + 1) 107 [a0] H = s107 (callF Tryz.prog X ann n) a0 n H :=
  (func_succ hX (by kernel_rfl) (by kernel_rfl : Tryz.f107.body = some b107) n (by rfl) H).trans (congrFun (congrFun (e107 _ a0) n) H)

/- function 112 -/
noncomputable def s112 (cl : CallF) (a0 : Value) (a1 : Value) (a2 : Value) : M Value :=
  M.bind (binI .geq a0 a1) fun v9_1 =>
  M.bind (guardM v9_1 true (M.pure a0)) fun v11_2 =>
  M.bind (guardM v9_1 true (M.pure a2)) fun v12_3 =>
  M.bind (guardM v9_1 true (binI .leq v11_2 v12_3)) fun v13_4 =>
  M.bind (pck v9_1 v13_4 (Value.bool false)) fun v14_5 =>
  M.pure v14_5
noncomputable def b112 : Code := match Tryz.f112.body with
  | some c => c
  | none => .skip
theorem e112 (cl : CallF) (a0 : Value) (a1 : Value) (a2 : Value) : bodyK Tryz.prog cl ann 112 Tryz.f112 b112 [a0, a1, a2] = s112 cl a0 a1 a2 := by kernel_rfl
theorem d112 {X : Exts} (hX : X 112 = none) (n : Nat) (a0 : Value) (a1 : Value) (a2 : Value) (H : Heap) : func Tryz.prog X ann (n + 1) 112 [a0, a1, a2] H = s112 (callF Tryz.prog X ann n) a0 a1 a2 n H :=
  (func_succ hX (by kernel_rfl) (by kernel_rfl : Tryz.f112.body = some b112) n (by rfl) H).trans (congrFun (congrFun (e112 _ a0 a1 a2) n) H)

/- function 113 -/
noncomputable def s113 (cl : CallF) (a0 : Value) (a1 : Value) : M Value :=
  M.bind (box 55 a1) fun v3_1 =>
  M.bind (alloc 57 (List.replicate 64 (Value.int .u8 0))) fun v4_2 =>
  M.bind (ld true 2 v3_1) fun v11_3 =>
  M.bind (cl 92 [a0, v11_3]) fun v12_4 =>
  M.bind (ext 0 v12_4) fun v13_5 =>
  M.bind (ext 1 v12_4) fun v14_6 =>
  M.bind (binI .neq v14_6 (Value.int .i64 0)) fun v16_7 =>
  condV v16_7 (
    M.bind (bld (List.replicate 64 (Value.int .u8 0)) []) fun v17_8 =>
    M.bind (st 64 v4_2 v17_8) fun _ =>
    M.bind (ld true 64 v4_2) fun r_10 =>
    M.pure (Value.tuple ⟨[r_10, v14_6]⟩)
  ) (
    M.bind (nilck a0) fun v21_11 =>
    M.bind (fld 0 v21_11) fun v22_12 =>
    M.bind (ld false 1 v22_12) fun v23_13 =>
    M.bind (fld 1 v3_1) fun v24_14 =>
    M.bind (ld false 1 v24_14) fun v25_15 =>
    M.bind (alloc 57 (List.replicate 64 (Value.int .u8 0))) fun v8_16 =>
    M.bind (cl 144 [v23_13, v25_15, v13_5]) fun v27_17 =>
    M.bind (ext 0 v27_17) fun v28_18 =>
    M.bind (ext 1 v27_17) fun v29_19 =>
    M.bind (st 64 v8_16 v28_18) fun _ =>
    M.bind (fld 1 v3_1) fun v31_21 =>
    M.bind (ld false 1 v31_21) fun v32_22 =>
    M.bind (cl 93 [a0, v32_22, v29_19, Value.int .i64 7]) fun v34_23 =>
    M.bind (binI .neq v34_23 (Value.int .i64 0)) fun v36_24 =>
    condV v36_24 (
      M.bind (bld (List.replicate 64 (Value.int .u8 0)) []) fun v37_25 =>
      M.bind (st 64 v4_2 v37_25) fun _ =>
      M.bind (ld true 64 v4_2) fun r_27 =>
      M.pure (Value.tuple ⟨[r_27, v34_23]⟩)
    ) (
      M.bind (ld true 64 v8_16) fun v39_28 =>
      M.bind (st 64 v4_2 v39_28) fun _ =>
      M.bind (ld true 64 v4_2) fun r_30 =>
      M.pure (Value.tuple ⟨[r_30, Value.int .i64 0]⟩)
    )
  )
noncomputable def b113 : Code := match Tryz.f113.body with
  | some c => c
  | none => .skip
theorem e113 (cl : CallF) (a0 : Value) (a1 : Value) : bodyK Tryz.prog cl ann 113 Tryz.f113 b113 [a0, a1] = s113 cl a0 a1 := by kernel_rfl
theorem d113 {X : Exts} (hX : X 113 = none) (n : Nat) (a0 : Value) (a1 : Value) (H : Heap) : func Tryz.prog X ann (n + 1) 113 [a0, a1] H = s113 (callF Tryz.prog X ann n) a0 a1 n H :=
  (func_succ hX (by kernel_rfl) (by kernel_rfl : Tryz.f113.body = some b113) n (by rfl) H).trans (congrFun (congrFun (e113 _ a0 a1) n) H)

/- function 114 -/
noncomputable def s114 (cl : CallF) (a0 : Value) (a1 : Value) (a2 : Value) : M Value :=
  M.bind (cl 81 [a0]) fun v13_1 =>
  M.bind (fldV 0 3 true v13_1) fun v14_2 =>
  M.bind (fldV 0 1 false v14_2) fun v15_3 =>
  loopV (fun again_4 vs_4 =>
    let x0_4 := mk [0, 1, 2, 8, 15, 16] vs_4 0
    let x1_4 := mk [0, 1, 2, 8, 15, 16] vs_4 1
    let x2_4 := mk [0, 1, 2, 8, 15, 16] vs_4 2
    let x8_4 := mk [0, 1, 2, 8, 15, 16] vs_4 8
    let x15_4 := mk [0, 1, 2, 8, 15, 16] vs_4 15
    let x16_4 := mk [0, 1, 2, 8, 15, 16] vs_4 16
    M.bind (binI .lss x16_4 x15_4) fun v17_5 =>
    condV v17_5 (
      M.bind (binI .eql x16_4 x2_4) fun v21_6 =>
      condV v21_6 (
        M.bind (binI .add x16_4 (Value.int .i64 1)) fun v37_7 =>
        again_4 [x0_4, x1_4, x2_4, x8_4, x15_4, v37_7]
      ) (
        M.bind (bld [.int .i64 0, .int .i64 0] [(0, 1, x1_4), (1, 1, x16_4)]) fun v26_8 =>
        M.bind (cl 113 [x0_4, v26_8]) fun v27_9 =>
        M.bind (ext 0 v27_9) fun v28_10 =>
        M.bind (ext 1 v27_9) fun v29_11 =>
        M.bind (alloc 57 (List.replicate 64 (Value.int .u8 0))) fun v10_12 =>
        M.bind (st 64 v10_12 v28_10) fun _ =>
        M.bind (binI .neq v29_11 (Value.int .i64 0)) fun v31_14 =>
        condV v31_14 (
          M.pure (Value.tuple ⟨[Value.slice none 0 0, v29_11]⟩)
        ) (
          M.bind (ld true 64 v10_12) fun v34_15 =>
          M.bind (bldSlice 57 64 (List.replicate 64 (Value.int .u8 0)) 1 [(0, 64, v34_15)]) fun v35_16 =>
          M.bind (app 57 64 64 x8_4 v35_16) fun v36_17 =>
          M.bind (binI .add x16_4 (Value.int .i64 1)) fun v37_18 =>
          again_4 [x0_4, x1_4, x2_4, v36_17, x15_4, v37_18]
        )
      )
    ) (
      M.pure (Value.tuple ⟨[x8_4, Value.int .i64 0]⟩)
    )
  ) [a0, a1, a2, Value.slice none 0 0, v15_3, Value.int .i64 0]
noncomputable def b114 : Code := match Tryz.f114.body with
  | some c => c
  | none => .skip
theorem e114 (cl : CallF) (a0 : Value) (a1 : Value) (a2 : Value) : bodyK Tryz.prog cl ann 114 Tryz.f114 b114 [a0, a1, a2] = s114 cl a0 a1 a2 := by kernel_rfl
theorem d114 {X : Exts} (hX : X 114 = none) (n : Nat) (a0 : Value) (a1 : Value) (a2 : Value) (H : Heap) : func Tryz.prog X ann (n + 1) 114 [a0, a1, a2] H = s114 (callF Tryz.prog X ann n) a0 a1 a2 n H :=
  (func_succ hX (by kernel_rfl) (by kernel_rfl : Tryz.f114.body = some b114) n (by rfl) H).trans (congrFun (congrFun (e114 _ a0 a1 a2) n) H)

/- function 115 -/
noncomputable def s115 (cl : CallF) (a0 : Value) (a1 : Value) : M Value :=
  M.bind (binI .eql a0 (Value.int .i64 7)) fun v6_1 =>
  condV v6_1 (
    M.pure a1
  ) (
    M.pure a0
  )
noncomputable def b115 : Code := match Tryz.f115.body with
  | some c => c
  | none => .skip
theorem e115 (cl : CallF) (a0 : Value) (a1 : Value) : bodyK Tryz.prog cl ann 115 Tryz.f115 b115 [a0, a1] = s115 cl a0 a1 := by kernel_rfl
theorem d115 {X : Exts} (hX : X 115 = none) (n : Nat) (a0 : Value) (a1 : Value) (H : Heap) : func Tryz.prog X ann (n + 1) 115 [a0, a1] H = s115 (callF Tryz.prog X ann n) a0 a1 n H :=
  (func_succ hX (by kernel_rfl) (by kernel_rfl : Tryz.f115.body = some b115) n (by rfl) H).trans (congrFun (congrFun (e115 _ a0 a1) n) H)

/- function 116 -/
noncomputable def s116 (cl : CallF) (a0 : Value) : M Value :=
  M.bind (alloc 57 (List.replicate 64 (Value.int .u8 0))) fun v2_1 =>
  M.bind (lenL a0) fun v6_2 =>
  loopV (fun again_3 vs_3 =>
    let x2_3 := mk [2, 5, 6, 7] vs_3 2
    let x5_3 := mk [2, 5, 6, 7] vs_3 5
    let x6_3 := mk [2, 5, 6, 7] vs_3 6
    let x7_3 := mk [2, 5, 6, 7] vs_3 7
    M.bind (binI .lss x7_3 x6_3) fun v8_4 =>
    condV v8_4 (
      M.bind (idxS 64 x5_3 x7_3) fun v9_5 =>
      M.bind (ld true 64 v9_5) fun v10_6 =>
      M.bind (alloc 57 (List.replicate 64 (Value.int .u8 0))) fun v4_7 =>
      M.bind (st 64 v4_7 v10_6) fun _ =>
      M.bind (ld true 64 x2_3) fun v11_9 =>
      M.bind (ld true 64 v4_7) fun v12_10 =>
      M.bind (cl 165 [v11_9, v12_10]) fun v13_11 =>
      M.bind (st 64 x2_3 v13_11) fun _ =>
      M.bind (binI .add x7_3 (Value.int .i64 1)) fun v14_13 =>
      again_3 [x2_3, x5_3, x6_3, v14_13]
    ) (
      M.bind (ld true 64 x2_3) fun v15_14 =>
      M.bind (st 64 x2_3 v15_14) fun _ =>
      M.bind (ld true 64 x2_3) fun r_16 =>
      M.pure r_16
    )
  ) [v2_1, a0, v6_2, Value.int .i64 0]
noncomputable def b116 : Code := match Tryz.f116.body with
  | some c => c
  | none => .skip
theorem e116 (cl : CallF) (a0 : Value) : bodyK Tryz.prog cl ann 116 Tryz.f116 b116 [a0] = s116 cl a0 := by kernel_rfl
theorem d116 {X : Exts} (hX : X 116 = none) (n : Nat) (a0 : Value) (H : Heap) : func Tryz.prog X ann (n + 1) 116 [a0] H = s116 (callF Tryz.prog X ann n) a0 n H :=
  (func_succ hX (by kernel_rfl) (by kernel_rfl : Tryz.f116.body = some b116) n (by rfl) H).trans (congrFun (congrFun (e116 _ a0) n) H)

/- function 117 -/
noncomputable def s117 (cl : CallF) (a0 : Value) : M Value :=
  M.bind (binP .eql a0 (Value.pointer none)) fun v4_1 =>
  M.bind (guardM v4_1 false (M.pure a0)) fun v6_2 =>
  M.bind (guardM v4_1 false (nilck v6_2)) fun v7_3 =>
  M.bind (guardM v4_1 false (fld 1 v7_3)) fun v8_4 =>
  M.bind (guardM v4_1 false (ld false 1 v8_4)) fun v9_5 =>
  M.bind (guardM v4_1 false (binN .map .eql v9_5 (Value.map none))) fun v10_6 =>
  M.bind (pck v4_1 (Value.bool true) v10_6) fun v11_7 =>
  M.pure v11_7
noncomputable def b117 : Code := match Tryz.f117.body with
  | some c => c
  | none => .skip
theorem e117 (cl : CallF) (a0 : Value) : bodyK Tryz.prog cl ann 117 Tryz.f117 b117 [a0] = s117 cl a0 := by kernel_rfl
theorem d117 {X : Exts} (hX : X 117 = none) (n : Nat) (a0 : Value) (H : Heap) : func Tryz.prog X ann (n + 1) 117 [a0] H = s117 (callF Tryz.prog X ann n) a0 n H :=
  (func_succ hX (by kernel_rfl) (by kernel_rfl : Tryz.f117.body = some b117) n (by rfl) H).trans (congrFun (congrFun (e117 _ a0) n) H)

/- function 118 -/
noncomputable def s118 (cl : CallF) (a0 : Value) (a1 : Value) : M Value :=
  M.bind (cl 152 [a1]) fun v5_1 =>
  M.bind (nilck a0) fun v7_2 =>
  M.bind (fld 1 v7_2) fun v8_3 =>
  M.bind (ld false 1 v8_3) fun v9_4 =>
  M.bind (nilck a1) fun v11_5 =>
  M.bind (fld 0 v11_5) fun v12_6 =>
  M.bind (ld false 1 v12_6) fun v13_7 =>
  M.bind (mdel v9_4 v13_7) fun _ =>
  M.pure (Value.tuple ⟨[]⟩)
noncomputable def b118 : Code := match Tryz.f118.body with
  | some c => c
  | none => .skip
theorem e118 (cl : CallF) (a0 : Value) (a1 : Value) : bodyK Tryz.prog cl ann 118 Tryz.f118 b118 [a0, a1] = s118 cl a0 a1 := by kernel_rfl
theorem d118 {X : Exts} (hX : X 118 = none) (n : Nat) (a0 : Value) (a1 : Value) (H : Heap) : func Tryz.prog X ann (n + 1) 118 [a0, a1] H = s118 (callF Tryz.prog X ann n) a0 a1 n H :=
  (func_succ hX (by kernel_rfl) (by kernel_rfl : Tryz.f118.body = some b118) n (by rfl) H).trans (congrFun (congrFun (e118 _ a0 a1) n) H)

/- function 135 -/
noncomputable def s135 (cl : CallF) (a0 : Value) (a1 : Value) : M Value :=
  M.bind (binI .geq a1 (Value.int .i64 0)) fun v6_1 =>
  M.bind (guardM v6_1 true (M.pure a1)) fun v8_2 =>
  M.bind (guardM v6_1 true (M.pure a0)) fun v9_3 =>
  M.bind (guardM v6_1 true (nilck v9_3)) fun v10_4 =>
  M.bind (guardM v6_1 true (fld 0 v10_4)) fun v11_5 =>
  M.bind (guardM v6_1 true (ld false 1 v11_5)) fun v12_6 =>
  M.bind (guardM v6_1 true (lenL v12_6)) fun v13_7 =>
  M.bind (guardM v6_1 true (binI .lss v8_2 v13_7)) fun v14_8 =>
  M.bind (pck v6_1 v14_8 (Value.bool false)) fun v15_9 =>
  M.pure v15_9
noncomputable def b135 : Code := match Tryz.f135.body with
  | some c => c
  | none => .skip
theorem e135 (cl : CallF) (a0 : Value) (a1 : Value) : bodyK Tryz.prog cl ann 135 Tryz.f135 b135 [a0, a1] = s135 cl a0 a1 := by kernel_rfl
theorem d135 {X : Exts} (hX : X 135 = none) (n : Nat) (a0 : Value) (a1 : Value) (H : Heap) : func Tryz.prog X ann (n + 1) 135 [a0, a1] H = s135 (callF Tryz.prog X ann n) a0 a1 n H :=
  (func_succ hX (by kernel_rfl) (by kernel_rfl : Tryz.f135.body = some b135) n (by rfl) H).trans (congrFun (congrFun (e135 _ a0 a1) n) H)

/- function 140 -/
noncomputable def s140 (cl : CallF) (a0 : Value) (a1 : Value) : M Value :=
  M.bind (box 40 a0) fun v2_1 =>
  M.bind (fld 3 v2_1) fun v8_2 =>
  M.bind (ld true 16 v8_2) fun v9_3 =>
  loopV (fun again_4 vs_4 =>
    let x1_4 := mk [1, 5, 9, 10] vs_4 1
    let x5_4 := mk [1, 5, 9, 10] vs_4 5
    let x9_4 := mk [1, 5, 9, 10] vs_4 9
    let x10_4 := mk [1, 5, 9, 10] vs_4 10
    M.bind (binI .lss x10_4 (Value.int .i64 16)) fun v11_5 =>
    condV v11_5 (
      let j_6 := fun (y1_6 : Value) (y5_6 : Value) (y9_6 : Value) (y10_6 : Value) =>
        M.bind (binI .add y10_6 (Value.int .i64 1)) fun v18_7 =>
        again_4 [y1_6, y5_6, y9_6, v18_7]
      M.bind (idxV 16 1 false x9_4 x10_4) fun v12_8 =>
      M.bind (binI .eql v12_8 x1_4) fun v15_9 =>
      condV v15_9 (
        M.bind (binI .add x5_4 (Value.int .i64 1)) fun v17_11 =>
        j_6 x1_4 v17_11 x9_4 x10_4
      ) (
        j_6 x1_4 x5_4 x9_4 x10_4
      )
    ) (
      M.pure x5_4
    )
  ) [a1, Value.int .i64 0, v9_3, Value.int .i64 0]
noncomputable def b140 : Code := match Tryz.f140.body with
  | some c => c
  | none => .skip
theorem e140 (cl : CallF) (a0 : Value) (a1 : Value) : bodyK Tryz.prog cl ann 140 Tryz.f140 b140 [a0, a1] = s140 cl a0 a1 := by kernel_rfl
theorem d140 {X : Exts} (hX : X 140 = none) (n : Nat) (a0 : Value) (a1 : Value) (H : Heap) : func Tryz.prog X ann (n + 1) 140 [a0, a1] H = s140 (callF Tryz.prog X ann n) a0 a1 n H :=
  (func_succ hX (by kernel_rfl) (by kernel_rfl : Tryz.f140.body = some b140) n (by rfl) H).trans (congrFun (congrFun (e140 _ a0 a1) n) H)

/- function 142 -/
noncomputable def s142 (cl : CallF) (a0 : Value) (a1 : Value) : M Value :=
  M.bind (box 55 a1) fun v3_1 =>
  M.bind (fld 0 v3_1) fun v6_2 =>
  M.bind (ld false 1 v6_2) fun v7_3 =>
  M.bind (binI .lss v7_3 (Value.int .i64 0)) fun v8_4 =>
  M.bind (guardM v8_4 false (fld 0 v3_1)) fun v10_5 =>
  M.bind (guardM v8_4 false (ld false 1 v10_5)) fun v11_6 =>
  M.bind (guardM v8_4 false (M.pure a0)) fun v12_7 =>
  M.bind (guardM v8_4 false (nilck v12_7)) fun v13_8 =>
  M.bind (guardM v8_4 false (fld 3 v13_8)) fun v14_9 =>
  M.bind (guardM v8_4 false (fld 0 v14_9)) fun v15_10 =>
  M.bind (guardM v8_4 false (fld 1 v15_10)) fun v16_11 =>
  M.bind (guardM v8_4 false (ld false 1 v16_11)) fun v17_12 =>
  M.bind (guardM v8_4 false (binI .geq v11_6 v17_12)) fun v18_13 =>
  M.bind (pck v8_4 (Value.bool true) v18_13) fun v19_14 =>
  M.bind (guardM v19_14 false (fld 1 v3_1)) fun v21_15 =>
  M.bind (guardM v19_14 false (ld false 1 v21_15)) fun v22_16 =>
  M.bind (guardM v19_14 false (binI .lss v22_16 (Value.int .i64 0))) fun v23_17 =>
  M.bind (pck v19_14 (Value.bool true) v23_17) fun v24_18 =>
  M.bind (guardM v24_18 false (fld 1 v3_1)) fun v26_19 =>
  M.bind (guardM v24_18 false (ld false 1 v26_19)) fun v27_20 =>
  M.bind (guardM v24_18 false (M.pure a0)) fun v28_21 =>
  M.bind (guardM v24_18 false (nilck v28_21)) fun v29_22 =>
  M.bind (guardM v24_18 false (fld 3 v29_22)) fun v30_23 =>
  M.bind (guardM v24_18 false (fld 0 v30_23)) fun v31_24 =>
  M.bind (guardM v24_18 false (fld 0 v31_24)) fun v32_25 =>
  M.bind (guardM v24_18 false (ld false 1 v32_25)) fun v33_26 =>
  M.bind (guardM v24_18 false (binI .geq v27_20 v33_26)) fun v34_27 =>
  M.bind (pck v24_18 (Value.bool true) v34_27) fun v35_28 =>
  condV v35_28 (
    M.pure (Value.tuple ⟨[Value.int .i64 0, Value.bool false]⟩)
  ) (
    M.bind (fld 0 v3_1) fun v37_29 =>
    M.bind (ld false 1 v37_29) fun v38_30 =>
    M.bind (cl 180 [v38_30]) fun v39_31 =>
    M.bind (ext 0 v39_31) fun v40_32 =>
    M.bind (ext 1 v39_31) fun v41_33 =>
    M.pure (Value.tuple ⟨[v40_32, Value.bool true]⟩)
  )
noncomputable def b142 : Code := match Tryz.f142.body with
  | some c => c
  | none => .skip
theorem e142 (cl : CallF) (a0 : Value) (a1 : Value) : bodyK Tryz.prog cl ann 142 Tryz.f142 b142 [a0, a1] = s142 cl a0 a1 := by kernel_rfl
theorem d142 {X : Exts} (hX : X 142 = none) (n : Nat) (a0 : Value) (a1 : Value) (H : Heap) : func Tryz.prog X ann (n + 1) 142 [a0, a1] H = s142 (callF Tryz.prog X ann n) a0 a1 n H :=
  (func_succ hX (by kernel_rfl) (by kernel_rfl : Tryz.f142.body = some b142) n (by rfl) H).trans (congrFun (congrFun (e142 _ a0 a1) n) H)

/- function 143 -/
noncomputable def s143 (cl : CallF) (a0 : Value) (a1 : Value) (a2 : Value) : M Value :=
  M.bind (box 40 a0) fun v3_1 =>
  M.bind (ld true 21 v3_1) fun v7_2 =>
  M.bind (cl 181 [v7_2, a1]) fun v9_3 =>
  M.bind (un .not v9_3) fun v10_4 =>
  M.bind (guardM v10_4 false (M.pure a2)) fun v12_5 =>
  M.bind (guardM v10_4 false (binI .lss v12_5 (Value.int .i64 0))) fun v13_6 =>
  M.bind (pck v10_4 (Value.bool true) v13_6) fun v14_7 =>
  M.bind (guardM v14_7 false (M.pure a2)) fun v16_8 =>
  M.bind (guardM v14_7 false (fld 0 v3_1)) fun v17_9 =>
  M.bind (guardM v14_7 false (fld 1 v17_9)) fun v18_10 =>
  M.bind (guardM v14_7 false (ld false 1 v18_10)) fun v19_11 =>
  M.bind (guardM v14_7 false (binI .geq v16_8 v19_11)) fun v20_12 =>
  M.bind (pck v14_7 (Value.bool true) v20_12) fun v21_13 =>
  condV v21_13 (
    M.pure (Value.bool false)
  ) (
    M.bind (fld 3 v3_1) fun v23_14 =>
    M.bind (idxP 16 1 v23_14 a1) fun v24_15 =>
    M.bind (ld false 1 v24_15) fun v25_16 =>
    M.bind (binI .eql v25_16 (Value.int .u8 0)) fun v27_17 =>
    condV v27_17 (
      M.pure (Value.bool true)
    ) (
      M.bind (binI .eql v25_16 (Value.int .u8 2)) fun v29_18 =>
      condV v29_18 (
        M.bind (fld 19 v3_1) fun v31_19 =>
        M.bind (ld false 1 v31_19) fun v32_20 =>
        M.bind (binI .lss a2 v32_20) fun v33_21 =>
        M.pure v33_21
      ) (
        M.pure (Value.bool false)
      )
    )
  )
noncomputable def b143 : Code := match Tryz.f143.body with
  | some c => c
  | none => .skip
theorem e143 (cl : CallF) (a0 : Value) (a1 : Value) (a2 : Value) : bodyK Tryz.prog cl ann 143 Tryz.f143 b143 [a0, a1, a2] = s143 cl a0 a1 a2 := by kernel_rfl
theorem d143 {X : Exts} (hX : X 143 = none) (n : Nat) (a0 : Value) (a1 : Value) (a2 : Value) (H : Heap) : func Tryz.prog X ann (n + 1) 143 [a0, a1, a2] H = s143 (callF Tryz.prog X ann n) a0 a1 a2 n H :=
  (func_succ hX (by kernel_rfl) (by kernel_rfl : Tryz.f143.body = some b143) n (by rfl) H).trans (congrFun (congrFun (e143 _ a0 a1 a2) n) H)

/- function 148 -/
noncomputable def s148 (cl : CallF) (a0 : Value) : M Value :=
  M.bind (box 40 a0) fun v1_1 =>
  M.bind (ld true 21 v1_1) fun v7_2 =>
  M.bind (cl 184 [v7_2]) fun v8_3 =>
  M.bind (ext 0 v8_3) fun v9_4 =>
  M.bind (ext 1 v8_3) fun v10_5 =>
  M.bind (ld true 21 v1_1) fun v11_6 =>
  M.bind (cl 185 [v11_6]) fun v12_7 =>
  M.bind (ld true 21 v1_1) fun v14_9 =>
  M.bind (cl 86 [v14_9]) fun v15_10 =>
  M.bind (un .not v15_10) fun v16_11 =>
  condV v16_11 (
    M.pure (Value.int .i64 0)
  ) (
    M.bind (binI .gtr v12_7 (Value.int .i64 1)) fun v19_13 =>
    let j_14 := fun (y1_14 : Value) (y4_14 : Value) (y5_14 : Value) (y17_14 : Value) =>
      condV y17_14 (
        M.pure (Value.int .i64 5)
      ) (
        M.bind (fld 20 y1_14) fun v27_15 =>
        M.bind (ld false 1 v27_15) fun v28_16 =>
        condV v28_16 (
          M.pure (Value.int .i64 4)
        ) (
          condV y4_14 (
            M.pure (Value.int .i64 3)
          ) (
            M.bind (binI .eql y5_14 (Value.int .i64 1)) fun v33_17 =>
            condV v33_17 (
              M.pure (Value.int .i64 2)
            ) (
              M.pure (Value.int .i64 1)
            )
          )
        )
      )
    condV v19_13 (
      j_14 v1_1 v10_5 v12_7 v19_13
    ) (
      M.bind (binI .eql v12_7 (Value.int .i64 1)) fun v21_18 =>
      M.bind (guardM v21_18 true (fld 20 v1_1)) fun v23_19 =>
      M.bind (guardM v21_18 true (ld false 1 v23_19)) fun v24_20 =>
      M.bind (pck v21_18 v24_20 (Value.bool false)) fun v25_21 =>
      j_14 v1_1 v10_5 v12_7 v25_21
    )
  )
noncomputable def b148 : Code := match Tryz.f148.body with
  | some c => c
  | none => .skip
theorem e148 (cl : CallF) (a0 : Value) : bodyK Tryz.prog cl ann 148 Tryz.f148 b148 [a0] = s148 cl a0 := by kernel_rfl
theorem d148 {X : Exts} (hX : X 148 = none) (n : Nat) (a0 : Value) (H : Heap) : func Tryz.prog X ann (n + 1) 148 [a0] H = s148 (callF Tryz.prog X ann n) a0 n H :=
  (func_succ hX (by kernel_rfl) (by kernel_rfl : Tryz.f148.body = some b148) n (by rfl) H).trans (congrFun (congrFun (e148 _ a0) n) H)

/- function 150 -/
noncomputable def s150 (cl : CallF) (a0 : Value) (a1 : Value) : M Value :=
  M.bind (box 40 a0) fun v2_1 =>
  M.bind (alloc 40 ([.int .i64 0, .int .i64 0, .int .i64 0] ++ List.replicate 16 (Value.int .u8 0) ++ [.int .i64 0, .bool false])) fun v4_2 =>
  M.bind (ld true 21 v2_1) fun v7_3 =>
  M.bind (cl 181 [v7_3, a1]) fun v9_4 =>
  M.bind (un .not v9_4) fun v10_5 =>
  condV v10_5 (
    M.bind (ld true 21 v2_1) fun v11_6 =>
    M.bind (st 21 v4_2 v11_6) fun _ =>
    M.bind (ld true 21 v4_2) fun r_8 =>
    M.pure (Value.tuple ⟨[r_8, Value.bool false]⟩)
  ) (
    M.bind (fld 3 v2_1) fun v13_9 =>
    M.bind (idxP 16 1 v13_9 a1) fun v14_10 =>
    M.bind (ld false 1 v14_10) fun v15_11 =>
    M.bind (binI .eql v15_11 (Value.int .u8 2)) fun v17_12 =>
    let j_13 := fun (y1_13 : Value) (y2_13 : Value) (y4_13 : Value) (y6_13 : Value) =>
      M.bind (fld 3 y2_13) fun v20_14 =>
      M.bind (idxP 16 1 v20_14 y1_13) fun v21_15 =>
      M.bind (st 1 v21_15 (Value.int .u8 1)) fun _ =>
      M.bind (ld true 21 y2_13) fun v22_17 =>
      M.bind (binI .neq y6_13 (Value.int .u8 1)) fun v24_18 =>
      M.bind (st 21 y4_13 v22_17) fun _ =>
      M.bind (ld true 21 y4_13) fun r_20 =>
      M.pure (Value.tuple ⟨[r_20, v24_18]⟩)
    condV v17_12 (
      M.bind (fld 19 v2_1) fun v18_21 =>
      M.bind (st 1 v18_21 (Value.int .i64 0)) fun _ =>
      j_13 a1 v2_1 v4_2 v15_11
    ) (
      j_13 a1 v2_1 v4_2 v15_11
    )
  )
noncomputable def b150 : Code := match Tryz.f150.body with
  | some c => c
  | none => .skip
theorem e150 (cl : CallF) (a0 : Value) (a1 : Value) : bodyK Tryz.prog cl ann 150 Tryz.f150 b150 [a0, a1] = s150 cl a0 a1 := by kernel_rfl
theorem d150 {X : Exts} (hX : X 150 = none) (n : Nat) (a0 : Value) (a1 : Value) (H : Heap) : func Tryz.prog X ann (n + 1) 150 [a0, a1] H = s150 (callF Tryz.prog X ann n) a0 a1 n H :=
  (func_succ hX (by kernel_rfl) (by kernel_rfl : Tryz.f150.body = some b150) n (by rfl) H).trans (congrFun (congrFun (e150 _ a0 a1) n) H)

/- function 151 -/
noncomputable def s151 (cl : CallF) (a0 : Value) : M Value :=
  M.bind (box 23 a0) fun v1_1 =>
  M.bind (ld false 1 v1_1) fun v5_2 =>
  M.bind (cl 91 [v5_2]) fun v6_3 =>
  condV v6_3 (
    M.pure (Value.int .i64 1)
  ) (
    M.bind (alloc 4 [.bool false]) fun v3_4 =>
    M.bind (st 1 v3_4 (Value.bool true)) fun _ =>
    loopV (fun again_6 vs_6 =>
      let x1_6 := mk [1, 3] vs_6 1
      let x3_6 := mk [1, 3] vs_6 3
      M.bind (ld false 1 x3_6) fun v7_7 =>
      condV v7_7 (
        M.bind (st 1 x3_6 (Value.bool false)) fun _ =>
        M.bind (ld false 1 x1_6) fun v8_9 =>
        M.bind (nilck v8_9) fun v9_10 =>
        M.bind (fld 2 v9_10) fun v10_11 =>
        M.bind (ld false 1 v10_11) fun v11_12 =>
        M.bind (binI .add v11_12 (Value.int .u64 1)) fun v12_13 =>
        M.bind (nilck v8_9) fun v13_14 =>
        M.bind (fld 2 v13_14) fun v14_15 =>
        M.bind (st 1 v14_15 v12_13) fun _ =>
        M.bind (ld false 1 x1_6) fun v15_17 =>
        M.bind (M.pure (Value.func (.func 186) ⟨[]⟩ ⟨[x1_6, x3_6]⟩)) fun v16_18 =>
        M.bind (cl 96 [v15_17, v16_18]) fun v17_19 =>
        M.bind (binI .neq v17_19 (Value.int .i64 0)) fun v19_20 =>
        M.bind (guardM v19_20 true (ld false 1 x3_6)) fun v21_21 =>
        M.bind (guardM v19_20 true (un .not v21_21)) fun v22_22 =>
        M.bind (pck v19_20 v22_22 (Value.bool false)) fun v23_23 =>
        condV v23_23 (
          M.pure v17_19
        ) (
          M.bind (ld false 1 x3_6) fun v25_24 =>
          M.bind (alloc 4 [.bool false]) fun v3_25 =>
          M.bind (st 1 v3_25 v25_24) fun _ =>
          again_6 [x1_6, v3_25]
        )
      ) (
        M.pure (Value.int .i64 0)
      )
    ) [v1_1, v3_4]
  )
noncomputable def b151 : Code := match Tryz.f151.body with
  | some c => c
  | none => .skip
theorem e151 (cl : CallF) (a0 : Value) : bodyK Tryz.prog cl ann 151 Tryz.f151 b151 [a0] = s151 cl a0 := by kernel_rfl
theorem d151 {X : Exts} (hX : X 151 = none) (n : Nat) (a0 : Value) (H : Heap) : func Tryz.prog X ann (n + 1) 151 [a0] H = s151 (callF Tryz.prog X ann n) a0 n H :=
  (func_succ hX (by kernel_rfl) (by kernel_rfl : Tryz.f151.body = some b151) n (by rfl) H).trans (congrFun (congrFun (e151 _ a0) n) H)

/- function 152 -/
noncomputable def s152 (cl : CallF) (a0 : Value) : M Value :=
  M.bind (nilck a0) fun v3_1 =>
  M.bind (fld 2 v3_1) fun v4_2 =>
  M.bind (ld false 1 v4_2) fun v5_3 =>
  M.bind (nilck a0) fun v7_4 =>
  M.bind (fld 3 v7_4) fun v8_5 =>
  M.bind (ld false 1 v8_5) fun v9_6 =>
  M.bind (nilck a0) fun v11_7 =>
  M.bind (fld 3 v11_7) fun v12_8 =>
  M.bind (ld false 1 v12_8) fun v13_9 =>
  M.bind (nilck a0) fun v15_10 =>
  M.bind (fld 2 v15_10) fun v16_11 =>
  M.bind (ld false 1 v16_11) fun v17_12 =>
  M.bind (nilck v5_3) fun v18_13 =>
  M.bind (fld 3 v18_13) fun v19_14 =>
  M.bind (st 1 v19_14 v13_9) fun _ =>
  M.bind (nilck v9_6) fun v20_16 =>
  M.bind (fld 2 v20_16) fun v21_17 =>
  M.bind (st 1 v21_17 v17_12) fun _ =>
  M.pure (Value.tuple ⟨[]⟩)
noncomputable def b152 : Code := match Tryz.f152.body with
  | some c => c
  | none => .skip
theorem e152 (cl : CallF) (a0 : Value) : bodyK Tryz.prog cl ann 152 Tryz.f152 b152 [a0] = s152 cl a0 := by kernel_rfl
theorem d152 {X : Exts} (hX : X 152 = none) (n : Nat) (a0 : Value) (H : Heap) : func Tryz.prog X ann (n + 1) 152 [a0] H = s152 (callF Tryz.prog X ann n) a0 n H :=
  (func_succ hX (by kernel_rfl) (by kernel_rfl : Tryz.f152.body = some b152) n (by rfl) H).trans (congrFun (congrFun (e152 _ a0) n) H)

/- function 153 -/
noncomputable def s153 (cl : CallF) (a0 : Value) (a1 : Value) : M Value :=
  M.bind (nilck a0) fun v7_1 =>
  M.bind (fld 2 v7_1) fun v8_2 =>
  M.bind (ld false 1 v8_2) fun v9_3 =>
  M.bind (nilck a0) fun v11_4 =>
  M.bind (fld 2 v11_4) fun v12_5 =>
  M.bind (ld false 1 v12_5) fun v13_6 =>
  M.bind (nilck v13_6) fun v14_7 =>
  M.bind (fld 3 v14_7) fun v15_8 =>
  M.bind (ld false 1 v15_8) fun v16_9 =>
  M.bind (nilck a1) fun v17_10 =>
  M.bind (fld 2 v17_10) fun v18_11 =>
  M.bind (st 1 v18_11 v9_3) fun _ =>
  M.bind (nilck a1) fun v19_13 =>
  M.bind (fld 3 v19_13) fun v20_14 =>
  M.bind (st 1 v20_14 v16_9) fun _ =>
  M.bind (nilck a1) fun v22_16 =>
  M.bind (fld 2 v22_16) fun v23_17 =>
  M.bind (ld false 1 v23_17) fun v24_18 =>
  M.bind (nilck a1) fun v26_19 =>
  M.bind (fld 3 v26_19) fun v27_20 =>
  M.bind (ld false 1 v27_20) fun v28_21 =>
  M.bind (nilck v24_18) fun v31_22 =>
  M.bind (fld 3 v31_22) fun v32_23 =>
  M.bind (st 1 v32_23 a1) fun _ =>
  M.bind (nilck v28_21) fun v33_25 =>
  M.bind (fld 2 v33_25) fun v34_26 =>
  M.bind (st 1 v34_26 a1) fun _ =>
  M.pure (Value.tuple ⟨[]⟩)
noncomputable def b153 : Code := match Tryz.f153.body with
  | some c => c
  | none => .skip
theorem e153 (cl : CallF) (a0 : Value) (a1 : Value) : bodyK Tryz.prog cl ann 153 Tryz.f153 b153 [a0, a1] = s153 cl a0 a1 := by kernel_rfl
theorem d153 {X : Exts} (hX : X 153 = none) (n : Nat) (a0 : Value) (a1 : Value) (H : Heap) : func Tryz.prog X ann (n + 1) 153 [a0, a1] H = s153 (callF Tryz.prog X ann n) a0 a1 n H :=
  (func_succ hX (by kernel_rfl) (by kernel_rfl : Tryz.f153.body = some b153) n (by rfl) H).trans (congrFun (congrFun (e153 _ a0 a1) n) H)

/- function 154 -/
noncomputable def s154 (cl : CallF) (a0 : Value) (a1 : Value) (a2 : Value) : M Value :=
  M.bind (binI .add a1 (Value.int .i64 1)) fun v9_1 =>
  loopV (fun again_2 vs_2 =>
    let x0_2 := mk [0, 1, 2, 6] vs_2 0
    let x1_2 := mk [0, 1, 2, 6] vs_2 1
    let x2_2 := mk [0, 1, 2, 6] vs_2 2
    let x6_2 := mk [0, 1, 2, 6] vs_2 6
    M.bind (binI .lss x6_2 x2_2) fun v12_3 =>
    condV v12_3 (
      loopV (fun again_4 vs_4 =>
        let x0_4 := mk [0, 1, 2, 6, 7] vs_4 0
        let x1_4 := mk [0, 1, 2, 6, 7] vs_4 1
        let x2_4 := mk [0, 1, 2, 6, 7] vs_4 2
        let x6_4 := mk [0, 1, 2, 6, 7] vs_4 6
        let x7_4 := mk [0, 1, 2, 6, 7] vs_4 7
        M.bind (binI .gtr x7_4 x1_4) fun v18_5 =>
        M.bind (guardM v18_5 true (M.pure x0_4)) fun v20_6 =>
        M.bind (guardM v18_5 true (M.pure x7_4)) fun v21_7 =>
        M.bind (guardM v18_5 true (idxS 1 v20_6 v21_7)) fun v22_8 =>
        M.bind (guardM v18_5 true (ld false 1 v22_8)) fun v23_9 =>
        M.bind (guardM v18_5 true (M.pure x0_4)) fun v24_10 =>
        M.bind (guardM v18_5 true (M.pure x7_4)) fun v25_11 =>
        M.bind (guardM v18_5 true (binI .sub v25_11 (Value.int .i64 1))) fun v26_12 =>
        M.bind (guardM v18_5 true (idxS 1 v24_10 v26_12)) fun v27_13 =>
        M.bind (guardM v18_5 true (ld false 1 v27_13)) fun v28_14 =>
        M.bind (guardM v18_5 true (cl 160 [v23_9, v28_14])) fun v29_15 =>
        M.bind (pck v18_5 v29_15 (Value.bool false)) fun v30_16 =>
        condV v30_16 (
          M.bind (binI .sub x7_4 (Value.int .i64 1)) fun v37_17 =>
          M.bind (binI .sub x7_4 (Value.int .i64 1)) fun v40_18 =>
          M.bind (idxS 1 x0_4 v40_18) fun v41_19 =>
          M.bind (ld false 1 v41_19) fun v42_20 =>
          M.bind (idxS 1 x0_4 x7_4) fun v45_21 =>
          M.bind (ld false 1 v45_21) fun v46_22 =>
          M.bind (idxS 1 x0_4 x7_4) fun v47_23 =>
          M.bind (st 1 v47_23 v42_20) fun _ =>
          M.bind getH fun h_25 =>
          M.bind (chk (binI .sub x7_4 (Value.int .i64 1)) v37_17 h_25) fun _ =>
          M.bind (idxS 1 x0_4 v37_17) fun v48_26 =>
          M.bind (st 1 v48_26 v46_22) fun _ =>
          M.bind (binI .sub x7_4 (Value.int .i64 1)) fun v32_28 =>
          again_4 [x0_4, x1_4, x2_4, x6_4, v32_28]
        ) (
          M.bind (binI .add x6_4 (Value.int .i64 1)) fun v14_29 =>
          again_2 [x0_4, x1_4, x2_4, v14_29]
        )
      ) [x0_2, x1_2, x2_2, x6_2, x6_2]
    ) (
      M.pure (Value.tuple ⟨[]⟩)
    )
  ) [a0, a1, a2, v9_1]
noncomputable def b154 : Code := match Tryz.f154.body with
  | some c => c
  | none => .skip
theorem e154 (cl : CallF) (a0 : Value) (a1 : Value) (a2 : Value) : bodyK Tryz.prog cl ann 154 Tryz.f154 b154 [a0, a1, a2] = s154 cl a0 a1 a2 := by kernel_rfl
theorem d154 {X : Exts} (hX : X 154 = none) (n : Nat) (a0 : Value) (a1 : Value) (a2 : Value) (H : Heap) : func Tryz.prog X ann (n + 1) 154 [a0, a1, a2] H = s154 (callF Tryz.prog X ann n) a0 a1 a2 n H :=
  (func_succ hX (by kernel_rfl) (by kernel_rfl : Tryz.f154.body = some b154) n (by rfl) H).trans (congrFun (congrFun (e154 _ a0 a1 a2) n) H)

/- function 155 -/
noncomputable def s155 (cl : CallF) (a0 : Value) (a1 : Value) (a2 : Value) : M Value :=
  M.bind (binI .sub a2 a1) fun v14_1 =>
  M.bind (binI .sub v14_1 (Value.int .i64 1)) fun v16_2 =>
  M.bind (binI .quo v16_2 (Value.int .i64 2)) fun v17_3 =>
  loopV (fun again_4 vs_4 =>
    let x0_4 := mk [0, 6, 7, 8, 9] vs_4 0
    let x6_4 := mk [0, 6, 7, 8, 9] vs_4 6
    let x7_4 := mk [0, 6, 7, 8, 9] vs_4 7
    let x8_4 := mk [0, 6, 7, 8, 9] vs_4 8
    let x9_4 := mk [0, 6, 7, 8, 9] vs_4 9
    M.bind (binI .geq x9_4 (Value.int .i64 0)) fun v19_5 =>
    condV v19_5 (
      M.bind (cl 188 [x0_4, x9_4, x8_4, x6_4]) fun v26_6 =>
      M.bind (binI .sub x9_4 (Value.int .i64 1)) fun v21_7 =>
      again_4 [x0_4, x6_4, x7_4, x8_4, v21_7]
    ) (
      M.bind (binI .sub x8_4 (Value.int .i64 1)) fun v28_8 =>
      loopV (fun again_9 vs_9 =>
        let x0_9 := mk [0, 6, 7, 10] vs_9 0
        let x6_9 := mk [0, 6, 7, 10] vs_9 6
        let x7_9 := mk [0, 6, 7, 10] vs_9 7
        let x10_9 := mk [0, 6, 7, 10] vs_9 10
        M.bind (binI .geq x10_9 (Value.int .i64 0)) fun v30_10 =>
        condV v30_10 (
          M.bind (binI .add x6_9 x10_9) fun v38_11 =>
          M.bind (binI .add x6_9 x10_9) fun v42_12 =>
          M.bind (idxS 1 x0_9 v42_12) fun v43_13 =>
          M.bind (ld false 1 v43_13) fun v44_14 =>
          M.bind (idxS 1 x0_9 x6_9) fun v47_15 =>
          M.bind (ld false 1 v47_15) fun v48_16 =>
          M.bind (idxS 1 x0_9 x6_9) fun v49_17 =>
          M.bind (st 1 v49_17 v44_14) fun _ =>
          M.bind getH fun h_19 =>
          M.bind (chk (binI .add x6_9 x10_9) v38_11 h_19) fun _ =>
          M.bind (idxS 1 x0_9 v38_11) fun v50_20 =>
          M.bind (st 1 v50_20 v48_16) fun _ =>
          M.bind (cl 188 [x0_9, x7_9, x10_9, x6_9]) fun v55_22 =>
          M.bind (binI .sub x10_9 (Value.int .i64 1)) fun v32_23 =>
          again_9 [x0_9, x6_9, x7_9, v32_23]
        ) (
          M.pure (Value.tuple ⟨[]⟩)
        )
      ) [x0_4, x6_4, x7_4, v28_8]
    )
  ) [a0, a1, Value.int .i64 0, v14_1, v17_3]
noncomputable def b155 : Code := match Tryz.f155.body with
  | some c => c
  | none => .skip
theorem e155 (cl : CallF) (a0 : Value) (a1 : Value) (a2 : Value) : bodyK Tryz.prog cl ann 155 Tryz.f155 b155 [a0, a1, a2] = s155 cl a0 a1 a2 := by kernel_rfl
theorem d155 {X : Exts} (hX : X 155 = none) (n : Nat) (a0 : Value) (a1 : Value) (a2 : Value) (H : Heap) : func Tryz.prog X ann (n + 1) 155 [a0, a1, a2] H = s155 (callF Tryz.prog X ann n) a0 a1 a2 n H :=
  (func_succ hX (by kernel_rfl) (by kernel_rfl : Tryz.f155.body = some b155) n (by rfl) H).trans (congrFun (congrFun (e155 _ a0 a1 a2) n) H)

/- function 156 -/
noncomputable def s156 (cl : CallF) (a0 : Value) (a1 : Value) (a2 : Value) : M Value :=
  M.bind (binI .sub a2 a1) fun v13_1 =>
  M.bind (binI .geq v13_1 (Value.int .i64 8)) fun v15_2 =>
  condV v15_2 (
    M.bind (cvt .u64 v13_1) fun v17_4 =>
    M.bind (alloc 221 [.int .u64 0]) fun v7_5 =>
    M.bind (st 1 v7_5 v17_4) fun _ =>
    M.bind (cl 189 [v13_1]) fun v19_7 =>
    M.bind (binI .quo v13_1 (Value.int .i64 4)) fun v22_8 =>
    M.bind (binI .mul v22_8 (Value.int .i64 2)) fun v23_9 =>
    M.bind (binI .add a1 v23_9) fun v24_10 =>
    M.bind (binI .sub v24_10 (Value.int .i64 1)) fun v25_11 =>
    loopV (fun again_12 vs_12 =>
      let x0_12 := mk [0, 1, 6, 7, 8, 9] vs_12 0
      let x1_12 := mk [0, 1, 6, 7, 8, 9] vs_12 1
      let x6_12 := mk [0, 1, 6, 7, 8, 9] vs_12 6
      let x7_12 := mk [0, 1, 6, 7, 8, 9] vs_12 7
      let x8_12 := mk [0, 1, 6, 7, 8, 9] vs_12 8
      let x9_12 := mk [0, 1, 6, 7, 8, 9] vs_12 9
      M.bind (binI .quo x6_12 (Value.int .i64 4)) fun v29_13 =>
      M.bind (binI .mul v29_13 (Value.int .i64 2)) fun v30_14 =>
      M.bind (binI .add x1_12 v30_14) fun v31_15 =>
      M.bind (binI .add v31_15 (Value.int .i64 1)) fun v32_16 =>
      M.bind (binI .leq x9_12 v32_16) fun v33_17 =>
      condV v33_17 (
        let j_18 := fun (y0_18 : Value) (y1_18 : Value) (y6_18 : Value) (y7_18 : Value) (y8_18 : Value) (y9_18 : Value) =>
          M.bind (binI .add y9_18 (Value.int .i64 1)) fun v35_19 =>
          again_12 [y0_18, y1_18, y6_18, y7_18, y8_18, v35_19]
        M.bind (cl 190 [x7_12]) fun v36_20 =>
        M.bind (binI .sub x8_12 (Value.int .u64 1)) fun v38_21 =>
        M.bind (binI .and v36_20 v38_21) fun v39_22 =>
        M.bind (cvt .i64 v39_22) fun v40_23 =>
        M.bind (binI .geq v40_23 x6_12) fun v43_24 =>
        let j_25 := fun (y0_25 : Value) (y1_25 : Value) (y6_25 : Value) (y7_25 : Value) (y8_25 : Value) (y9_25 : Value) (y10_25 : Value) =>
          M.bind (binI .add y1_25 y10_25) fun v52_26 =>
          M.bind (binI .add y1_25 y10_25) fun v56_27 =>
          M.bind (idxS 1 y0_25 v56_27) fun v57_28 =>
          M.bind (ld false 1 v57_28) fun v58_29 =>
          M.bind (idxS 1 y0_25 y9_25) fun v61_30 =>
          M.bind (ld false 1 v61_30) fun v62_31 =>
          M.bind (idxS 1 y0_25 y9_25) fun v63_32 =>
          M.bind (st 1 v63_32 v58_29) fun _ =>
          M.bind getH fun h_34 =>
          M.bind (chk (binI .add y1_25 y10_25) v52_26 h_34) fun _ =>
          M.bind (idxS 1 y0_25 v52_26) fun v64_35 =>
          M.bind (st 1 v64_35 v62_31) fun _ =>
          j_18 y0_25 y1_25 y6_25 y7_25 y8_25 y9_25
        condV v43_24 (
          M.bind (binI .sub v40_23 x6_12) fun v46_37 =>
          j_25 x0_12 x1_12 x6_12 x7_12 x8_12 x9_12 v46_37
        ) (
          j_25 x0_12 x1_12 x6_12 x7_12 x8_12 x9_12 v40_23
        )
      ) (
        M.pure (Value.tuple ⟨[]⟩)
      )
    ) [a0, a1, v13_1, v7_5, v19_7, v25_11]
  ) (
    M.pure (Value.tuple ⟨[]⟩)
  )
noncomputable def b156 : Code := match Tryz.f156.body with
  | some c => c
  | none => .skip
theorem e156 (cl : CallF) (a0 : Value) (a1 : Value) (a2 : Value) : bodyK Tryz.prog cl ann 156 Tryz.f156 b156 [a0, a1, a2] = s156 cl a0 a1 a2 := by kernel_rfl
theorem d156 {X : Exts} (hX : X 156 = none) (n : Nat) (a0 : Value) (a1 : Value) (a2 : Value) (H : Heap) : func Tryz.prog X ann (n + 1) 156 [a0, a1, a2] H = s156 (callF Tryz.prog X ann n) a0 a1 a2 n H :=
  (func_succ hX (by kernel_rfl) (by kernel_rfl : Tryz.f156.body = some b156) n (by rfl) H).trans (congrFun (congrFun (e156 _ a0 a1 a2) n) H)

/- function 157 -/
noncomputable def s157 (cl : CallF) (a0 : Value) (a1 : Value) (a2 : Value) : M Value :=
  M.bind (binI .sub a2 a1) fun v15_1 =>
  M.bind (alloc 3 [.int .i64 0]) fun v9_2 =>
  M.bind (binI .quo v15_1 (Value.int .i64 4)) fun v18_3 =>
  M.bind (binI .mul v18_3 (Value.int .i64 1)) fun v19_4 =>
  M.bind (binI .add a1 v19_4) fun v20_5 =>
  M.bind (binI .quo v15_1 (Value.int .i64 4)) fun v23_6 =>
  M.bind (binI .mul v23_6 (Value.int .i64 2)) fun v24_7 =>
  M.bind (binI .add a1 v24_7) fun v25_8 =>
  M.bind (binI .quo v15_1 (Value.int .i64 4)) fun v28_9 =>
  M.bind (binI .mul v28_9 (Value.int .i64 3)) fun v29_10 =>
  M.bind (binI .add a1 v29_10) fun v30_11 =>
  M.bind (binI .geq v15_1 (Value.int .i64 8)) fun v32_12 =>
  let j_13 := fun (y9_13 : Value) (y11_13 : Value) =>
    M.bind (ld false 1 y9_13) fun v49_14 =>
    M.bind (binI .eql v49_14 (Value.int .i64 0)) fun v52_15 =>
    condV v52_15 (
      M.pure (Value.tuple ⟨[y11_13, Value.int .i64 1]⟩)
    ) (
      M.bind (binI .eql v49_14 (Value.int .i64 12)) fun v55_16 =>
      condV v55_16 (
        M.pure (Value.tuple ⟨[y11_13, Value.int .i64 2]⟩)
      ) (
        M.pure (Value.tuple ⟨[y11_13, Value.int .i64 0]⟩)
      )
    )
  condV v32_12 (
    M.bind (binI .geq v15_1 (Value.int .i64 50)) fun v34_17 =>
    let j_18 := fun (y0_18 : Value) (y9_18 : Value) (y10_18 : Value) (y11_18 : Value) (y12_18 : Value) =>
      M.bind (cl 192 [y0_18, y10_18, y11_18, y12_18, y9_18]) fun v48_19 =>
      j_13 y9_18 v48_19
    condV v34_17 (
      M.bind (cl 191 [a0, v20_5, v9_2]) fun v37_20 =>
      M.bind (cl 191 [a0, v25_8, v9_2]) fun v40_21 =>
      M.bind (cl 191 [a0, v30_11, v9_2]) fun v43_22 =>
      j_18 a0 v9_2 v37_20 v40_21 v43_22
    ) (
      j_18 a0 v9_2 v20_5 v25_8 v30_11
    )
  ) (
    j_13 v9_2 v25_8
  )
noncomputable def b157 : Code := match Tryz.f157.body with
  | some c => c
  | none => .skip
theorem e157 (cl : CallF) (a0 : Value) (a1 : Value) (a2 : Value) : bodyK Tryz.prog cl ann 157 Tryz.f157 b157 [a0, a1, a2] = s157 cl a0 a1 a2 := by kernel_rfl
theorem d157 {X : Exts} (hX : X 157 = none) (n : Nat) (a0 : Value) (a1 : Value) (a2 : Value) (H : Heap) : func Tryz.prog X ann (n + 1) 157 [a0, a1, a2] H = s157 (callF Tryz.prog X ann n) a0 a1 a2 n H :=
  (func_succ hX (by kernel_rfl) (by kernel_rfl : Tryz.f157.body = some b157) n (by rfl) H).trans (congrFun (congrFun (e157 _ a0 a1 a2) n) H)

/- function 158 -/
noncomputable def s158 (cl : CallF) (a0 : Value) (a1 : Value) (a2 : Value) : M Value :=
  M.bind (binI .sub a2 (Value.int .i64 1)) fun v10_1 =>
  loopV (fun again_2 vs_2 =>
    let x0_2 := mk [0, 6, 7] vs_2 0
    let x6_2 := mk [0, 6, 7] vs_2 6
    let x7_2 := mk [0, 6, 7] vs_2 7
    M.bind (binI .lss x6_2 x7_2) fun v13_3 =>
    condV v13_3 (
      M.bind (idxS 1 x0_2 x7_2) fun v20_4 =>
      M.bind (ld false 1 v20_4) fun v21_5 =>
      M.bind (idxS 1 x0_2 x6_2) fun v24_6 =>
      M.bind (ld false 1 v24_6) fun v25_7 =>
      M.bind (idxS 1 x0_2 x6_2) fun v26_8 =>
      M.bind (st 1 v26_8 v21_5) fun _ =>
      M.bind (idxS 1 x0_2 x7_2) fun v27_10 =>
      M.bind (st 1 v27_10 v25_7) fun _ =>
      M.bind (binI .add x6_2 (Value.int .i64 1)) fun v29_12 =>
      M.bind (binI .sub x7_2 (Value.int .i64 1)) fun v31_13 =>
      again_2 [x0_2, v29_12, v31_13]
    ) (
      M.pure (Value.tuple ⟨[]⟩)
    )
  ) [a0, a1, v10_1]
noncomputable def b158 : Code := match Tryz.f158.body with
  | some c => c
  | none => .skip
theorem e158 (cl : CallF) (a0 : Value) (a1 : Value) (a2 : Value) : bodyK Tryz.prog cl ann 158 Tryz.f158 b158 [a0, a1, a2] = s158 cl a0 a1 a2 := by kernel_rfl
theorem d158 {X : Exts} (hX : X 158 = none) (n : Nat) (a0 : Value) (a1 : Value) (a2 : Value) (H : Heap) : func Tryz.prog X ann (n + 1) 158 [a0, a1, a2] H = s158 (callF Tryz.prog X ann n) a0 a1 a2 n H :=
  (func_succ hX (by kernel_rfl) (by kernel_rfl : Tryz.f158.body = some b158) n (by rfl) H).trans (congrFun (congrFun (e158 _ a0 a1 a2) n) H)

/- function 159 -/
noncomputable def s159 (cl : CallF) (a0 : Value) (a1 : Value) (a2 : Value) : M Value :=
  M.bind (binI .add a1 (Value.int .i64 1)) fun v12_1 =>
  loopV (fun again_2 vs_2 =>
    let x0_2 := mk [0, 1, 2, 7, 8] vs_2 0
    let x1_2 := mk [0, 1, 2, 7, 8] vs_2 1
    let x2_2 := mk [0, 1, 2, 7, 8] vs_2 2
    let x7_2 := mk [0, 1, 2, 7, 8] vs_2 7
    let x8_2 := mk [0, 1, 2, 7, 8] vs_2 8
    M.bind (binI .lss x8_2 (Value.int .i64 5)) fun v14_3 =>
    condV v14_3 (
      let j_4 := fun (y0_4 : Value) (y1_4 : Value) (y2_4 : Value) (y7_4 : Value) (y8_4 : Value) =>
        M.bind (binI .add y8_4 (Value.int .i64 1)) fun v16_5 =>
        again_2 [y0_4, y1_4, y2_4, y7_4, v16_5]
      loopV (fun again_6 vs_6 =>
        let x0_6 := mk [0, 1, 2, 7, 8] vs_6 0
        let x1_6 := mk [0, 1, 2, 7, 8] vs_6 1
        let x2_6 := mk [0, 1, 2, 7, 8] vs_6 2
        let x7_6 := mk [0, 1, 2, 7, 8] vs_6 7
        let x8_6 := mk [0, 1, 2, 7, 8] vs_6 8
        M.bind (binI .lss x7_6 x2_6) fun v19_7 =>
        M.bind (guardM v19_7 true (M.pure x0_6)) fun v21_8 =>
        M.bind (guardM v19_7 true (M.pure x7_6)) fun v22_9 =>
        M.bind (guardM v19_7 true (idxS 1 v21_8 v22_9)) fun v23_10 =>
        M.bind (guardM v19_7 true (ld false 1 v23_10)) fun v24_11 =>
        M.bind (guardM v19_7 true (M.pure x0_6)) fun v25_12 =>
        M.bind (guardM v19_7 true (M.pure x7_6)) fun v26_13 =>
        M.bind (guardM v19_7 true (binI .sub v26_13 (Value.int .i64 1))) fun v27_14 =>
        M.bind (guardM v19_7 true (idxS 1 v25_12 v27_14)) fun v28_15 =>
        M.bind (guardM v19_7 true (ld false 1 v28_15)) fun v29_16 =>
        M.bind (guardM v19_7 true (cl 160 [v24_11, v29_16])) fun v30_17 =>
        M.bind (guardM v19_7 true (un .not v30_17)) fun v31_18 =>
        M.bind (pck v19_7 v31_18 (Value.bool false)) fun v32_19 =>
        condV v32_19 (
          M.bind (binI .add x7_6 (Value.int .i64 1)) fun v34_20 =>
          again_6 [x0_6, x1_6, x2_6, v34_20, x8_6]
        ) (
          M.bind (binI .eql x7_6 x2_6) fun v37_21 =>
          condV v37_21 (
            M.pure (Value.bool true)
          ) (
            M.bind (binI .sub x2_6 x1_6) fun v40_22 =>
            M.bind (binI .lss v40_22 (Value.int .i64 50)) fun v41_23 =>
            condV v41_23 (
              M.pure (Value.bool false)
            ) (
              M.bind (binI .sub x7_6 (Value.int .i64 1)) fun v46_24 =>
              M.bind (binI .sub x7_6 (Value.int .i64 1)) fun v49_25 =>
              M.bind (idxS 1 x0_6 v49_25) fun v50_26 =>
              M.bind (ld false 1 v50_26) fun v51_27 =>
              M.bind (idxS 1 x0_6 x7_6) fun v54_28 =>
              M.bind (ld false 1 v54_28) fun v55_29 =>
              M.bind (idxS 1 x0_6 x7_6) fun v56_30 =>
              M.bind (st 1 v56_30 v51_27) fun _ =>
              M.bind getH fun h_32 =>
              M.bind (chk (binI .sub x7_6 (Value.int .i64 1)) v46_24 h_32) fun _ =>
              M.bind (idxS 1 x0_6 v46_24) fun v57_33 =>
              M.bind (st 1 v57_33 v55_29) fun _ =>
              M.bind (binI .sub x7_6 x1_6) fun v60_35 =>
              M.bind (binI .geq v60_35 (Value.int .i64 2)) fun v61_36 =>
              let j_37 := fun (y0_37 : Value) (y1_37 : Value) (y2_37 : Value) (y7_37 : Value) (y8_37 : Value) =>
                M.bind (binI .sub y2_37 y7_37) fun v97_38 =>
                M.bind (binI .geq v97_38 (Value.int .i64 2)) fun v98_39 =>
                condV v98_39 (
                  M.bind (binI .add y7_37 (Value.int .i64 1)) fun v100_41 =>
                  loopV (fun again_42 vs_42 =>
                    let x0_42 := mk [0, 1, 2, 7, 8, 10] vs_42 0
                    let x1_42 := mk [0, 1, 2, 7, 8, 10] vs_42 1
                    let x2_42 := mk [0, 1, 2, 7, 8, 10] vs_42 2
                    let x7_42 := mk [0, 1, 2, 7, 8, 10] vs_42 7
                    let x8_42 := mk [0, 1, 2, 7, 8, 10] vs_42 8
                    let x10_42 := mk [0, 1, 2, 7, 8, 10] vs_42 10
                    M.bind (binI .lss x10_42 x2_42) fun v103_43 =>
                    condV v103_43 (
                      M.bind (idxS 1 x0_42 x10_42) fun v108_44 =>
                      M.bind (ld false 1 v108_44) fun v109_45 =>
                      M.bind (binI .sub x10_42 (Value.int .i64 1)) fun v112_46 =>
                      M.bind (idxS 1 x0_42 v112_46) fun v113_47 =>
                      M.bind (ld false 1 v113_47) fun v114_48 =>
                      M.bind (cl 160 [v109_45, v114_48]) fun v115_49 =>
                      M.bind (un .not v115_49) fun v116_50 =>
                      condV v116_50 (
                        j_4 x0_42 x1_42 x2_42 x7_42 x8_42
                      ) (
                        M.bind (binI .sub x10_42 (Value.int .i64 1)) fun v121_51 =>
                        M.bind (binI .sub x10_42 (Value.int .i64 1)) fun v124_52 =>
                        M.bind (idxS 1 x0_42 v124_52) fun v125_53 =>
                        M.bind (ld false 1 v125_53) fun v126_54 =>
                        M.bind (idxS 1 x0_42 x10_42) fun v129_55 =>
                        M.bind (ld false 1 v129_55) fun v130_56 =>
                        M.bind (idxS 1 x0_42 x10_42) fun v131_57 =>
                        M.bind (st 1 v131_57 v126_54) fun _ =>
                        M.bind getH fun h_59 =>
                        M.bind (chk (binI .sub x10_42 (Value.int .i64 1)) v121_51 h_59) fun _ =>
                        M.bind (idxS 1 x0_42 v121_51) fun v132_60 =>
                        M.bind (st 1 v132_60 v130_56) fun _ =>
                        M.bind (binI .add x10_42 (Value.int .i64 1)) fun v105_62 =>
                        again_42 [x0_42, x1_42, x2_42, x7_42, x8_42, v105_62]
                      )
                    ) (
                      j_4 x0_42 x1_42 x2_42 x7_42 x8_42
                    )
                  ) [y0_37, y1_37, y2_37, y7_37, y8_37, v100_41]
                ) (
                  j_4 y0_37 y1_37 y2_37 y7_37 y8_37
                )
              condV v61_36 (
                M.bind (binI .sub x7_6 (Value.int .i64 1)) fun v63_63 =>
                loopV (fun again_64 vs_64 =>
                  let x0_64 := mk [0, 1, 2, 7, 8, 9] vs_64 0
                  let x1_64 := mk [0, 1, 2, 7, 8, 9] vs_64 1
                  let x2_64 := mk [0, 1, 2, 7, 8, 9] vs_64 2
                  let x7_64 := mk [0, 1, 2, 7, 8, 9] vs_64 7
                  let x8_64 := mk [0, 1, 2, 7, 8, 9] vs_64 8
                  let x9_64 := mk [0, 1, 2, 7, 8, 9] vs_64 9
                  M.bind (binI .geq x9_64 (Value.int .i64 1)) fun v65_65 =>
                  condV v65_65 (
                    M.bind (idxS 1 x0_64 x9_64) fun v70_66 =>
                    M.bind (ld false 1 v70_66) fun v71_67 =>
                    M.bind (binI .sub x9_64 (Value.int .i64 1)) fun v74_68 =>
                    M.bind (idxS 1 x0_64 v74_68) fun v75_69 =>
                    M.bind (ld false 1 v75_69) fun v76_70 =>
                    M.bind (cl 160 [v71_67, v76_70]) fun v77_71 =>
                    M.bind (un .not v77_71) fun v78_72 =>
                    condV v78_72 (
                      j_37 x0_64 x1_64 x2_64 x7_64 x8_64
                    ) (
                      M.bind (binI .sub x9_64 (Value.int .i64 1)) fun v83_73 =>
                      M.bind (binI .sub x9_64 (Value.int .i64 1)) fun v86_74 =>
                      M.bind (idxS 1 x0_64 v86_74) fun v87_75 =>
                      M.bind (ld false 1 v87_75) fun v88_76 =>
                      M.bind (idxS 1 x0_64 x9_64) fun v91_77 =>
                      M.bind (ld false 1 v91_77) fun v92_78 =>
                      M.bind (idxS 1 x0_64 x9_64) fun v93_79 =>
                      M.bind (st 1 v93_79 v88_76) fun _ =>
                      M.bind getH fun h_81 =>
                      M.bind (chk (binI .sub x9_64 (Value.int .i64 1)) v83_73 h_81) fun _ =>
                      M.bind (idxS 1 x0_64 v83_73) fun v94_82 =>
                      M.bind (st 1 v94_82 v92_78) fun _ =>
                      M.bind (binI .sub x9_64 (Value.int .i64 1)) fun v67_84 =>
                      again_64 [x0_64, x1_64, x2_64, x7_64, x8_64, v67_84]
                    )
                  ) (
                    j_37 x0_64 x1_64 x2_64 x7_64 x8_64
                  )
                ) [x0_6, x1_6, x2_6, x7_6, x8_6, v63_63]
              ) (
                j_37 x0_6 x1_6 x2_6 x7_6 x8_6
              )
            )
          )
        )
      ) [x0_2, x1_2, x2_2, x7_2, x8_2]
    ) (
      M.pure (Value.bool false)
    )
  ) [a0, a1, a2, v12_1, Value.int .i64 0]
noncomputable def b159 : Code := match Tryz.f159.body with
  | some c => c
  | none => .skip
theorem e159 (cl : CallF) (a0 : Value) (a1 : Value) (a2 : Value) : bodyK Tryz.prog cl ann 159 Tryz.f159 b159 [a0, a1, a2] = s159 cl a0 a1 a2 := by kernel_rfl
theorem d159 {X : Exts} (hX : X 159 = none) (n : Nat) (a0 : Value) (a1 : Value) (a2 : Value) (H : Heap) : func Tryz.prog X ann (n + 1) 159 [a0, a1, a2] H = s159 (callF Tryz.prog X ann n) a0 a1 a2 n H :=
  (func_succ hX (by kernel_rfl) (by kernel_rfl : Tryz.f159.body = some b159) n (by rfl) H).trans (congrFun (congrFun (e159 _ a0 a1 a2) n) H)

/- function 160 -/
noncomputable def s160 (cl : CallF) (a0 : Value) (a1 : Value) : M Value :=
  M.bind (cl 193 [a0]) fun v6_1 =>
  M.bind (guardM v6_1 true (M.pure a1)) fun v8_2 =>
  M.bind (guardM v6_1 true (cl 193 [v8_2])) fun v9_3 =>
  M.bind (guardM v6_1 true (un .not v9_3)) fun v10_4 =>
  M.bind (pck v6_1 v10_4 (Value.bool false)) fun v11_5 =>
  M.bind (guardM v11_5 false (M.pure a0)) fun v13_6 =>
  M.bind (guardM v11_5 false (M.pure a1)) fun v14_7 =>
  M.bind (guardM v11_5 false (binI .lss v13_6 v14_7)) fun v15_8 =>
  M.bind (pck v11_5 (Value.bool true) v15_8) fun v16_9 =>
  M.pure v16_9
noncomputable def b160 : Code := match Tryz.f160.body with
  | some c => c
  | none => .skip
theorem e160 (cl : CallF) (a0 : Value) (a1 : Value) : bodyK Tryz.prog cl ann 160 Tryz.f160 b160 [a0, a1] = s160 cl a0 a1 := by kernel_rfl
theorem d160 {X : Exts} (hX : X 160 = none) (n : Nat) (a0 : Value) (a1 : Value) (H : Heap) : func Tryz.prog X ann (n + 1) 160 [a0, a1] H = s160 (callF Tryz.prog X ann n) a0 a1 n H :=
  (func_succ hX (by kernel_rfl) (by kernel_rfl : Tryz.f160.body = some b160) n (by rfl) H).trans (congrFun (congrFun (e160 _ a0 a1) n) H)

/- function 161 -/
noncomputable def s161 (cl : CallF) (a0 : Value) (a1 : Value) (a2 : Value) (a3 : Value) : M Value :=
  M.bind (idxS 1 a0 a3) fun v17_1 =>
  M.bind (ld false 1 v17_1) fun v18_2 =>
  M.bind (idxS 1 a0 a1) fun v21_3 =>
  M.bind (ld false 1 v21_3) fun v22_4 =>
  M.bind (idxS 1 a0 a1) fun v23_5 =>
  M.bind (st 1 v23_5 v18_2) fun _ =>
  M.bind (idxS 1 a0 a3) fun v24_7 =>
  M.bind (st 1 v24_7 v22_4) fun _ =>
  M.bind (binI .add a1 (Value.int .i64 1)) fun v26_9 =>
  M.bind (binI .sub a2 (Value.int .i64 1)) fun v28_10 =>
  loopV (fun again_11 vs_11 =>
    let x0_11 := mk [0, 1, 9, 10] vs_11 0
    let x1_11 := mk [0, 1, 9, 10] vs_11 1
    let x9_11 := mk [0, 1, 9, 10] vs_11 9
    let x10_11 := mk [0, 1, 9, 10] vs_11 10
    loopV (fun again_12 vs_12 =>
      let x0_12 := mk [0, 1, 9, 10] vs_12 0
      let x1_12 := mk [0, 1, 9, 10] vs_12 1
      let x9_12 := mk [0, 1, 9, 10] vs_12 9
      let x10_12 := mk [0, 1, 9, 10] vs_12 10
      M.bind (binI .leq x9_12 x10_12) fun v31_13 =>
      M.bind (guardM v31_13 true (M.pure x0_12)) fun v33_14 =>
      M.bind (guardM v31_13 true (M.pure x1_12)) fun v34_15 =>
      M.bind (guardM v31_13 true (idxS 1 v33_14 v34_15)) fun v35_16 =>
      M.bind (guardM v31_13 true (ld false 1 v35_16)) fun v36_17 =>
      M.bind (guardM v31_13 true (M.pure x0_12)) fun v37_18 =>
      M.bind (guardM v31_13 true (M.pure x9_12)) fun v38_19 =>
      M.bind (guardM v31_13 true (idxS 1 v37_18 v38_19)) fun v39_20 =>
      M.bind (guardM v31_13 true (ld false 1 v39_20)) fun v40_21 =>
      M.bind (guardM v31_13 true (cl 160 [v36_17, v40_21])) fun v41_22 =>
      M.bind (guardM v31_13 true (un .not v41_22)) fun v42_23 =>
      M.bind (pck v31_13 v42_23 (Value.bool false)) fun v43_24 =>
      condV v43_24 (
        M.bind (binI .add x9_12 (Value.int .i64 1)) fun v45_25 =>
        again_12 [x0_12, x1_12, v45_25, x10_12]
      ) (
        loopV (fun again_26 vs_26 =>
          let x0_26 := mk [0, 1, 9, 10] vs_26 0
          let x1_26 := mk [0, 1, 9, 10] vs_26 1
          let x9_26 := mk [0, 1, 9, 10] vs_26 9
          let x10_26 := mk [0, 1, 9, 10] vs_26 10
          M.bind (binI .leq x9_26 x10_26) fun v48_27 =>
          M.bind (guardM v48_27 true (M.pure x0_26)) fun v50_28 =>
          M.bind (guardM v48_27 true (M.pure x1_26)) fun v51_29 =>
          M.bind (guardM v48_27 true (idxS 1 v50_28 v51_29)) fun v52_30 =>
          M.bind (guardM v48_27 true (ld false 1 v52_30)) fun v53_31 =>
          M.bind (guardM v48_27 true (M.pure x0_26)) fun v54_32 =>
          M.bind (guardM v48_27 true (M.pure x10_26)) fun v55_33 =>
          M.bind (guardM v48_27 true (idxS 1 v54_32 v55_33)) fun v56_34 =>
          M.bind (guardM v48_27 true (ld false 1 v56_34)) fun v57_35 =>
          M.bind (guardM v48_27 true (cl 160 [v53_31, v57_35])) fun v58_36 =>
          M.bind (pck v48_27 v58_36 (Value.bool false)) fun v59_37 =>
          condV v59_37 (
            M.bind (binI .sub x10_26 (Value.int .i64 1)) fun v61_38 =>
            again_26 [x0_26, x1_26, x9_26, v61_38]
          ) (
            M.bind (binI .gtr x9_26 x10_26) fun v64_39 =>
            condV v64_39 (
              M.pure x9_26
            ) (
              M.bind (idxS 1 x0_26 x10_26) fun v71_40 =>
              M.bind (ld false 1 v71_40) fun v72_41 =>
              M.bind (idxS 1 x0_26 x9_26) fun v75_42 =>
              M.bind (ld false 1 v75_42) fun v76_43 =>
              M.bind (idxS 1 x0_26 x9_26) fun v77_44 =>
              M.bind (st 1 v77_44 v72_41) fun _ =>
              M.bind (idxS 1 x0_26 x10_26) fun v78_46 =>
              M.bind (st 1 v78_46 v76_43) fun _ =>
              M.bind (binI .add x9_26 (Value.int .i64 1)) fun v80_48 =>
              M.bind (binI .sub x10_26 (Value.int .i64 1)) fun v82_49 =>
              again_11 [x0_26, x1_26, v80_48, v82_49]
            )
          )
        ) [x0_12, x1_12, x9_12, x10_12]
      )
    ) [x0_11, x1_11, x9_11, x10_11]
  ) [a0, a1, v26_9, v28_10]
noncomputable def b161 : Code := match Tryz.f161.body with
  | some c => c
  | none => .skip
theorem e161 (cl : CallF) (a0 : Value) (a1 : Value) (a2 : Value) (a3 : Value) : bodyK Tryz.prog cl ann 161 Tryz.f161 b161 [a0, a1, a2, a3] = s161 cl a0 a1 a2 a3 := by kernel_rfl
theorem d161 {X : Exts} (hX : X 161 = none) (n : Nat) (a0 : Value) (a1 : Value) (a2 : Value) (a3 : Value) (H : Heap) : func Tryz.prog X ann (n + 1) 161 [a0, a1, a2, a3] H = s161 (callF Tryz.prog X ann n) a0 a1 a2 a3 n H :=
  (func_succ hX (by kernel_rfl) (by kernel_rfl : Tryz.f161.body = some b161) n (by rfl) H).trans (congrFun (congrFun (e161 _ a0 a1 a2 a3) n) H)

/- function 162 -/
noncomputable def s162 (cl : CallF) (a0 : Value) (a1 : Value) (a2 : Value) (a3 : Value) : M Value :=
  M.bind (idxS 1 a0 a3) fun v18_1 =>
  M.bind (ld false 1 v18_1) fun v19_2 =>
  M.bind (idxS 1 a0 a1) fun v22_3 =>
  M.bind (ld false 1 v22_3) fun v23_4 =>
  M.bind (idxS 1 a0 a1) fun v24_5 =>
  M.bind (st 1 v24_5 v19_2) fun _ =>
  M.bind (idxS 1 a0 a3) fun v25_7 =>
  M.bind (st 1 v25_7 v23_4) fun _ =>
  M.bind (binI .add a1 (Value.int .i64 1)) fun v27_9 =>
  M.bind (binI .sub a2 (Value.int .i64 1)) fun v29_10 =>
  loopV (fun again_11 vs_11 =>
    let x0_11 := mk [0, 1, 10, 11] vs_11 0
    let x1_11 := mk [0, 1, 10, 11] vs_11 1
    let x10_11 := mk [0, 1, 10, 11] vs_11 10
    let x11_11 := mk [0, 1, 10, 11] vs_11 11
    M.bind (binI .leq x10_11 x11_11) fun v32_12 =>
    M.bind (guardM v32_12 true (M.pure x0_11)) fun v34_13 =>
    M.bind (guardM v32_12 true (M.pure x10_11)) fun v35_14 =>
    M.bind (guardM v32_12 true (idxS 1 v34_13 v35_14)) fun v36_15 =>
    M.bind (guardM v32_12 true (ld false 1 v36_15)) fun v37_16 =>
    M.bind (guardM v32_12 true (M.pure x0_11)) fun v38_17 =>
    M.bind (guardM v32_12 true (M.pure x1_11)) fun v39_18 =>
    M.bind (guardM v32_12 true (idxS 1 v38_17 v39_18)) fun v40_19 =>
    M.bind (guardM v32_12 true (ld false 1 v40_19)) fun v41_20 =>
    M.bind (guardM v32_12 true (cl 160 [v37_16, v41_20])) fun v42_21 =>
    M.bind (pck v32_12 v42_21 (Value.bool false)) fun v43_22 =>
    condV v43_22 (
      M.bind (binI .add x10_11 (Value.int .i64 1)) fun v45_23 =>
      again_11 [x0_11, x1_11, v45_23, x11_11]
    ) (
      loopV (fun again_24 vs_24 =>
        let x0_24 := mk [0, 1, 10, 11] vs_24 0
        let x1_24 := mk [0, 1, 10, 11] vs_24 1
        let x10_24 := mk [0, 1, 10, 11] vs_24 10
        let x11_24 := mk [0, 1, 10, 11] vs_24 11
        M.bind (binI .leq x10_24 x11_24) fun v48_25 =>
        M.bind (guardM v48_25 true (M.pure x0_24)) fun v50_26 =>
        M.bind (guardM v48_25 true (M.pure x11_24)) fun v51_27 =>
        M.bind (guardM v48_25 true (idxS 1 v50_26 v51_27)) fun v52_28 =>
        M.bind (guardM v48_25 true (ld false 1 v52_28)) fun v53_29 =>
        M.bind (guardM v48_25 true (M.pure x0_24)) fun v54_30 =>
        M.bind (guardM v48_25 true (M.pure x1_24)) fun v55_31 =>
        M.bind (guardM v48_25 true (idxS 1 v54_30 v55_31)) fun v56_32 =>
        M.bind (guardM v48_25 true (ld false 1 v56_32)) fun v57_33 =>
        M.bind (guardM v48_25 true (cl 160 [v53_29, v57_33])) fun v58_34 =>
        M.bind (guardM v48_25 true (un .not v58_34)) fun v59_35 =>
        M.bind (pck v48_25 v59_35 (Value.bool false)) fun v60_36 =>
        condV v60_36 (
          M.bind (binI .sub x11_24 (Value.int .i64 1)) fun v62_37 =>
          again_24 [x0_24, x1_24, x10_24, v62_37]
        ) (
          M.bind (binI .gtr x10_24 x11_24) fun v65_38 =>
          condV v65_38 (
            M.bind (idxS 1 x0_24 x1_24) fun v72_39 =>
            M.bind (ld false 1 v72_39) fun v73_40 =>
            M.bind (idxS 1 x0_24 x11_24) fun v76_41 =>
            M.bind (ld false 1 v76_41) fun v77_42 =>
            M.bind (idxS 1 x0_24 x11_24) fun v78_43 =>
            M.bind (st 1 v78_43 v73_40) fun _ =>
            M.bind (idxS 1 x0_24 x1_24) fun v79_45 =>
            M.bind (st 1 v79_45 v77_42) fun _ =>
            M.pure (Value.tuple ⟨[x11_24, Value.bool true]⟩)
          ) (
            M.bind (idxS 1 x0_24 x11_24) fun v87_47 =>
            M.bind (ld false 1 v87_47) fun v88_48 =>
            M.bind (idxS 1 x0_24 x10_24) fun v91_49 =>
            M.bind (ld false 1 v91_49) fun v92_50 =>
            M.bind (idxS 1 x0_24 x10_24) fun v93_51 =>
            M.bind (st 1 v93_51 v88_48) fun _ =>
            M.bind (idxS 1 x0_24 x11_24) fun v94_53 =>
            M.bind (st 1 v94_53 v92_50) fun _ =>
            M.bind (binI .add x10_24 (Value.int .i64 1)) fun v96_55 =>
            M.bind (binI .sub x11_24 (Value.int .i64 1)) fun v98_56 =>
            loopV (fun again_57 vs_57 =>
              let x0_57 := mk [0, 1, 10, 11] vs_57 0
              let x1_57 := mk [0, 1, 10, 11] vs_57 1
              let x10_57 := mk [0, 1, 10, 11] vs_57 10
              let x11_57 := mk [0, 1, 10, 11] vs_57 11
              loopV (fun again_58 vs_58 =>
                let x0_58 := mk [0, 1, 10, 11] vs_58 0
                let x1_58 := mk [0, 1, 10, 11] vs_58 1
                let x10_58 := mk [0, 1, 10, 11] vs_58 10
                let x11_58 := mk [0, 1, 10, 11] vs_58 11
                M.bind (binI .leq x10_58 x11_58) fun v101_59 =>
                M.bind (guardM v101_59 true (M.pure x0_58)) fun v103_60 =>
                M.bind (guardM v101_59 true (M.pure x10_58)) fun v104_61 =>
                M.bind (guardM v101_59 true (idxS 1 v103_60 v104_61)) fun v105_62 =>
                M.bind (guardM v101_59 true (ld false 1 v105_62)) fun v106_63 =>
                M.bind (guardM v101_59 true (M.pure x0_58)) fun v107_64 =>
                M.bind (guardM v101_59 true (M.pure x1_58)) fun v108_65 =>
                M.bind (guardM v101_59 true (idxS 1 v107_64 v108_65)) fun v109_66 =>
                M.bind (guardM v101_59 true (ld false 1 v109_66)) fun v110_67 =>
                M.bind (guardM v101_59 true (cl 160 [v106_63, v110_67])) fun v111_68 =>
                M.bind (pck v101_59 v111_68 (Value.bool false)) fun v112_69 =>
                condV v112_69 (
                  M.bind (binI .add x10_58 (Value.int .i64 1)) fun v114_70 =>
                  again_58 [x0_58, x1_58, v114_70, x11_58]
                ) (
                  loopV (fun again_71 vs_71 =>
                    let x0_71 := mk [0, 1, 10, 11] vs_71 0
                    let x1_71 := mk [0, 1, 10, 11] vs_71 1
                    let x10_71 := mk [0, 1, 10, 11] vs_71 10
                    let x11_71 := mk [0, 1, 10, 11] vs_71 11
                    M.bind (binI .leq x10_71 x11_71) fun v117_72 =>
                    M.bind (guardM v117_72 true (M.pure x0_71)) fun v119_73 =>
                    M.bind (guardM v117_72 true (M.pure x11_71)) fun v120_74 =>
                    M.bind (guardM v117_72 true (idxS 1 v119_73 v120_74)) fun v121_75 =>
                    M.bind (guardM v117_72 true (ld false 1 v121_75)) fun v122_76 =>
                    M.bind (guardM v117_72 true (M.pure x0_71)) fun v123_77 =>
                    M.bind (guardM v117_72 true (M.pure x1_71)) fun v124_78 =>
                    M.bind (guardM v117_72 true (idxS 1 v123_77 v124_78)) fun v125_79 =>
                    M.bind (guardM v117_72 true (ld false 1 v125_79)) fun v126_80 =>
                    M.bind (guardM v117_72 true (cl 160 [v122_76, v126_80])) fun v127_81 =>
                    M.bind (guardM v117_72 true (un .not v127_81)) fun v128_82 =>
                    M.bind (pck v117_72 v128_82 (Value.bool false)) fun v129_83 =>
                    condV v129_83 (
                      M.bind (binI .sub x11_71 (Value.int .i64 1)) fun v131_84 =>
                      again_71 [x0_71, x1_71, x10_71, v131_84]
                    ) (
                      M.bind (binI .gtr x10_71 x11_71) fun v134_85 =>
                      condV v134_85 (
                        M.bind (idxS 1 x0_71 x1_71) fun v159_86 =>
                        M.bind (ld false 1 v159_86) fun v160_87 =>
                        M.bind (idxS 1 x0_71 x11_71) fun v163_88 =>
                        M.bind (ld false 1 v163_88) fun v164_89 =>
                        M.bind (idxS 1 x0_71 x11_71) fun v165_90 =>
                        M.bind (st 1 v165_90 v160_87) fun _ =>
                        M.bind (idxS 1 x0_71 x1_71) fun v166_92 =>
                        M.bind (st 1 v166_92 v164_89) fun _ =>
                        M.pure (Value.tuple ⟨[x11_71, Value.bool false]⟩)
                      ) (
                        M.bind (idxS 1 x0_71 x11_71) fun v141_94 =>
                        M.bind (ld false 1 v141_94) fun v142_95 =>
                        M.bind (idxS 1 x0_71 x10_71) fun v145_96 =>
                        M.bind (ld false 1 v145_96) fun v146_97 =>
                        M.bind (idxS 1 x0_71 x10_71) fun v147_98 =>
                        M.bind (st 1 v147_98 v142_95) fun _ =>
                        M.bind (idxS 1 x0_71 x11_71) fun v148_100 =>
                        M.bind (st 1 v148_100 v146_97) fun _ =>
                        M.bind (binI .add x10_71 (Value.int .i64 1)) fun v150_102 =>
                        M.bind (binI .sub x11_71 (Value.int .i64 1)) fun v152_103 =>
                        again_57 [x0_71, x1_71, v150_102, v152_103]
                      )
                    )
                  ) [x0_58, x1_58, x10_58, x11_58]
                )
              ) [x0_57, x1_57, x10_57, x11_57]
            ) [x0_24, x1_24, v96_55, v98_56]
          )
        )
      ) [x0_11, x1_11, x10_11, x11_11]
    )
  ) [a0, a1, v27_9, v29_10]
noncomputable def b162 : Code := match Tryz.f162.body with
  | some c => c
  | none => .skip
theorem e162 (cl : CallF) (a0 : Value) (a1 : Value) (a2 : Value) (a3 : Value) : bodyK Tryz.prog cl ann 162 Tryz.f162 b162 [a0, a1, a2, a3] = s162 cl a0 a1 a2 a3 := by kernel_rfl
theorem d162 {X : Exts} (hX : X 162 = none) (n : Nat) (a0 : Value) (a1 : Value) (a2 : Value) (a3 : Value) (H : Heap) : func Tryz.prog X ann (n + 1) 162 [a0, a1, a2, a3] H = s162 (callF Tryz.prog X ann n) a0 a1 a2 a3 n H :=
  (func_succ hX (by kernel_rfl) (by kernel_rfl : Tryz.f162.body = some b162) n (by rfl) H).trans (congrFun (congrFun (e162 _ a0 a1 a2 a3) n) H)

/- function 163 -/
noncomputable def s163 (cl : CallF) (a0 : Value) : M Value :=
  M.bind (binI .geq a0 (Value.int .u32 65536)) fun v4_1 =>
  let j_2 := fun (y0_2 : Value) (y2_2 : Value) =>
    M.bind (binI .geq y0_2 (Value.int .u32 256)) fun v8_3 =>
    let j_4 := fun (y0_4 : Value) (y2_4 : Value) =>
      M.bind (cvt .u8 y0_4) fun v15_5 =>
      M.bind (idxB (Value.string ⟨#[0, 1, 2, 2, 3, 3, 3, 3, 4, 4, 4, 4, 4, 4, 4, 4, 5, 5, 5, 5, 5, 5, 5, 5, 5, 5, 5, 5, 5, 5, 5, 5, 6, 6, 6, 6, 6, 6, 6, 6, 6, 6, 6, 6, 6, 6, 6, 6, 6, 6, 6, 6, 6, 6, 6, 6, 6, 6, 6, 6, 6, 6, 6, 6, 7, 7, 7, 7, 7, 7, 7, 7, 7, 7, 7, 7, 7, 7, 7, 7, 7, 7, 7, 7, 7, 7, 7, 7, 7, 7, 7, 7, 7, 7, 7, 7, 7, 7, 7, 7, 7, 7, 7, 7, 7, 7, 7, 7, 7, 7, 7, 7, 7, 7, 7, 7, 7, 7, 7, 7, 7, 7, 7, 7, 7, 7, 7, 7, 8, 8, 8, 8, 8, 8, 8, 8, 8, 8, 8, 8, 8, 8, 8, 8, 8, 8, 8, 8, 8, 8, 8, 8, 8, 8, 8, 8, 8, 8, 8, 8, 8, 8, 8, 8, 8, 8, 8, 8, 8, 8, 8, 8, 8, 8, 8, 8, 8, 8, 8, 8, 8, 8, 8, 8, 8, 8, 8, 8, 8, 8, 8, 8, 8, 8, 8, 8, 8, 8, 8, 8, 8, 8, 8, 8, 8, 8, 8, 8, 8, 8, 8, 8, 8, 8, 8, 8, 8, 8, 8, 8, 8, 8, 8, 8, 8, 8, 8, 8, 8, 8, 8, 8, 8, 8, 8, 8, 8, 8, 8, 8, 8, 8, 8, 8, 8, 8, 8, 8, 8, 8, 8, 8, 8, 8, 8, 8]⟩) v15_5) fun v16_6 =>
      M.bind (cvt .i64 v16_6) fun v17_7 =>
      M.bind (binI .add y2_4 v17_7) fun v18_8 =>
      M.pure v18_8
    condV v8_3 (
      M.bind (binI .shr y0_2 (Value.int .u64 8)) fun v10_9 =>
      M.bind (binI .add y2_2 (Value.int .i64 8)) fun v12_10 =>
      j_4 v10_9 v12_10
    ) (
      j_4 y0_2 y2_2
    )
  condV v4_1 (
    M.bind (binI .shr a0 (Value.int .u64 16)) fun v6_11 =>
    j_2 v6_11 (Value.int .i64 16)
  ) (
    j_2 a0 (Value.int .i64 0)
  )
noncomputable def b163 : Code := match Tryz.f163.body with
  | some c => c
  | none => .skip
theorem e163 (cl : CallF) (a0 : Value) : bodyK Tryz.prog cl ann 163 Tryz.f163 b163 [a0] = s163 cl a0 := by kernel_rfl
theorem d163 {X : Exts} (hX : X 163 = none) (n : Nat) (a0 : Value) (H : Heap) : func Tryz.prog X ann (n + 1) 163 [a0] H = s163 (callF Tryz.prog X ann n) a0 n H :=
  (func_succ hX (by kernel_rfl) (by kernel_rfl : Tryz.f163.body = some b163) n (by rfl) H).trans (congrFun (congrFun (e163 _ a0) n) H)

/- function 164 -/
noncomputable def s164 (cl : CallF) (a0 : Value) : M Value :=
  M.bind (binI .geq a0 (Value.int .u64 4294967296)) fun v4_1 =>
  let j_2 := fun (y0_2 : Value) (y2_2 : Value) =>
    M.bind (binI .geq y0_2 (Value.int .u64 65536)) fun v8_3 =>
    let j_4 := fun (y0_4 : Value) (y2_4 : Value) =>
      M.bind (binI .geq y0_4 (Value.int .u64 256)) fun v14_5 =>
      let j_6 := fun (y0_6 : Value) (y2_6 : Value) =>
        M.bind (cvt .u8 y0_6) fun v21_7 =>
        M.bind (idxB (Value.string ⟨#[0, 1, 2, 2, 3, 3, 3, 3, 4, 4, 4, 4, 4, 4, 4, 4, 5, 5, 5, 5, 5, 5, 5, 5, 5, 5, 5, 5, 5, 5, 5, 5, 6, 6, 6, 6, 6, 6, 6, 6, 6, 6, 6, 6, 6, 6, 6, 6, 6, 6, 6, 6, 6, 6, 6, 6, 6, 6, 6, 6, 6, 6, 6, 6, 7, 7, 7, 7, 7, 7, 7, 7, 7, 7, 7, 7, 7, 7, 7, 7, 7, 7, 7, 7, 7, 7, 7, 7, 7, 7, 7, 7, 7, 7, 7, 7, 7, 7, 7, 7, 7, 7, 7, 7, 7, 7, 7, 7, 7, 7, 7, 7, 7, 7, 7, 7, 7, 7, 7, 7, 7, 7, 7, 7, 7, 7, 7, 7, 8, 8, 8, 8, 8, 8, 8, 8, 8, 8, 8, 8, 8, 8, 8, 8, 8, 8, 8, 8, 8, 8, 8, 8, 8, 8, 8, 8, 8, 8, 8, 8, 8, 8, 8, 8, 8, 8, 8, 8, 8, 8, 8, 8, 8, 8, 8, 8, 8, 8, 8, 8, 8, 8, 8, 8, 8, 8, 8, 8, 8, 8, 8, 8, 8, 8, 8, 8, 8, 8, 8, 8, 8, 8, 8, 8, 8, 8, 8, 8, 8, 8, 8, 8, 8, 8, 8, 8, 8, 8, 8, 8, 8, 8, 8, 8, 8, 8, 8, 8, 8, 8, 8, 8, 8, 8, 8, 8, 8, 8, 8, 8, 8, 8, 8, 8, 8, 8, 8, 8, 8, 8, 8, 8, 8, 8, 8, 8]⟩) v21_7) fun v22_8 =>
        M.bind (cvt .i64 v22_8) fun v23_9 =>
        M.bind (binI .add y2_6 v23_9) fun v24_10 =>
        M.pure v24_10
      condV v14_5 (
        M.bind (binI .shr y0_4 (Value.int .u64 8)) fun v16_11 =>
        M.bind (binI .add y2_4 (Value.int .i64 8)) fun v18_12 =>
        j_6 v16_11 v18_12
      ) (
        j_6 y0_4 y2_4
      )
    condV v8_3 (
      M.bind (binI .shr y0_2 (Value.int .u64 16)) fun v10_13 =>
      M.bind (binI .add y2_2 (Value.int .i64 16)) fun v12_14 =>
      j_4 v10_13 v12_14
    ) (
      j_4 y0_2 y2_2
    )
  condV v4_1 (
    M.bind (binI .shr a0 (Value.int .u64 32)) fun v6_15 =>
    j_2 v6_15 (Value.int .i64 32)
  ) (
    j_2 a0 (Value.int .i64 0)
  )
noncomputable def b164 : Code := match Tryz.f164.body with
  | some c => c
  | none => .skip
theorem e164 (cl : CallF) (a0 : Value) : bodyK Tryz.prog cl ann 164 Tryz.f164 b164 [a0] = s164 cl a0 := by kernel_rfl
theorem d164 {X : Exts} (hX : X 164 = none) (n : Nat) (a0 : Value) (H : Heap) : func Tryz.prog X ann (n + 1) 164 [a0] H = s164 (callF Tryz.prog X ann n) a0 n H :=
  (func_succ hX (by kernel_rfl) (by kernel_rfl : Tryz.f164.body = some b164) n (by rfl) H).trans (congrFun (congrFun (e164 _ a0) n) H)

/- function 165 -/
noncomputable def s165 (cl : CallF) (a0 : Value) (a1 : Value) : M Value :=
  M.bind (box 57 a0) fun v2_1 =>
  M.bind (box 57 a1) fun v3_2 =>
  M.bind (alloc 57 (List.replicate 64 (Value.int .u8 0))) fun v4_3 =>
  M.bind (ld true 64 v3_2) fun v7_4 =>
  loopV (fun again_5 vs_5 =>
    let x2_5 := mk [2, 4, 7, 8] vs_5 2
    let x4_5 := mk [2, 4, 7, 8] vs_5 4
    let x7_5 := mk [2, 4, 7, 8] vs_5 7
    let x8_5 := mk [2, 4, 7, 8] vs_5 8
    M.bind (binI .lss x8_5 (Value.int .i64 64)) fun v9_6 =>
    condV v9_6 (
      M.bind (idxV 64 1 false x7_5 x8_5) fun v11_7 =>
      M.bind (idxP 64 1 x2_5 x8_5) fun v13_8 =>
      M.bind (ld false 1 v13_8) fun v14_9 =>
      M.bind (binI .xor v14_9 v11_7) fun v16_10 =>
      M.bind (idxP 64 1 x2_5 x8_5) fun v17_11 =>
      M.bind (st 1 v17_11 v16_10) fun _ =>
      M.bind (binI .add x8_5 (Value.int .i64 1)) fun v18_13 =>
      again_5 [x2_5, x4_5, x7_5, v18_13]
    ) (
      M.bind (ld true 64 x2_5) fun v19_14 =>
      M.bind (st 64 x4_5 v19_14) fun _ =>
      M.bind (ld true 64 x4_5) fun r_16 =>
      M.pure r_16
    )
  ) [v2_1, v4_3, v7_4, Value.int .i64 0]
noncomputable def b165 : Code := match Tryz.f165.body with
  | some c => c
  | none => .skip
theorem e165 (cl : CallF) (a0 : Value) (a1 : Value) : bodyK Tryz.prog cl ann 165 Tryz.f165 b165 [a0, a1] = s165 cl a0 a1 := by kernel_rfl
theorem d165 {X : Exts} (hX : X 165 = none) (n : Nat) (a0 : Value) (a1 : Value) (H : Heap) : func Tryz.prog X ann (n + 1) 165 [a0, a1] H = s165 (callF Tryz.prog X ann n) a0 a1 n H :=
  (func_succ hX (by kernel_rfl) (by kernel_rfl : Tryz.f165.body = some b165) n (by rfl) H).trans (congrFun (congrFun (e165 _ a0 a1) n) H)

/- function 180 -/
noncomputable def s180 (cl : CallF) (a0 : Value) : M Value :=
  M.bind (cl 112 [a0, Value.int .i64 0, Value.int .i64 63]) fun v5_1 =>
  M.bind (un .not v5_1) fun v6_2 =>
  condV v6_2 (
    M.pure (Value.tuple ⟨[Value.int .i64 0, Value.int .i64 12]⟩)
  ) (
    M.bind (binI .add (Value.int .i64 2) a0) fun v8_3 =>
    M.pure (Value.tuple ⟨[v8_3, Value.int .i64 0]⟩)
  )
noncomputable def b180 : Code := match Tryz.f180.body with
  | some c => c
  | none => .skip
theorem e180 (cl : CallF) (a0 : Value) : bodyK Tryz.prog cl ann 180 Tryz.f180 b180 [a0] = s180 cl a0 := by kernel_rfl
theorem d180 {X : Exts} (hX : X 180 = none) (n : Nat) (a0 : Value) (H : Heap) : func Tryz.prog X ann (n + 1) 180 [a0] H = s180 (callF Tryz.prog X ann n) a0 n H :=
  (func_succ hX (by kernel_rfl) (by kernel_rfl : Tryz.f180.body = some b180) n (by rfl) H).trans (congrFun (congrFun (e180 _ a0) n) H)

/- function 181 -/
noncomputable def s181 (cl : CallF) (a0 : Value) (a1 : Value) : M Value :=
  M.bind (box 40 a0) fun v2_1 =>
  M.bind (ld true 21 v2_1) fun v5_2 =>
  M.bind (cl 86 [v5_2]) fun v6_3 =>
  M.bind (guardM v6_3 true (M.pure a1)) fun v8_4 =>
  M.bind (guardM v6_3 true (binI .geq v8_4 (Value.int .i64 0))) fun v9_5 =>
  M.bind (pck v6_3 v9_5 (Value.bool false)) fun v10_6 =>
  M.bind (guardM v10_6 true (M.pure a1)) fun v12_7 =>
  M.bind (guardM v10_6 true (fld 0 v2_1)) fun v13_8 =>
  M.bind (guardM v10_6 true (fld 0 v13_8)) fun v14_9 =>
  M.bind (guardM v10_6 true (ld false 1 v14_9)) fun v15_10 =>
  M.bind (guardM v10_6 true (binI .lss v12_7 v15_10)) fun v16_11 =>
  M.bind (pck v10_6 v16_11 (Value.bool false)) fun v17_12 =>
  M.pure v17_12
noncomputable def b181 : Code := match Tryz.f181.body with
  | some c => c
  | none => .skip
theorem e181 (cl : CallF) (a0 : Value) (a1 : Value) : bodyK Tryz.prog cl ann 181 Tryz.f181 b181 [a0, a1] = s181 cl a0 a1 := by kernel_rfl
theorem d181 {X : Exts} (hX : X 181 = none) (n : Nat) (a0 : Value) (a1 : Value) (H : Heap) : func Tryz.prog X ann (n + 1) 181 [a0, a1] H = s181 (callF Tryz.prog X ann n) a0 a1 n H :=
  (func_succ hX (by kernel_rfl) (by kernel_rfl : Tryz.f181.body = some b181) n (by rfl) H).trans (congrFun (congrFun (e181 _ a0 a1) n) H)

/- function 184 -/
noncomputable def s184 (cl : CallF) (a0 : Value) : M Value :=
  M.bind (box 40 a0) fun v1_1 =>
  M.bind (ld true 21 v1_1) fun v6_2 =>
  M.bind (cl 86 [v6_2]) fun v7_3 =>
  M.bind (un .not v7_3) fun v8_4 =>
  condV v8_4 (
    M.pure (Value.tuple ⟨[Value.int .i64 0, Value.bool false]⟩)
  ) (
    M.bind (fld 3 v1_1) fun v9_5 =>
    M.bind (ld true 16 v9_5) fun v10_6 =>
    loopV (fun again_7 vs_7 =>
      let x10_7 := mk [10, 11] vs_7 10
      let x11_7 := mk [10, 11] vs_7 11
      M.bind (binI .lss x11_7 (Value.int .i64 16)) fun v12_8 =>
      condV v12_8 (
        M.bind (idxV 16 1 false x10_7 x11_7) fun v14_9 =>
        M.bind (binI .eql v14_9 (Value.int .u8 2)) fun v16_10 =>
        condV v16_10 (
          M.pure (Value.tuple ⟨[x11_7, Value.bool true]⟩)
        ) (
          M.bind (binI .add x11_7 (Value.int .i64 1)) fun v18_11 =>
          again_7 [x10_7, v18_11]
        )
      ) (
        M.pure (Value.tuple ⟨[Value.int .i64 0, Value.bool false]⟩)
      )
    ) [v10_6, Value.int .i64 0]
  )
noncomputable def b184 : Code := match Tryz.f184.body with
  | some c => c
  | none => .skip
theorem e184 (cl : CallF) (a0 : Value) : bodyK Tryz.prog cl ann 184 Tryz.f184 b184 [a0] = s184 cl a0 := by kernel_rfl
theorem d184 {X : Exts} (hX : X 184 = none) (n : Nat) (a0 : Value) (H : Heap) : func Tryz.prog X ann (n + 1) 184 [a0] H = s184 (callF Tryz.prog X ann n) a0 n H :=
  (func_succ hX (by kernel_rfl) (by kernel_rfl : Tryz.f184.body = some b184) n (by rfl) H).trans (congrFun (congrFun (e184 _ a0) n) H)

/- function 185 -/
noncomputable def s185 (cl : CallF) (a0 : Value) : M Value :=
  M.bind (box 40 a0) fun v1_1 =>
  M.bind (ld true 21 v1_1) fun v3_2 =>
  M.bind (cl 86 [v3_2]) fun v4_3 =>
  M.bind (un .not v4_3) fun v5_4 =>
  condV v5_4 (
    M.pure (Value.int .i64 0)
  ) (
    M.bind (ld true 21 v1_1) fun v6_5 =>
    M.bind (cl 140 [v6_5, Value.int .u8 0]) fun v7_6 =>
    M.bind (binI .sub (Value.int .i64 16) v7_6) fun v8_7 =>
    M.pure v8_7
  )
noncomputable def b185 : Code := match Tryz.f185.body with
  | some c => c
  | none => .skip
theorem e185 (cl : CallF) (a0 : Value) : bodyK Tryz.prog cl ann 185 Tryz.f185 b185 [a0] = s185 cl a0 := by kernel_rfl
theorem d185 {X : Exts} (hX : X 185 = none) (n : Nat) (a0 : Value) (H : Heap) : func Tryz.prog X ann (n + 1) 185 [a0] H = s185 (callF Tryz.prog X ann n) a0 n H :=
  (func_succ hX (by kernel_rfl) (by kernel_rfl : Tryz.f185.body = some b185) n (by rfl) H).trans (congrFun (congrFun (e185 _ a0) n) H)

/- function 186 -/
noncomputable def s186 (cl : CallF) (a0 : Value) (a1 : Value) (a2 : Value) : M Value :=
  M.bind (ld false 1 a1) fun v6_1 =>
  M.bind (cl 187 [v6_1, a0]) fun v8_2 =>
  M.bind (binI .eql v8_2 (Value.int .i64 9)) fun v10_3 =>
  condV v10_3 (
    M.bind (ld false 1 a1) fun v12_5 =>
    M.bind (ld false 1 a1) fun v13_6 =>
    M.bind (nilck v13_6) fun v14_7 =>
    M.bind (fld 3 v14_7) fun v15_8 =>
    M.bind (ld true 21 v15_8) fun v16_9 =>
    M.bind (cl 150 [v16_9, a0]) fun v18_10 =>
    M.bind getH fun h_11 =>
    M.bind (chk (ld false 1 a1) v12_5 h_11) fun _ =>
    M.bind (ext 0 v18_10) fun v19_12 =>
    M.bind (ext 1 v18_10) fun v20_13 =>
    M.bind (nilck v12_5) fun v21_14 =>
    M.bind (fld 3 v21_14) fun v22_15 =>
    M.bind (st 21 v22_15 v19_12) fun _ =>
    M.bind (st 1 a2 (Value.bool true)) fun _ =>
    M.pure v8_2
  ) (
    M.pure v8_2
  )
noncomputable def b186 : Code := match Tryz.f186.body with
  | some c => c
  | none => .skip
theorem e186 (cl : CallF) (a0 : Value) (a1 : Value) (a2 : Value) : bodyK Tryz.prog cl ann 186 Tryz.f186 b186 [a0, a1, a2] = s186 cl a0 a1 a2 := by kernel_rfl
theorem d186 {X : Exts} (hX : X 186 = none) (n : Nat) (a0 : Value) (a1 : Value) (a2 : Value) (H : Heap) : func Tryz.prog X ann (n + 1) 186 [a0, a1, a2] H = s186 (callF Tryz.prog X ann n) a0 a1 a2 n H :=
  (func_succ hX (by kernel_rfl) (by kernel_rfl : Tryz.f186.body = some b186) n (by rfl) H).trans (congrFun (congrFun (e186 _ a0 a1 a2) n) H)

/- function 187 -/
noncomputable def s187 (cl : CallF) (a0 : Value) (a1 : Value) : M Value :=
  M.bind (cl 198 [a0, a1]) fun v13_1 =>
  M.bind (ext 0 v13_1) fun v14_2 =>
  M.bind (ext 1 v13_1) fun v15_3 =>
  M.bind (binI .neq v15_3 (Value.int .i64 0)) fun v17_4 =>
  condV v17_4 (
    M.pure v15_3
  ) (
    M.bind (nilck a0) fun v21_5 =>
    M.bind (fld 2 v21_5) fun v22_6 =>
    M.bind (ld false 1 v22_6) fun v23_7 =>
    M.bind (nilck a0) fun v25_8 =>
    M.bind (fld 1 v25_8) fun v26_9 =>
    M.bind (ld false 1 v26_9) fun v27_10 =>
    M.bind (nilck a0) fun v30_11 =>
    M.bind (fld 3 v30_11) fun v31_12 =>
    M.bind (ld true 21 v31_12) fun v32_13 =>
    M.bind (bld ([.int .u64 0, .int .i64 0, .int .i64 0, .int .i64 0, .int .i64 0] ++ List.replicate 16 (Value.int .u8 0) ++ [.int .i64 0, .bool false]) [(0, 1, v27_10), (1, 1, a1), (2, 21, v32_13)]) fun v33_14 =>
    M.bind (alloc 57 (List.replicate 64 (Value.int .u8 0))) fun v7_15 =>
    M.bind (cl 199 [v23_7, v33_14]) fun v34_16 =>
    M.bind (ext 0 v34_16) fun v35_17 =>
    M.bind (ext 1 v34_16) fun v36_18 =>
    M.bind (st 64 v7_15 v35_17) fun _ =>
    M.bind (nilck a0) fun v38_20 =>
    M.bind (fld 0 v38_20) fun v39_21 =>
    M.bind (ld false 1 v39_21) fun v40_22 =>
    M.bind (ld true 64 v7_15) fun v43_23 =>
    M.bind (cl 94 [v40_22, a1, v14_2, v43_23]) fun v44_24 =>
    M.bind (binI .neq v44_24 (Value.int .i64 0)) fun v46_25 =>
    condV v46_25 (
      M.pure v44_24
    ) (
      M.bind (nilck a0) fun v49_26 =>
      M.bind (fld 0 v49_26) fun v50_27 =>
      M.bind (ld false 1 v50_27) fun v51_28 =>
      M.bind (cl 98 [v51_28, a1]) fun v53_29 =>
      M.pure v53_29
    )
  )
noncomputable def b187 : Code := match Tryz.f187.body with
  | some c => c
  | none => .skip
theorem e187 (cl : CallF) (a0 : Value) (a1 : Value) : bodyK Tryz.prog cl ann 187 Tryz.f187 b187 [a0, a1] = s187 cl a0 a1 := by kernel_rfl
theorem d187 {X : Exts} (hX : X 187 = none) (n : Nat) (a0 : Value) (a1 : Value) (H : Heap) : func Tryz.prog X ann (n + 1) 187 [a0, a1] H = s187 (callF Tryz.prog X ann n) a0 a1 n H :=
  (func_succ hX (by kernel_rfl) (by kernel_rfl : Tryz.f187.body = some b187) n (by rfl) H).trans (congrFun (congrFun (e187 _ a0 a1) n) H)

/- function 188 -/
noncomputable def s188 (cl : CallF) (a0 : Value) (a1 : Value) (a2 : Value) (a3 : Value) : M Value :=
  loopV (fun again_1 vs_1 =>
    let x0_1 := mk [0, 2, 3, 8] vs_1 0
    let x2_1 := mk [0, 2, 3, 8] vs_1 2
    let x3_1 := mk [0, 2, 3, 8] vs_1 3
    let x8_1 := mk [0, 2, 3, 8] vs_1 8
    M.bind (binI .mul (Value.int .i64 2) x8_1) fun v12_3 =>
    M.bind (binI .add v12_3 (Value.int .i64 1)) fun v13_4 =>
    M.bind (binI .geq v13_4 x2_1) fun v16_5 =>
    condV v16_5 (
      M.pure (Value.tuple ⟨[]⟩)
    ) (
      M.bind (binI .add v13_4 (Value.int .i64 1)) fun v18_6 =>
      M.bind (binI .lss v18_6 x2_1) fun v20_7 =>
      M.bind (guardM v20_7 true (M.pure x0_1)) fun v22_8 =>
      M.bind (guardM v20_7 true (M.pure x3_1)) fun v23_9 =>
      M.bind (guardM v20_7 true (M.pure v13_4)) fun v24_10 =>
      M.bind (guardM v20_7 true (binI .add v23_9 v24_10)) fun v25_11 =>
      M.bind (guardM v20_7 true (idxS 1 v22_8 v25_11)) fun v26_12 =>
      M.bind (guardM v20_7 true (ld false 1 v26_12)) fun v27_13 =>
      M.bind (guardM v20_7 true (M.pure x0_1)) fun v28_14 =>
      M.bind (guardM v20_7 true (M.pure x3_1)) fun v29_15 =>
      M.bind (guardM v20_7 true (M.pure v13_4)) fun v30_16 =>
      M.bind (guardM v20_7 true (binI .add v29_15 v30_16)) fun v31_17 =>
      M.bind (guardM v20_7 true (binI .add v31_17 (Value.int .i64 1))) fun v32_18 =>
      M.bind (guardM v20_7 true (idxS 1 v28_14 v32_18)) fun v33_19 =>
      M.bind (guardM v20_7 true (ld false 1 v33_19)) fun v34_20 =>
      M.bind (guardM v20_7 true (cl 160 [v27_13, v34_20])) fun v35_21 =>
      M.bind (pck v20_7 v35_21 (Value.bool false)) fun v36_22 =>
      let j_23 := fun (y0_23 : Value) (y2_23 : Value) (y3_23 : Value) (y8_23 : Value) (y9_23 : Value) =>
        M.bind (binI .add y3_23 y8_23) fun v42_24 =>
        M.bind (idxS 1 y0_23 v42_24) fun v43_25 =>
        M.bind (ld false 1 v43_25) fun v44_26 =>
        M.bind (binI .add y3_23 y9_23) fun v48_27 =>
        M.bind (idxS 1 y0_23 v48_27) fun v49_28 =>
        M.bind (ld false 1 v49_28) fun v50_29 =>
        M.bind (cl 160 [v44_26, v50_29]) fun v51_30 =>
        M.bind (un .not v51_30) fun v52_31 =>
        condV v52_31 (
          M.pure (Value.tuple ⟨[]⟩)
        ) (
          M.bind (binI .add y3_23 y8_23) fun v56_32 =>
          M.bind (binI .add y3_23 y9_23) fun v60_33 =>
          M.bind (binI .add y3_23 y9_23) fun v64_34 =>
          M.bind (idxS 1 y0_23 v64_34) fun v65_35 =>
          M.bind (ld false 1 v65_35) fun v66_36 =>
          M.bind (binI .add y3_23 y8_23) fun v70_37 =>
          M.bind (idxS 1 y0_23 v70_37) fun v71_38 =>
          M.bind (ld false 1 v71_38) fun v72_39 =>
          M.bind (idxS 1 y0_23 v56_32) fun v73_40 =>
          M.bind (st 1 v73_40 v66_36) fun _ =>
          M.bind getH fun h_42 =>
          M.bind (chk (binI .add y3_23 y9_23) v60_33 h_42) fun _ =>
          M.bind (idxS 1 y0_23 v60_33) fun v74_43 =>
          M.bind (st 1 v74_43 v72_39) fun _ =>
          again_1 [y0_23, y2_23, y3_23, y9_23]
        )
      condV v36_22 (
        M.bind (binI .add v13_4 (Value.int .i64 1)) fun v38_45 =>
        j_23 x0_1 x2_1 x3_1 x8_1 v38_45
      ) (
        j_23 x0_1 x2_1 x3_1 x8_1 v13_4
      )
    )
  ) [a0, a2, a3, a1]
noncomputable def b188 : Code := match Tryz.f188.body with
  | some c => c
  | none => .skip
theorem e188 (cl : CallF) (a0 : Value) (a1 : Value) (a2 : Value) (a3 : Value) : bodyK Tryz.prog cl ann 188 Tryz.f188 b188 [a0, a1, a2, a3] = s188 cl a0 a1 a2 a3 := by kernel_rfl
theorem d188 {X : Exts} (hX : X 188 = none) (n : Nat) (a0 : Value) (a1 : Value) (a2 : Value) (a3 : Value) (H : Heap) : func Tryz.prog X ann (n + 1) 188 [a0, a1, a2, a3] H = s188 (callF Tryz.prog X ann n) a0 a1 a2 a3 n H :=
  (func_succ hX (by kernel_rfl) (by kernel_rfl : Tryz.f188.body = some b188) n (by rfl) H).trans (congrFun (congrFun (e188 _ a0 a1 a2 a3) n) H)

/- function 189 -/
noncomputable def s189 (cl : CallF) (a0 : Value) : M Value :=
  M.bind (cvt .u64 a0) fun v4_1 =>
  M.bind (cl 107 [v4_1]) fun v5_2 =>
  M.bind (binI .shl (Value.int .u64 1) v5_2) fun v6_3 =>
  M.pure v6_3
noncomputable def b189 : Code := match Tryz.f189.body with
  | some c => c
  | none => .skip
theorem e189 (cl : CallF) (a0 : Value) : bodyK Tryz.prog cl ann 189 Tryz.f189 b189 [a0] = s189 cl a0 := by kernel_rfl
theorem d189 {X : Exts} (hX : X 189 = none) (n : Nat) (a0 : Value) (H : Heap) : func Tryz.prog X ann (n + 1) 189 [a0] H = s189 (callF Tryz.prog X ann n) a0 n H :=
  (func_succ hX (by kernel_rfl) (by kernel_rfl : Tryz.f189.body = some b189) n (by rfl) H).trans (congrFun (congrFun (e189 _ a0) n) H)

/- function 190 -/
noncomputable def s190 (cl : CallF) (a0 : Value) : M Value :=
  M.bind (nilck a0) fun v4_1 =>
  M.bind (ld false 1 v4_1) fun v5_2 =>
  M.bind (nilck a0) fun v7_3 =>
  M.bind (ld false 1 v7_3) fun v8_4 =>
  M.bind (binI .shl v8_4 (Value.int .u64 13)) fun v9_5 =>
  M.bind (binI .xor v5_2 v9_5) fun v10_6 =>
  M.bind (nilck a0) fun v11_7 =>
  M.bind (st 1 v11_7 v10_6) fun _ =>
  M.bind (nilck a0) fun v13_9 =>
  M.bind (ld false 1 v13_9) fun v14_10 =>
  M.bind (nilck a0) fun v16_11 =>
  M.bind (ld false 1 v16_11) fun v17_12 =>
  M.bind (binI .shr v17_12 (Value.int .u64 7)) fun v18_13 =>
  M.bind (binI .xor v14_10 v18_13) fun v19_14 =>
  M.bind (nilck a0) fun v20_15 =>
  M.bind (st 1 v20_15 v19_14) fun _ =>
  M.bind (nilck a0) fun v22_17 =>
  M.bind (ld false 1 v22_17) fun v23_18 =>
  M.bind (nilck a0) fun v25_19 =>
  M.bind (ld false 1 v25_19) fun v26_20 =>
  M.bind (binI .shl v26_20 (Value.int .u64 17)) fun v27_21 =>
  M.bind (binI .xor v23_18 v27_21) fun v28_22 =>
  M.bind (nilck a0) fun v29_23 =>
  M.bind (st 1 v29_23 v28_22) fun _ =>
  M.bind (nilck a0) fun v31_25 =>
  M.bind (ld false 1 v31_25) fun v32_26 =>
  M.pure v32_26
noncomputable def b190 : Code := match Tryz.f190.body with
  | some c => c
  | none => .skip
theorem e190 (cl : CallF) (a0 : Value) : bodyK Tryz.prog cl ann 190 Tryz.f190 b190 [a0] = s190 cl a0 := by kernel_rfl
theorem d190 {X : Exts} (hX : X 190 = none) (n : Nat) (a0 : Value) (H : Heap) : func Tryz.prog X ann (n + 1) 190 [a0] H = s190 (callF Tryz.prog X ann n) a0 n H :=
  (func_succ hX (by kernel_rfl) (by kernel_rfl : Tryz.f190.body = some b190) n (by rfl) H).trans (congrFun (congrFun (e190 _ a0) n) H)

/- function 191 -/
noncomputable def s191 (cl : CallF) (a0 : Value) (a1 : Value) (a2 : Value) : M Value :=
  M.bind (binI .sub a1 (Value.int .i64 1)) fun v9_1 =>
  M.bind (binI .add a1 (Value.int .i64 1)) fun v12_2 =>
  M.bind (cl 192 [a0, v9_1, a1, v12_2, a2]) fun v14_3 =>
  M.pure v14_3
noncomputable def b191 : Code := match Tryz.f191.body with
  | some c => c
  | none => .skip
theorem e191 (cl : CallF) (a0 : Value) (a1 : Value) (a2 : Value) : bodyK Tryz.prog cl ann 191 Tryz.f191 b191 [a0, a1, a2] = s191 cl a0 a1 a2 := by kernel_rfl
theorem d191 {X : Exts} (hX : X 191 = none) (n : Nat) (a0 : Value) (a1 : Value) (a2 : Value) (H : Heap) : func Tryz.prog X ann (n + 1) 191 [a0, a1, a2] H = s191 (callF Tryz.prog X ann n) a0 a1 a2 n H :=
  (func_succ hX (by kernel_rfl) (by kernel_rfl : Tryz.f191.body = some b191) n (by rfl) H).trans (congrFun (congrFun (e191 _ a0 a1 a2) n) H)

/- function 192 -/
noncomputable def s192 (cl : CallF) (a0 : Value) (a1 : Value) (a2 : Value) (a3 : Value) (a4 : Value) : M Value :=
  M.bind (cl 200 [a0, a1, a2, a4]) fun v16_1 =>
  M.bind (ext 0 v16_1) fun v17_2 =>
  M.bind (ext 1 v16_1) fun v18_3 =>
  M.bind (cl 200 [a0, v18_3, a3, a4]) fun v24_4 =>
  M.bind (ext 0 v24_4) fun v25_5 =>
  M.bind (ext 1 v24_4) fun v26_6 =>
  M.bind (cl 200 [a0, v17_2, v25_5, a4]) fun v32_7 =>
  M.bind (ext 0 v32_7) fun v33_8 =>
  M.bind (ext 1 v32_7) fun v34_9 =>
  M.pure v34_9
noncomputable def b192 : Code := match Tryz.f192.body with
  | some c => c
  | none => .skip
theorem e192 (cl : CallF) (a0 : Value) (a1 : Value) (a2 : Value) (a3 : Value) (a4 : Value) : bodyK Tryz.prog cl ann 192 Tryz.f192 b192 [a0, a1, a2, a3, a4] = s192 cl a0 a1 a2 a3 a4 := by kernel_rfl
theorem d192 {X : Exts} (hX : X 192 = none) (n : Nat) (a0 : Value) (a1 : Value) (a2 : Value) (a3 : Value) (a4 : Value) (H : Heap) : func Tryz.prog X ann (n + 1) 192 [a0, a1, a2, a3, a4] H = s192 (callF Tryz.prog X ann n) a0 a1 a2 a3 a4 n H :=
  (func_succ hX (by kernel_rfl) (by kernel_rfl : Tryz.f192.body = some b192) n (by rfl) H).trans (congrFun (congrFun (e192 _ a0 a1 a2 a3 a4) n) H)

/- function 193 -/
noncomputable def s193 (cl : CallF) (a0 : Value) : M Value :=
  M.bind (binI .neq a0 a0) fun v5_1 =>
  M.pure v5_1
noncomputable def b193 : Code := match Tryz.f193.body with
  | some c => c
  | none => .skip
theorem e193 (cl : CallF) (a0 : Value) : bodyK Tryz.prog cl ann 193 Tryz.f193 b193 [a0] = s193 cl a0 := by kernel_rfl
theorem d193 {X : Exts} (hX : X 193 = none) (n : Nat) (a0 : Value) (H : Heap) : func Tryz.prog X ann (n + 1) 193 [a0] H = s193 (callF Tryz.prog X ann n) a0 n H :=
  (func_succ hX (by kernel_rfl) (by kernel_rfl : Tryz.f193.body = some b193) n (by rfl) H).trans (congrFun (congrFun (e193 _ a0) n) H)

/- function 198 -/
noncomputable def s198 (cl : CallF) (a0 : Value) (a1 : Value) : M Value :=
  M.bind (nilck a0) fun v11_1 =>
  M.bind (fld 0 v11_1) fun v12_2 =>
  M.bind (ld false 1 v12_2) fun v13_3 =>
  M.bind (cl 144 [v13_3, a1, Value.int .i64 0]) fun v15_4 =>
  M.bind (ext 0 v15_4) fun v16_5 =>
  M.bind (ext 1 v15_4) fun v17_6 =>
  M.bind (alloc 57 (List.replicate 64 (Value.int .u8 0))) fun v6_7 =>
  M.bind (st 64 v6_7 v16_5) fun _ =>
  M.bind (binI .neq v17_6 (Value.int .i64 0)) fun v19_9 =>
  condV v19_9 (
    M.pure (Value.tuple ⟨[Value.int .i64 0, v17_6]⟩)
  ) (
    M.bind (nilck a0) fun v23_10 =>
    M.bind (fld 0 v23_10) fun v24_11 =>
    M.bind (ld false 1 v24_11) fun v25_12 =>
    M.bind (cl 144 [v25_12, a1, Value.int .i64 1]) fun v27_13 =>
    M.bind (ext 0 v27_13) fun v28_14 =>
    M.bind (ext 1 v27_13) fun v29_15 =>
    M.bind (alloc 57 (List.replicate 64 (Value.int .u8 0))) fun v8_16 =>
    M.bind (st 64 v8_16 v28_14) fun _ =>
    M.bind (ld true 64 v6_7) fun v30_18 =>
    M.bind (ld true 64 v8_16) fun v31_19 =>
    M.bind (cl 203 [v30_18, v31_19]) fun v32_20 =>
    M.pure (Value.tuple ⟨[v32_20, v29_15]⟩)
  )
noncomputable def b198 : Code := match Tryz.f198.body with
  | some c => c
  | none => .skip
theorem e198 (cl : CallF) (a0 : Value) (a1 : Value) : bodyK Tryz.prog cl ann 198 Tryz.f198 b198 [a0, a1] = s198 cl a0 a1 := by kernel_rfl
theorem d198 {X : Exts} (hX : X 198 = none) (n : Nat) (a0 : Value) (a1 : Value) (H : Heap) : func Tryz.prog X ann (n + 1) 198 [a0, a1] H = s198 (callF Tryz.prog X ann n) a0 a1 n H :=
  (func_succ hX (by kernel_rfl) (by kernel_rfl : Tryz.f198.body = some b198) n (by rfl) H).trans (congrFun (congrFun (e198 _ a0 a1) n) H)

/- function 199 -/
noncomputable def s199 (cl : CallF) (a0 : Value) (a1 : Value) : M Value :=
  M.bind (box 231 a1) fun v3_1 =>
  M.bind (alloc 57 (List.replicate 64 (Value.int .u8 0))) fun v4_2 =>
  M.bind (cl 204 [a0]) fun v7_3 =>
  M.bind (un .not v7_3) fun v8_4 =>
  M.bind (guardM v8_4 false (ld true 23 v3_1)) fun v10_5 =>
  M.bind (guardM v8_4 false (cl 205 [v10_5])) fun v11_6 =>
  M.bind (guardM v8_4 false (un .not v11_6)) fun v12_7 =>
  M.bind (pck v8_4 (Value.bool true) v12_7) fun v13_8 =>
  condV v13_8 (
    M.bind (bld (List.replicate 64 (Value.int .u8 0)) []) fun v14_9 =>
    M.bind (st 64 v4_2 v14_9) fun _ =>
    M.bind (ld true 64 v4_2) fun r_11 =>
    M.pure (Value.tuple ⟨[r_11, Value.int .i64 2]⟩)
  ) (
    M.bind (ld true 23 v3_1) fun v16_12 =>
    M.bind (cl 207 [v16_12]) fun v17_13 =>
    M.bind (cl 206 [a0, v17_13]) fun v18_14 =>
    M.bind (ext 0 v18_14) fun v19_15 =>
    M.bind (ext 1 v18_14) fun v20_16 =>
    M.bind (st 64 v4_2 v19_15) fun _ =>
    M.bind (ld true 64 v4_2) fun r_18 =>
    M.pure (Value.tuple ⟨[r_18, v20_16]⟩)
  )
noncomputable def b199 : Code := match Tryz.f199.body with
  | some c => c
  | none => .skip
theorem e199 (cl : CallF) (a0 : Value) (a1 : Value) : bodyK Tryz.prog cl ann 199 Tryz.f199 b199 [a0, a1] = s199 cl a0 a1 := by kernel_rfl
theorem d199 {X : Exts} (hX : X 199 = none) (n : Nat) (a0 : Value) (a1 : Value) (H : Heap) : func Tryz.prog X ann (n + 1) 199 [a0, a1] H = s199 (callF Tryz.prog X ann n) a0 a1 n H :=
  (func_succ hX (by kernel_rfl) (by kernel_rfl : Tryz.f199.body = some b199) n (by rfl) H).trans (congrFun (congrFun (e199 _ a0 a1) n) H)

/- function 200 -/
noncomputable def s200 (cl : CallF) (a0 : Value) (a1 : Value) (a2 : Value) (a3 : Value) : M Value :=
  M.bind (idxS 1 a0 a2) fun v12_1 =>
  M.bind (ld false 1 v12_1) fun v13_2 =>
  M.bind (idxS 1 a0 a1) fun v16_3 =>
  M.bind (ld false 1 v16_3) fun v17_4 =>
  M.bind (cl 160 [v13_2, v17_4]) fun v18_5 =>
  condV v18_5 (
    M.bind (nilck a3) fun v20_6 =>
    M.bind (ld false 1 v20_6) fun v21_7 =>
    M.bind (binI .add v21_7 (Value.int .i64 1)) fun v22_8 =>
    M.bind (nilck a3) fun v23_9 =>
    M.bind (st 1 v23_9 v22_8) fun _ =>
    M.pure (Value.tuple ⟨[a2, a1]⟩)
  ) (
    M.pure (Value.tuple ⟨[a1, a2]⟩)
  )
noncomputable def b200 : Code := match Tryz.f200.body with
  | some c => c
  | none => .skip
theorem e200 (cl : CallF) (a0 : Value) (a1 : Value) (a2 : Value) (a3 : Value) : bodyK Tryz.prog cl ann 200 Tryz.f200 b200 [a0, a1, a2, a3] = s200 cl a0 a1 a2 a3 := by kernel_rfl
theorem d200 {X : Exts} (hX : X 200 = none) (n : Nat) (a0 : Value) (a1 : Value) (a2 : Value) (a3 : Value) (H : Heap) : func Tryz.prog X ann (n + 1) 200 [a0, a1, a2, a3] H = s200 (callF Tryz.prog X ann n) a0 a1 a2 a3 n H :=
  (func_succ hX (by kernel_rfl) (by kernel_rfl : Tryz.f200.body = some b200) n (by rfl) H).trans (congrFun (congrFun (e200 _ a0 a1 a2 a3) n) H)

/- function 203 -/
noncomputable def s203 (cl : CallF) (a0 : Value) (a1 : Value) : M Value :=
  M.bind (box 57 a0) fun v2_1 =>
  M.bind (box 57 a1) fun v3_2 =>
  M.bind (ld true 64 v2_1) fun v8_3 =>
  M.bind (ld true 64 v3_2) fun v9_4 =>
  M.bind (cl 211 [v8_3, v9_4]) fun v10_5 =>
  M.bind (ext 0 v10_5) fun v11_6 =>
  M.bind (ext 1 v10_5) fun v12_7 =>
  M.bind (un .not v12_7) fun v14_8 =>
  M.bind (guardM v14_8 true (M.pure v11_6)) fun v16_9 =>
  M.bind (guardM v14_8 true (binI .eql v16_9 (Value.int .i64 0))) fun v17_10 =>
  M.bind (pck v14_8 v17_10 (Value.bool false)) fun v18_11 =>
  condV v18_11 (
    M.pure (Value.int .i64 1)
  ) (
    M.pure (Value.int .i64 0)
  )
noncomputable def b203 : Code := match Tryz.f203.body with
  | some c => c
  | none => .skip
theorem e203 (cl : CallF) (a0 : Value) (a1 : Value) : bodyK Tryz.prog cl ann 203 Tryz.f203 b203 [a0, a1] = s203 cl a0 a1 := by kernel_rfl
theorem d203 {X : Exts} (hX : X 203 = none) (n : Nat) (a0 : Value) (a1 : Value) (H : Heap) : func Tryz.prog X ann (n + 1) 203 [a0, a1] H = s203 (callF Tryz.prog X ann n) a0 a1 n H :=
  (func_succ hX (by kernel_rfl) (by kernel_rfl : Tryz.f203.body = some b203) n (by rfl) H).trans (congrFun (congrFun (e203 _ a0 a1) n) H)

/- function 204 -/
noncomputable def s204 (cl : CallF) (a0 : Value) : M Value :=
  M.bind (binI .geq a0 (Value.int .u64 1)) fun v4_1 =>
  M.bind (guardM v4_1 true (M.pure a0)) fun v6_2 =>
  M.bind (guardM v4_1 true (binI .leq v6_2 (Value.int .u64 4611686018427387904))) fun v7_3 =>
  M.bind (pck v4_1 v7_3 (Value.bool false)) fun v8_4 =>
  M.pure v8_4
noncomputable def b204 : Code := match Tryz.f204.body with
  | some c => c
  | none => .skip
theorem e204 (cl : CallF) (a0 : Value) : bodyK Tryz.prog cl ann 204 Tryz.f204 b204 [a0] = s204 cl a0 := by kernel_rfl
theorem d204 {X : Exts} (hX : X 204 = none) (n : Nat) (a0 : Value) (H : Heap) : func Tryz.prog X ann (n + 1) 204 [a0] H = s204 (callF Tryz.prog X ann n) a0 n H :=
  (func_succ hX (by kernel_rfl) (by kernel_rfl : Tryz.f204.body = some b204) n (by rfl) H).trans (congrFun (congrFun (e204 _ a0) n) H)

/- function 205 -/
noncomputable def s205 (cl : CallF) (a0 : Value) : M Value :=
  M.bind (box 231 a0) fun v1_1 =>
  M.bind (fld 0 v1_1) fun v3_2 =>
  M.bind (ld false 1 v3_2) fun v4_3 =>
  M.bind (binI .neq v4_3 (Value.int .u64 0)) fun v5_4 =>
  M.bind (guardM v5_4 true (fld 1 v1_1)) fun v7_5 =>
  M.bind (guardM v5_4 true (ld false 1 v7_5)) fun v8_6 =>
  M.bind (guardM v5_4 true (binI .geq v8_6 (Value.int .i64 0))) fun v9_7 =>
  M.bind (pck v5_4 v9_7 (Value.bool false)) fun v10_8 =>
  M.bind (guardM v10_8 true (fld 1 v1_1)) fun v12_9 =>
  M.bind (guardM v10_8 true (ld false 1 v12_9)) fun v13_10 =>
  M.bind (guardM v10_8 true (fld 2 v1_1)) fun v14_11 =>
  M.bind (guardM v10_8 true (fld 0 v14_11)) fun v15_12 =>
  M.bind (guardM v10_8 true (fld 0 v15_12)) fun v16_13 =>
  M.bind (guardM v10_8 true (ld false 1 v16_13)) fun v17_14 =>
  M.bind (guardM v10_8 true (binI .lss v13_10 v17_14)) fun v18_15 =>
  M.bind (pck v10_8 v18_15 (Value.bool false)) fun v19_16 =>
  M.bind (guardM v19_16 true (fld 2 v1_1)) fun v21_17 =>
  M.bind (guardM v19_16 true (ld true 21 v21_17)) fun v22_18 =>
  M.bind (guardM v19_16 true (cl 212 [v22_18])) fun v23_19 =>
  M.bind (pck v19_16 v23_19 (Value.bool false)) fun v24_20 =>
  M.pure v24_20
noncomputable def b205 : Code := match Tryz.f205.body with
  | some c => c
  | none => .skip
theorem e205 (cl : CallF) (a0 : Value) : bodyK Tryz.prog cl ann 205 Tryz.f205 b205 [a0] = s205 cl a0 := by kernel_rfl
theorem d205 {X : Exts} (hX : X 205 = none) (n : Nat) (a0 : Value) (H : Heap) : func Tryz.prog X ann (n + 1) 205 [a0] H = s205 (callF Tryz.prog X ann n) a0 n H :=
  (func_succ hX (by kernel_rfl) (by kernel_rfl : Tryz.f205.body = some b205) n (by rfl) H).trans (congrFun (congrFun (e205 _ a0) n) H)

/- function 206 -/
noncomputable def s206 (cl : CallF) (a0 : Value) (a1 : Value) : M Value :=
  M.bind (alloc 57 (List.replicate 64 (Value.int .u8 0))) fun v4_1 =>
  M.bind (binI .eql a0 (Value.int .u64 0)) fun v12_2 =>
  condV v12_2 (
    M.bind (ld true 64 v4_1) fun v13_3 =>
    M.bind (st 64 v4_1 v13_3) fun _ =>
    M.bind (ld true 64 v4_1) fun r_5 =>
    M.pure (Value.tuple ⟨[r_5, Value.int .i64 2]⟩)
  ) (
    M.bind (lenL a1) fun v16_6 =>
    M.bind (binI .gtr v16_6 (Value.int .i64 44)) fun v17_7 =>
    condV v17_7 (
      M.bind (ld true 64 v4_1) fun v18_8 =>
      M.bind (st 64 v4_1 v18_8) fun _ =>
      M.bind (ld true 64 v4_1) fun r_10 =>
      M.pure (Value.tuple ⟨[r_10, Value.int .i64 3]⟩)
    ) (
      M.bind (cl 213 [a0, Value.int .i64 8]) fun v21_11 =>
      M.bind (ext 0 v21_11) fun v22_12 =>
      M.bind (ext 1 v21_11) fun v23_13 =>
      M.bind (slcA 64 1 v4_1 none (some (Value.int .i64 8)) none) fun v24_14 =>
      M.bind (cpy 1 v24_14 v22_12) fun v26_15 =>
      M.bind (slcA 64 1 v4_1 (some (Value.int .i64 8)) (some (Value.int .i64 52)) (some (Value.int .i64 52))) fun v27_16 =>
      M.bind (cpy 1 v27_16 a1) fun v29_17 =>
      M.bind (slcA 64 1 v4_1 none (some (Value.int .i64 52)) (some (Value.int .i64 52))) fun v31_18 =>
      M.bind (cl 214 [v31_18]) fun v32_19 =>
      M.bind (cvt .u64 v32_19) fun v33_20 =>
      M.bind (cl 213 [v33_20, Value.int .i64 4]) fun v34_21 =>
      M.bind (ext 0 v34_21) fun v35_22 =>
      M.bind (ext 1 v34_21) fun v36_23 =>
      M.bind (slcA 64 1 v4_1 (some (Value.int .i64 52)) (some (Value.int .i64 56)) (some (Value.int .i64 56))) fun v37_24 =>
      M.bind (cpy 1 v37_24 v35_22) fun v39_25 =>
      M.bind (slcA 64 1 v4_1 (some (Value.int .i64 56)) none none) fun v40_26 =>
      M.bind (cpy 1 v40_26 v22_12) fun v42_27 =>
      M.bind (ld true 64 v4_1) fun v43_28 =>
      M.bind (st 64 v4_1 v43_28) fun _ =>
      M.bind (ld true 64 v4_1) fun r_30 =>
      M.pure (Value.tuple ⟨[r_30, Value.int .i64 0]⟩)
    )
  )
noncomputable def b206 : Code := match Tryz.f206.body with
  | some c => c
  | none => .skip
theorem e206 (cl : CallF) (a0 : Value) (a1 : Value) : bodyK Tryz.prog cl ann 206 Tryz.f206 b206 [a0, a1] = s206 cl a0 a1 := by kernel_rfl
theorem d206 {X : Exts} (hX : X 206 = none) (n : Nat) (a0 : Value) (a1 : Value) (H : Heap) : func Tryz.prog X ann (n + 1) 206 [a0, a1] H = s206 (callF Tryz.prog X ann n) a0 a1 n H :=
  (func_succ hX (by kernel_rfl) (by kernel_rfl : Tryz.f206.body = some b206) n (by rfl) H).trans (congrFun (congrFun (e206 _ a0 a1) n) H)

end Go.Am
