/- Functions of the program, told shallowly: by program (tab.py). -/
import Derived.Test.YtcagogdllnlihaaGreatAmP
set_option linter.all false
namespace Go.Am
open Go.Proofs
set_option linter.unusedVariables false
/- function 211 -/
noncomputable def s211 (cl : CallF) (a0 : Value) (a1 : Value) : M Value :=
  M.bind (box 57 a0) fun v2_1 =>
  M.bind (box 57 a1) fun v3_2 =>
  M.bind (ld true 64 v2_1) fun v13_3 =>
  M.bind (cl 223 [v13_3]) fun v14_4 =>
  M.bind (ext 0 v14_4) fun v15_5 =>
  M.bind (ext 1 v14_4) fun v16_6 =>
  M.bind (ext 2 v14_4) fun v17_7 =>
  M.bind (alloc 231 ([.int .u64 0, .int .i64 0, .int .i64 0, .int .i64 0, .int .i64 0] ++ List.replicate 16 (Value.int .u8 0) ++ [.int .i64 0, .bool false])) fun v7_8 =>
  M.bind (st 23 v7_8 v16_6) fun _ =>
  M.bind (ld true 64 v3_2) fun v19_10 =>
  M.bind (cl 223 [v19_10]) fun v20_11 =>
  M.bind (ext 0 v20_11) fun v21_12 =>
  M.bind (ext 1 v20_11) fun v22_13 =>
  M.bind (ext 2 v20_11) fun v23_14 =>
  M.bind (alloc 231 ([.int .u64 0, .int .i64 0, .int .i64 0, .int .i64 0, .int .i64 0] ++ List.replicate 16 (Value.int .u8 0) ++ [.int .i64 0, .bool false])) fun v10_15 =>
  M.bind (st 23 v10_15 v22_13) fun _ =>
  M.bind (binI .neq v17_7 (Value.int .i64 0)) fun v26_18 =>
  M.bind (guardM v26_18 true (M.pure v23_14)) fun v28_19 =>
  M.bind (guardM v26_18 true (binI .neq v28_19 (Value.int .i64 0))) fun v29_20 =>
  M.bind (pck v26_18 v29_20 (Value.bool false)) fun v30_21 =>
  condV v30_21 (
    M.pure (Value.tuple ⟨[Value.int .i64 0, Value.bool true]⟩)
  ) (
    M.bind (binI .neq v17_7 (Value.int .i64 0)) fun v33_23 =>
    let j_24 := fun (y31_24 : Value) =>
      condV y31_24 (
        M.pure (Value.tuple ⟨[Value.int .i64 1, Value.bool false]⟩)
      ) (
        M.pure (Value.tuple ⟨[Value.int .i64 0, Value.bool false]⟩)
      )
    condV v33_23 (
      j_24 v33_23
    ) (
      M.bind (binI .eql v23_14 (Value.int .i64 0)) fun v35_25 =>
      M.bind (guardM v35_25 true (M.pure v21_12)) fun v37_26 =>
      M.bind (guardM v35_25 true (M.pure v15_5)) fun v38_27 =>
      M.bind (guardM v35_25 true (binI .gtr v37_26 v38_27)) fun v39_28 =>
      M.bind (pck v35_25 v39_28 (Value.bool false)) fun v40_29 =>
      j_24 v40_29
    )
  )
noncomputable def b211 : Code := match Tryz.f211.body with
  | some c => c
  | none => .skip
theorem e211 (cl : CallF) (a0 : Value) (a1 : Value) : bodyK Tryz.prog cl ann 211 Tryz.f211 b211 [a0, a1] = s211 cl a0 a1 := by kernel_rfl
theorem d211 {X : Exts} (hX : X 211 = none) (n : Nat) (a0 : Value) (a1 : Value) (H : Heap) : func Tryz.prog X ann (n + 1) 211 [a0, a1] H = s211 (callF Tryz.prog X ann n) a0 a1 n H :=
  (func_succ hX (by kernel_rfl) (by kernel_rfl : Tryz.f211.body = some b211) n (by rfl) H).trans (congrFun (congrFun (e211 _ a0 a1) n) H)

/- function 212 -/
noncomputable def s212 (cl : CallF) (a0 : Value) : M Value :=
  M.bind (box 40 a0) fun v1_1 =>
  M.bind (fld 0 v1_1) fun v6_2 =>
  M.bind (ld true 3 v6_2) fun v7_3 =>
  M.bind (cl 54 [v7_3]) fun v8_4 =>
  M.bind (un .not v8_4) fun v9_5 =>
  condV v9_5 (
    M.pure (Value.bool false)
  ) (
    M.bind (fld 3 v1_1) fun v10_6 =>
    M.bind (ld true 16 v10_6) fun v11_7 =>
    loopV (fun again_8 vs_8 =>
      let x1_8 := mk [1, 3, 11, 12] vs_8 1
      let x3_8 := mk [1, 3, 11, 12] vs_8 3
      let x11_8 := mk [1, 3, 11, 12] vs_8 11
      let x12_8 := mk [1, 3, 11, 12] vs_8 12
      M.bind (binI .lss x12_8 (Value.int .i64 16)) fun v13_9 =>
      condV v13_9 (
        let j_10 := fun (y1_10 : Value) (y3_10 : Value) (y11_10 : Value) (y12_10 : Value) =>
          M.bind (binI .add y12_10 (Value.int .i64 1)) fun v33_11 =>
          again_8 [y1_10, y3_10, y11_10, v33_11]
        M.bind (idxV 16 1 false x11_8 x12_8) fun v15_12 =>
        M.bind (binI .gtr v15_12 (Value.int .u8 2)) fun v18_14 =>
        let j_15 := fun (y1_15 : Value) (y3_15 : Value) (y5_15 : Value) (y11_15 : Value) (y12_15 : Value) (y16_15 : Value) =>
          condV y16_15 (
            M.pure (Value.bool false)
          ) (
            M.bind (binI .eql y5_15 (Value.int .u8 2)) fun v30_17 =>
            condV v30_17 (
              M.bind (binI .add y3_15 (Value.int .i64 1)) fun v32_19 =>
              j_10 y1_15 v32_19 y11_15 y12_15
            ) (
              j_10 y1_15 y3_15 y11_15 y12_15
            )
          )
        condV v18_14 (
          j_15 x1_8 x3_8 v15_12 x11_8 x12_8 v18_14
        ) (
          M.bind (fld 0 x1_8) fun v20_20 =>
          M.bind (fld 0 v20_20) fun v21_21 =>
          M.bind (ld false 1 v21_21) fun v22_22 =>
          M.bind (binI .geq x12_8 v22_22) fun v23_23 =>
          M.bind (guardM v23_23 true (M.pure v15_12)) fun v25_24 =>
          M.bind (guardM v23_23 true (binI .neq v25_24 (Value.int .u8 0))) fun v26_25 =>
          M.bind (pck v23_23 v26_25 (Value.bool false)) fun v27_26 =>
          j_15 x1_8 x3_8 v15_12 x11_8 x12_8 v27_26
        )
      ) (
        M.bind (binI .leq x3_8 (Value.int .i64 1)) fun v35_27 =>
        M.bind (guardM v35_27 true (fld 19 x1_8)) fun v37_28 =>
        M.bind (guardM v35_27 true (ld false 1 v37_28)) fun v38_29 =>
        M.bind (guardM v35_27 true (binI .geq v38_29 (Value.int .i64 0))) fun v39_30 =>
        M.bind (pck v35_27 v39_30 (Value.bool false)) fun v40_31 =>
        M.bind (guardM v40_31 true (fld 19 x1_8)) fun v42_32 =>
        M.bind (guardM v40_31 true (ld false 1 v42_32)) fun v43_33 =>
        M.bind (guardM v40_31 true (fld 0 x1_8)) fun v44_34 =>
        M.bind (guardM v40_31 true (fld 1 v44_34)) fun v45_35 =>
        M.bind (guardM v40_31 true (ld false 1 v45_35)) fun v46_36 =>
        M.bind (guardM v40_31 true (binI .lss v43_33 v46_36)) fun v47_37 =>
        M.bind (pck v40_31 v47_37 (Value.bool false)) fun v48_38 =>
        M.bind (guardM v48_38 true (M.pure x3_8)) fun v50_39 =>
        M.bind (guardM v48_38 true (binI .eql v50_39 (Value.int .i64 1))) fun v51_40 =>
        M.bind (guardM v48_38 true (M.pure v51_40)) fun v52_41 =>
        M.bind (guardM v52_41 false (fld 19 x1_8)) fun v53_42 =>
        M.bind (guardM v52_41 false (ld false 1 v53_42)) fun v54_43 =>
        M.bind (guardM v52_41 false (binI .eql v54_43 (Value.int .i64 0))) fun v55_44 =>
        M.bind (guardM v48_38 true (pck v52_41 (Value.bool true) v55_44)) fun v56_45 =>
        M.bind (pck v48_38 v56_45 (Value.bool false)) fun v57_46 =>
        M.pure v57_46
      )
    ) [v1_1, Value.int .i64 0, v11_7, Value.int .i64 0]
  )
noncomputable def b212 : Code := match Tryz.f212.body with
  | some c => c
  | none => .skip
theorem e212 (cl : CallF) (a0 : Value) : bodyK Tryz.prog cl ann 212 Tryz.f212 b212 [a0] = s212 cl a0 := by kernel_rfl
theorem d212 {X : Exts} (hX : X 212 = none) (n : Nat) (a0 : Value) (H : Heap) : func Tryz.prog X ann (n + 1) 212 [a0] H = s212 (callF Tryz.prog X ann n) a0 n H :=
  (func_succ hX (by kernel_rfl) (by kernel_rfl : Tryz.f212.body = some b212) n (by rfl) H).trans (congrFun (congrFun (e212 _ a0) n) H)

/- function 213 -/
noncomputable def s213 (cl : CallF) (a0 : Value) (a1 : Value) : M Value :=
  M.bind (binI .lss a1 (Value.int .i64 1)) fun v9_1 =>
  M.bind (guardM v9_1 false (M.pure a1)) fun v11_2 =>
  M.bind (guardM v9_1 false (binI .gtr v11_2 (Value.int .i64 8))) fun v12_3 =>
  M.bind (pck v9_1 (Value.bool true) v12_3) fun v13_4 =>
  M.bind (guardM v13_4 false (M.pure a1)) fun v15_5 =>
  M.bind (guardM v13_4 false (binI .lss v15_5 (Value.int .i64 8))) fun v16_6 =>
  M.bind (guardM v13_4 false (M.pure v16_6)) fun v17_7 =>
  M.bind (guardM v17_7 true (M.pure a0)) fun v18_8 =>
  M.bind (guardM v17_7 true (M.pure a1)) fun v19_9 =>
  M.bind (guardM v17_7 true (binI .mul (Value.int .i64 8) v19_9)) fun v20_10 =>
  M.bind (guardM v17_7 true (binI .shr v18_8 v20_10)) fun v21_11 =>
  M.bind (guardM v17_7 true (binI .gtr v21_11 (Value.int .u64 0))) fun v22_12 =>
  M.bind (guardM v13_4 false (pck v17_7 v22_12 (Value.bool false))) fun v23_13 =>
  M.bind (pck v13_4 (Value.bool true) v23_13) fun v24_14 =>
  condV v24_14 (
    M.pure (Value.tuple ⟨[Value.slice none 0 0, Value.int .i64 2]⟩)
  ) (
    M.bind (mkSlice 5 1 1 [.int .u8 0] a1 a1) fun v26_15 =>
    loopV (fun again_16 vs_16 =>
      let x0_16 := mk [0, 6, 27, 28] vs_16 0
      let x6_16 := mk [0, 6, 27, 28] vs_16 6
      let x27_16 := mk [0, 6, 27, 28] vs_16 27
      let x28_16 := mk [0, 6, 27, 28] vs_16 28
      M.bind (binI .lss x28_16 x27_16) fun v29_17 =>
      condV v29_17 (
        M.bind (binI .mul (Value.int .i64 8) x28_16) fun v35_18 =>
        M.bind (binI .shr x0_16 v35_18) fun v36_19 =>
        M.bind (cvt .u8 v36_19) fun v37_20 =>
        M.bind (idxS 1 x6_16 x28_16) fun v38_21 =>
        M.bind (st 1 v38_21 v37_20) fun _ =>
        M.bind (binI .add x28_16 (Value.int .i64 1)) fun v39_23 =>
        again_16 [x0_16, x6_16, x27_16, v39_23]
      ) (
        M.pure (Value.tuple ⟨[x6_16, Value.int .i64 0]⟩)
      )
    ) [a0, v26_15, a1, Value.int .i64 0]
  )
noncomputable def b213 : Code := match Tryz.f213.body with
  | some c => c
  | none => .skip
theorem e213 (cl : CallF) (a0 : Value) (a1 : Value) : bodyK Tryz.prog cl ann 213 Tryz.f213 b213 [a0, a1] = s213 cl a0 a1 := by kernel_rfl
theorem d213 {X : Exts} (hX : X 213 = none) (n : Nat) (a0 : Value) (a1 : Value) (H : Heap) : func Tryz.prog X ann (n + 1) 213 [a0, a1] H = s213 (callF Tryz.prog X ann n) a0 a1 n H :=
  (func_succ hX (by kernel_rfl) (by kernel_rfl : Tryz.f213.body = some b213) n (by rfl) H).trans (congrFun (congrFun (e213 _ a0 a1) n) H)

/- function 214 -/
noncomputable def s214 (cl : CallF) (a0 : Value) : M Value :=
  M.bind (cl 224 [Value.int .u32 0, a0]) fun v4_1 =>
  M.pure v4_1
noncomputable def b214 : Code := match Tryz.f214.body with
  | some c => c
  | none => .skip
theorem e214 (cl : CallF) (a0 : Value) : bodyK Tryz.prog cl ann 214 Tryz.f214 b214 [a0] = s214 cl a0 := by kernel_rfl
theorem d214 {X : Exts} (hX : X 214 = none) (n : Nat) (a0 : Value) (H : Heap) : func Tryz.prog X ann (n + 1) 214 [a0] H = s214 (callF Tryz.prog X ann n) a0 n H :=
  (func_succ hX (by kernel_rfl) (by kernel_rfl : Tryz.f214.body = some b214) n (by rfl) H).trans (congrFun (congrFun (e214 _ a0) n) H)

/- function 223 -/
noncomputable def s223 (cl : CallF) (a0 : Value) : M Value :=
  M.bind (box 57 a0) fun v1_1 =>
  M.bind (alloc 231 ([.int .u64 0, .int .i64 0, .int .i64 0, .int .i64 0, .int .i64 0] ++ List.replicate 16 (Value.int .u8 0) ++ [.int .i64 0, .bool false])) fun v3_2 =>
  M.bind (ld true 64 v1_1) fun v15_3 =>
  M.bind (cl 235 [v15_3]) fun v16_4 =>
  M.bind (ext 0 v16_4) fun v17_5 =>
  M.bind (ext 1 v16_4) fun v18_6 =>
  M.bind (ext 2 v16_4) fun v19_7 =>
  M.bind (binI .neq v19_7 (Value.int .i64 0)) fun v21_8 =>
  condV v21_8 (
    M.bind (bld ([.int .u64 0, .int .i64 0, .int .i64 0, .int .i64 0, .int .i64 0] ++ List.replicate 16 (Value.int .u8 0) ++ [.int .i64 0, .bool false]) []) fun v22_9 =>
    M.bind (st 23 v3_2 v22_9) fun _ =>
    M.bind (ld true 23 v3_2) fun r_11 =>
    M.pure (Value.tuple ⟨[Value.int .u64 0, r_11, v19_7]⟩)
  ) (
    M.bind (bld [.slice none 0 0, .int .i64 0] [(0, 1, v18_6)]) fun v25_12 =>
    M.bind (box 259 v25_12) fun v26_13 =>
    M.bind (cl 236 [v26_13, Value.int .i64 8]) fun v28_14 =>
    M.bind (bld ([.int .u64 0, .int .i64 0, .int .i64 0, .int .i64 0, .int .i64 0] ++ List.replicate 16 (Value.int .u8 0) ++ [.int .i64 0, .bool false]) [(0, 1, v28_14)]) fun v29_15 =>
    M.bind (alloc 231 ([.int .u64 0, .int .i64 0, .int .i64 0, .int .i64 0, .int .i64 0] ++ List.replicate 16 (Value.int .u8 0) ++ [.int .i64 0, .bool false])) fun v9_16 =>
    M.bind (st 23 v9_16 v29_15) fun _ =>
    M.bind (cl 236 [v26_13, Value.int .i64 1]) fun v31_18 =>
    M.bind (cvt .i64 v31_18) fun v32_19 =>
    M.bind (cl 236 [v26_13, Value.int .i64 2]) fun v34_20 =>
    M.bind (cvt .i64 v34_20) fun v35_21 =>
    M.bind (cl 236 [v26_13, Value.int .i64 2]) fun v37_22 =>
    M.bind (cvt .i64 v37_22) fun v38_23 =>
    M.bind (bld [.int .i64 0, .int .i64 0, .int .i64 0] [(0, 1, v32_19), (1, 1, v35_21), (2, 1, v38_23)]) fun v39_24 =>
    M.bind (fld 2 v9_16) fun v40_25 =>
    M.bind (fld 0 v40_25) fun v41_26 =>
    M.bind (st 3 v41_26 v39_24) fun _ =>
    M.bind (cl 236 [v26_13, Value.int .i64 1]) fun v43_28 =>
    M.bind (cvt .i64 v43_28) fun v44_29 =>
    M.bind (fld 1 v9_16) fun v45_30 =>
    M.bind (st 1 v45_30 v44_29) fun _ =>
    M.bind (nilck v26_13) fun v48_32 =>
    M.bind (fld 0 v48_32) fun v49_33 =>
    M.bind (ld false 1 v49_33) fun v50_34 =>
    M.bind (nilck v26_13) fun v52_35 =>
    M.bind (fld 1 v52_35) fun v53_36 =>
    M.bind (ld false 1 v53_36) fun v54_37 =>
    M.bind (slcS 1 v50_34 (some v54_37) none none) fun v55_38 =>
    M.bind (cl 237 [v55_38, Value.int .i64 2, Value.int .i64 16]) fun v56_39 =>
    M.bind (ext 0 v56_39) fun v57_40 =>
    M.bind (ext 1 v56_39) fun v58_41 =>
    M.bind (fld 2 v9_16) fun v59_42 =>
    M.bind (fld 3 v59_42) fun v60_43 =>
    M.bind (slcA 16 1 v60_43 none none none) fun v61_44 =>
    M.bind (cpy 1 v61_44 v57_40) fun v63_45 =>
    M.bind (nilck v26_13) fun v65_46 =>
    M.bind (fld 1 v65_46) fun v66_47 =>
    M.bind (ld false 1 v66_47) fun v67_48 =>
    M.bind (lenL v57_40) fun v69_49 =>
    M.bind (binI .mul v69_49 (Value.int .i64 2)) fun v70_50 =>
    M.bind (binI .quo v70_50 (Value.int .i64 8)) fun v71_51 =>
    M.bind (binI .add v67_48 v71_51) fun v72_52 =>
    M.bind (nilck v26_13) fun v73_53 =>
    M.bind (fld 1 v73_53) fun v74_54 =>
    M.bind (st 1 v74_54 v72_52) fun _ =>
    M.bind (cl 236 [v26_13, Value.int .i64 2]) fun v76_56 =>
    M.bind (cvt .i64 v76_56) fun v77_57 =>
    M.bind (fld 2 v9_16) fun v78_58 =>
    M.bind (fld 19 v78_58) fun v79_59 =>
    M.bind (st 1 v79_59 v77_57) fun _ =>
    M.bind (cl 236 [v26_13, Value.int .i64 1]) fun v81_61 =>
    M.bind (binI .eql v81_61 (Value.int .u64 1)) fun v83_62 =>
    M.bind (fld 2 v9_16) fun v84_63 =>
    M.bind (fld 20 v84_63) fun v85_64 =>
    M.bind (st 1 v85_64 v83_62) fun _ =>
    M.bind (nilck v26_13) fun v87_66 =>
    M.bind (fld 0 v87_66) fun v88_67 =>
    M.bind (ld false 1 v88_67) fun v89_68 =>
    M.bind (nilck v26_13) fun v91_69 =>
    M.bind (fld 1 v91_69) fun v92_70 =>
    M.bind (ld false 1 v92_70) fun v93_71 =>
    M.bind (slcS 1 v89_68 (some v93_71) none none) fun v94_72 =>
    M.bind (cl 238 [v94_72, (Value.func (.func 239) ⟨[]⟩ ⟨[]⟩)]) fun v95_73 =>
    M.bind (cl 204 [v17_5]) fun v97_74 =>
    M.bind (un .not v97_74) fun v98_75 =>
    M.bind (guardM v98_75 false (ld true 23 v9_16)) fun v100_76 =>
    M.bind (guardM v98_75 false (cl 205 [v100_76])) fun v101_77 =>
    M.bind (guardM v98_75 false (un .not v101_77)) fun v102_78 =>
    M.bind (pck v98_75 (Value.bool true) v102_78) fun v103_79 =>
    M.bind (guardM v103_79 false (M.pure v81_61)) fun v105_80 =>
    M.bind (guardM v103_79 false (binI .gtr v105_80 (Value.int .u64 1))) fun v106_81 =>
    M.bind (pck v103_79 (Value.bool true) v106_81) fun v107_82 =>
    M.bind (guardM v107_82 false (M.pure v95_73)) fun v109_83 =>
    M.bind (pck v107_82 (Value.bool true) v109_83) fun v110_84 =>
    condV v110_84 (
      M.bind (bld ([.int .u64 0, .int .i64 0, .int .i64 0, .int .i64 0, .int .i64 0] ++ List.replicate 16 (Value.int .u8 0) ++ [.int .i64 0, .bool false]) []) fun v111_85 =>
      M.bind (st 23 v3_2 v111_85) fun _ =>
      M.bind (ld true 23 v3_2) fun r_87 =>
      M.pure (Value.tuple ⟨[Value.int .u64 0, r_87, Value.int .i64 5]⟩)
    ) (
      M.bind (ld true 23 v9_16) fun v113_88 =>
      M.bind (st 23 v3_2 v113_88) fun _ =>
      M.bind (ld true 23 v3_2) fun r_90 =>
      M.pure (Value.tuple ⟨[v17_5, r_90, Value.int .i64 0]⟩)
    )
  )
noncomputable def b223 : Code := match Tryz.f223.body with
  | some c => c
  | none => .skip
theorem e223 (cl : CallF) (a0 : Value) : bodyK Tryz.prog cl ann 223 Tryz.f223 b223 [a0] = s223 cl a0 := by kernel_rfl
theorem d223 {X : Exts} (hX : X 223 = none) (n : Nat) (a0 : Value) (H : Heap) : func Tryz.prog X ann (n + 1) 223 [a0] H = s223 (callF Tryz.prog X ann n) a0 n H :=
  (func_succ hX (by kernel_rfl) (by kernel_rfl : Tryz.f223.body = some b223) n (by rfl) H).trans (congrFun (congrFun (e223 _ a0) n) H)

/- function 224 -/
noncomputable def s224 (cl : CallF) (a0 : Value) (a1 : Value) : M Value :=
  M.bind (un .xor a0) fun v9_1 =>
  M.bind (lenL a1) fun v11_2 =>
  loopV (fun again_3 vs_3 =>
    let x5_3 := mk [5, 10, 11, 12] vs_3 5
    let x10_3 := mk [5, 10, 11, 12] vs_3 10
    let x11_3 := mk [5, 10, 11, 12] vs_3 11
    let x12_3 := mk [5, 10, 11, 12] vs_3 12
    M.bind (binI .lss x12_3 x11_3) fun v13_4 =>
    condV v13_4 (
      M.bind (idxS 1 x10_3 x12_3) fun v14_5 =>
      M.bind (ld false 1 v14_5) fun v15_6 =>
      M.bind (cl 240 [x5_3, v15_6]) fun v18_7 =>
      M.bind (binI .add x12_3 (Value.int .i64 1)) fun v19_8 =>
      again_3 [v18_7, x10_3, x11_3, v19_8]
    ) (
      M.bind (un .xor x5_3) fun v21_9 =>
      M.pure v21_9
    )
  ) [v9_1, a1, v11_2, Value.int .i64 0]
noncomputable def b224 : Code := match Tryz.f224.body with
  | some c => c
  | none => .skip
theorem e224 (cl : CallF) (a0 : Value) (a1 : Value) : bodyK Tryz.prog cl ann 224 Tryz.f224 b224 [a0, a1] = s224 cl a0 a1 := by kernel_rfl
theorem d224 {X : Exts} (hX : X 224 = none) (n : Nat) (a0 : Value) (a1 : Value) (H : Heap) : func Tryz.prog X ann (n + 1) 224 [a0, a1] H = s224 (callF Tryz.prog X ann n) a0 a1 n H :=
  (func_succ hX (by kernel_rfl) (by kernel_rfl : Tryz.f224.body = some b224) n (by rfl) H).trans (congrFun (congrFun (e224 _ a0 a1) n) H)

/- function 225 -/
noncomputable def s225 (cl : CallF) (a0 : Value) : M Value :=
  M.bind (binI .geq a0 (Value.int .i64 1)) fun v4_1 =>
  M.bind (guardM v4_1 true (M.pure a0)) fun v6_2 =>
  M.bind (guardM v4_1 true (binI .leq v6_2 (Value.int .i64 8))) fun v7_3 =>
  M.bind (pck v4_1 v7_3 (Value.bool false)) fun v8_4 =>
  M.pure v8_4
noncomputable def b225 : Code := match Tryz.f225.body with
  | some c => c
  | none => .skip
theorem e225 (cl : CallF) (a0 : Value) : bodyK Tryz.prog cl ann 225 Tryz.f225 b225 [a0] = s225 cl a0 := by kernel_rfl
theorem d225 {X : Exts} (hX : X 225 = none) (n : Nat) (a0 : Value) (H : Heap) : func Tryz.prog X ann (n + 1) 225 [a0] H = s225 (callF Tryz.prog X ann n) a0 n H :=
  (func_succ hX (by kernel_rfl) (by kernel_rfl : Tryz.f225.body = some b225) n (by rfl) H).trans (congrFun (congrFun (e225 _ a0) n) H)

/- function 235 -/
noncomputable def s235 (cl : CallF) (a0 : Value) : M Value :=
  M.bind (box 57 a0) fun v1_1 =>
  M.bind (slcA 64 1 v1_1 none none none) fun v12_2 =>
  M.bind (cl 242 [v12_2, Value.int .i64 0, Value.int .i64 8]) fun v13_3 =>
  M.bind (ext 0 v13_3) fun v14_4 =>
  M.bind (ext 1 v13_3) fun v15_5 =>
  M.bind (slcA 64 1 v1_1 none none none) fun v17_6 =>
  M.bind (cl 242 [v17_6, Value.int .i64 56, Value.int .i64 8]) fun v18_7 =>
  M.bind (ext 0 v18_7) fun v19_8 =>
  M.bind (ext 1 v18_7) fun v20_9 =>
  M.bind (binI .eql v14_4 (Value.int .u64 0)) fun v22_10 =>
  M.bind (guardM v22_10 false (M.pure v14_4)) fun v24_11 =>
  M.bind (guardM v22_10 false (M.pure v19_8)) fun v25_12 =>
  M.bind (guardM v22_10 false (binI .neq v24_11 v25_12)) fun v26_13 =>
  M.bind (pck v22_10 (Value.bool true) v26_13) fun v27_14 =>
  condV v27_14 (
    M.pure (Value.tuple ⟨[Value.int .u64 0, Value.slice none 0 0, Value.int .i64 5]⟩)
  ) (
    M.bind (slcA 64 1 v1_1 none none none) fun v29_15 =>
    M.bind (cl 242 [v29_15, Value.int .i64 52, Value.int .i64 4]) fun v30_16 =>
    M.bind (ext 0 v30_16) fun v31_17 =>
    M.bind (ext 1 v30_16) fun v32_18 =>
    M.bind (slcA 64 1 v1_1 none (some (Value.int .i64 52)) (some (Value.int .i64 52))) fun v33_19 =>
    M.bind (cl 214 [v33_19]) fun v34_20 =>
    M.bind (cvt .u64 v34_20) fun v35_21 =>
    M.bind (binI .neq v35_21 v31_17) fun v37_22 =>
    condV v37_22 (
      M.pure (Value.tuple ⟨[Value.int .u64 0, Value.slice none 0 0, Value.int .i64 6]⟩)
    ) (
      M.bind (slcA 64 1 v1_1 (some (Value.int .i64 8)) (some (Value.int .i64 52)) (some (Value.int .i64 52))) fun v39_23 =>
      M.bind (cl 243 [v39_23]) fun v40_24 =>
      M.pure (Value.tuple ⟨[v14_4, v40_24, Value.int .i64 0]⟩)
    )
  )
noncomputable def b235 : Code := match Tryz.f235.body with
  | some c => c
  | none => .skip
theorem e235 (cl : CallF) (a0 : Value) : bodyK Tryz.prog cl ann 235 Tryz.f235 b235 [a0] = s235 cl a0 := by kernel_rfl
theorem d235 {X : Exts} (hX : X 235 = none) (n : Nat) (a0 : Value) (H : Heap) : func Tryz.prog X ann (n + 1) 235 [a0] H = s235 (callF Tryz.prog X ann n) a0 n H :=
  (func_succ hX (by kernel_rfl) (by kernel_rfl : Tryz.f235.body = some b235) n (by rfl) H).trans (congrFun (congrFun (e235 _ a0) n) H)

/- function 236 -/
noncomputable def s236 (cl : CallF) (a0 : Value) (a1 : Value) : M Value :=
  M.bind (nilck a0) fun v9_1 =>
  M.bind (fld 0 v9_1) fun v10_2 =>
  M.bind (ld false 1 v10_2) fun v11_3 =>
  M.bind (nilck a0) fun v13_4 =>
  M.bind (fld 1 v13_4) fun v14_5 =>
  M.bind (ld false 1 v14_5) fun v15_6 =>
  M.bind (cl 242 [v11_3, v15_6, a1]) fun v17_7 =>
  M.bind (ext 0 v17_7) fun v18_8 =>
  M.bind (ext 1 v17_7) fun v19_9 =>
  M.bind (nilck a0) fun v21_10 =>
  M.bind (fld 1 v21_10) fun v22_11 =>
  M.bind (ld false 1 v22_11) fun v23_12 =>
  M.bind (binI .add v23_12 a1) fun v25_13 =>
  M.bind (nilck a0) fun v26_14 =>
  M.bind (fld 1 v26_14) fun v27_15 =>
  M.bind (st 1 v27_15 v25_13) fun _ =>
  M.pure v18_8
noncomputable def b236 : Code := match Tryz.f236.body with
  | some c => c
  | none => .skip
theorem e236 (cl : CallF) (a0 : Value) (a1 : Value) : bodyK Tryz.prog cl ann 236 Tryz.f236 b236 [a0, a1] = s236 cl a0 a1 := by kernel_rfl
theorem d236 {X : Exts} (hX : X 236 = none) (n : Nat) (a0 : Value) (a1 : Value) (H : Heap) : func Tryz.prog X ann (n + 1) 236 [a0, a1] H = s236 (callF Tryz.prog X ann n) a0 a1 n H :=
  (func_succ hX (by kernel_rfl) (by kernel_rfl : Tryz.f236.body = some b236) n (by rfl) H).trans (congrFun (congrFun (e236 _ a0 a1) n) H)

/- function 237 -/
noncomputable def s237 (cl : CallF) (a0 : Value) (a1 : Value) (a2 : Value) : M Value :=
  M.bind (cl 225 [a1]) fun v14_1 =>
  M.bind (un .not v14_1) fun v15_2 =>
  M.bind (guardM v15_2 false (M.pure a2)) fun v17_3 =>
  M.bind (guardM v15_2 false (binI .lss v17_3 (Value.int .i64 0))) fun v18_4 =>
  M.bind (pck v15_2 (Value.bool true) v18_4) fun v19_5 =>
  M.bind (guardM v19_5 false (M.pure a2)) fun v21_6 =>
  M.bind (guardM v19_5 false (binI .gtr v21_6 (Value.int .i64 1048576))) fun v22_7 =>
  M.bind (pck v19_5 (Value.bool true) v22_7) fun v23_8 =>
  condV v23_8 (
    M.pure (Value.tuple ⟨[Value.slice none 0 0, Value.int .i64 2]⟩)
  ) (
    M.bind (binI .mul a2 a1) fun v27_9 =>
    M.bind (binI .add v27_9 (Value.int .i64 8)) fun v28_10 =>
    M.bind (binI .sub v28_10 (Value.int .i64 1)) fun v29_11 =>
    M.bind (binI .quo v29_11 (Value.int .i64 8)) fun v30_12 =>
    M.bind (lenL a0) fun v32_13 =>
    M.bind (binI .gtr v30_12 v32_13) fun v33_14 =>
    condV v33_14 (
      M.pure (Value.tuple ⟨[Value.slice none 0 0, Value.int .i64 4]⟩)
    ) (
      M.bind (mkSlice 5 1 1 [.int .u8 0] a2 a2) fun v35_15 =>
      M.bind (lenL v35_15) fun v37_16 =>
      loopV (fun again_17 vs_17 =>
        let x0_17 := mk [0, 1, 8, 37, 38] vs_17 0
        let x1_17 := mk [0, 1, 8, 37, 38] vs_17 1
        let x8_17 := mk [0, 1, 8, 37, 38] vs_17 8
        let x37_17 := mk [0, 1, 8, 37, 38] vs_17 37
        let x38_17 := mk [0, 1, 8, 37, 38] vs_17 38
        M.bind (binI .lss x38_17 x37_17) fun v39_18 =>
        condV v39_18 (
          let j_19 := fun (y0_19 : Value) (y1_19 : Value) (y8_19 : Value) (y37_19 : Value) (y38_19 : Value) =>
            M.bind (binI .add y38_19 (Value.int .i64 1)) fun v77_20 =>
            again_17 [y0_19, y1_19, y8_19, y37_19, v77_20]
          M.bind (binI .mul x38_17 x1_17) fun v43_21 =>
          M.bind (binI .quo v43_21 (Value.int .i64 8)) fun v46_22 =>
          M.bind (idxS 1 x0_17 v46_22) fun v47_23 =>
          M.bind (ld false 1 v47_23) fun v48_24 =>
          M.bind (cvt .u16 v48_24) fun v49_25 =>
          M.bind (binI .rem v43_21 (Value.int .i64 8)) fun v51_26 =>
          M.bind (binI .add v51_26 x1_17) fun v53_27 =>
          M.bind (binI .gtr v53_27 (Value.int .i64 8)) fun v54_28 =>
          let j_29 := fun (y0_29 : Value) (y1_29 : Value) (y8_29 : Value) (y9_29 : Value) (y10_29 : Value) (y11_29 : Value) (y37_29 : Value) (y38_29 : Value) =>
            M.bind (binI .rem y10_29 (Value.int .i64 8)) fun v69_30 =>
            M.bind (binI .shr y11_29 v69_30) fun v70_31 =>
            M.bind (binI .shl (Value.int .u16 1) y1_29) fun v72_32 =>
            M.bind (binI .sub v72_32 (Value.int .u16 1)) fun v73_33 =>
            M.bind (binI .and v70_31 v73_33) fun v74_34 =>
            M.bind (cvt .u8 v74_34) fun v75_35 =>
            M.bind (idxS 1 y8_29 y9_29) fun v76_36 =>
            M.bind (st 1 v76_36 v75_35) fun _ =>
            j_19 y0_29 y1_29 y8_29 y37_29 y38_29
          condV v54_28 (
            M.bind (binI .quo v43_21 (Value.int .i64 8)) fun v58_38 =>
            M.bind (binI .add v58_38 (Value.int .i64 1)) fun v59_39 =>
            M.bind (idxS 1 x0_17 v59_39) fun v60_40 =>
            M.bind (ld false 1 v60_40) fun v61_41 =>
            M.bind (cvt .u16 v61_41) fun v62_42 =>
            M.bind (binI .shl v62_42 (Value.int .u64 8)) fun v63_43 =>
            M.bind (binI .or v49_25 v63_43) fun v64_44 =>
            j_29 x0_17 x1_17 x8_17 x38_17 v43_21 v64_44 x37_17 x38_17
          ) (
            j_29 x0_17 x1_17 x8_17 x38_17 v43_21 v49_25 x37_17 x38_17
          )
        ) (
          M.pure (Value.tuple ⟨[x8_17, Value.int .i64 0]⟩)
        )
      ) [a0, a1, v35_15, v37_16, Value.int .i64 0]
    )
  )
noncomputable def b237 : Code := match Tryz.f237.body with
  | some c => c
  | none => .skip
theorem e237 (cl : CallF) (a0 : Value) (a1 : Value) (a2 : Value) : bodyK Tryz.prog cl ann 237 Tryz.f237 b237 [a0, a1, a2] = s237 cl a0 a1 a2 := by kernel_rfl
theorem d237 {X : Exts} (hX : X 237 = none) (n : Nat) (a0 : Value) (a1 : Value) (a2 : Value) (H : Heap) : func Tryz.prog X ann (n + 1) 237 [a0, a1, a2] H = s237 (callF Tryz.prog X ann n) a0 a1 a2 n H :=
  (func_succ hX (by kernel_rfl) (by kernel_rfl : Tryz.f237.body = some b237) n (by rfl) H).trans (congrFun (congrFun (e237 _ a0 a1 a2) n) H)

/- function 238 -/
noncomputable def s238 (cl : CallF) (a0 : Value) (a1 : Value) : M Value :=
  M.bind (cl 244 [a0, a1]) fun v7_1 =>
  M.bind (binI .geq v7_1 (Value.int .i64 0)) fun v8_2 =>
  M.pure v8_2
noncomputable def b238 : Code := match Tryz.f238.body with
  | some c => c
  | none => .skip
theorem e238 (cl : CallF) (a0 : Value) (a1 : Value) : bodyK Tryz.prog cl ann 238 Tryz.f238 b238 [a0, a1] = s238 cl a0 a1 := by kernel_rfl
theorem d238 {X : Exts} (hX : X 238 = none) (n : Nat) (a0 : Value) (a1 : Value) (H : Heap) : func Tryz.prog X ann (n + 1) 238 [a0, a1] H = s238 (callF Tryz.prog X ann n) a0 a1 n H :=
  (func_succ hX (by kernel_rfl) (by kernel_rfl : Tryz.f238.body = some b238) n (by rfl) H).trans (congrFun (congrFun (e238 _ a0 a1) n) H)

/- function 239 -/
noncomputable def s239 (cl : CallF) (a0 : Value) : M Value :=
  M.bind (binI .neq a0 (Value.int .u8 0)) fun v4_1 =>
  M.pure v4_1
noncomputable def b239 : Code := match Tryz.f239.body with
  | some c => c
  | none => .skip
theorem e239 (cl : CallF) (a0 : Value) : bodyK Tryz.prog cl ann 239 Tryz.f239 b239 [a0] = s239 cl a0 := by kernel_rfl
theorem d239 {X : Exts} (hX : X 239 = none) (n : Nat) (a0 : Value) (H : Heap) : func Tryz.prog X ann (n + 1) 239 [a0] H = s239 (callF Tryz.prog X ann n) a0 n H :=
  (func_succ hX (by kernel_rfl) (by kernel_rfl : Tryz.f239.body = some b239) n (by rfl) H).trans (congrFun (congrFun (e239 _ a0) n) H)

/- function 240 -/
noncomputable def s240 (cl : CallF) (a0 : Value) (a1 : Value) : M Value :=
  M.bind (cl 245 []) fun v6_1 =>
  M.bind (alloc 266 (List.replicate 16 (Value.int .u32 0))) fun v5_2 =>
  M.bind (st 16 v5_2 v6_1) fun _ =>
  M.bind (cvt .u32 a1) fun v9_4 =>
  M.bind (binI .xor a0 v9_4) fun v10_5 =>
  M.bind (binI .shr v10_5 (Value.int .u64 4)) fun v12_6 =>
  M.bind (binI .and v10_5 (Value.int .u32 15)) fun v14_7 =>
  M.bind (idxP 16 1 v5_2 v14_7) fun v15_8 =>
  M.bind (ld false 1 v15_8) fun v16_9 =>
  M.bind (binI .xor v12_6 v16_9) fun v17_10 =>
  M.bind (binI .shr v17_10 (Value.int .u64 4)) fun v19_11 =>
  M.bind (binI .and v17_10 (Value.int .u32 15)) fun v21_12 =>
  M.bind (idxP 16 1 v5_2 v21_12) fun v22_13 =>
  M.bind (ld false 1 v22_13) fun v23_14 =>
  M.bind (binI .xor v19_11 v23_14) fun v24_15 =>
  M.pure v24_15
noncomputable def b240 : Code := match Tryz.f240.body with
  | some c => c
  | none => .skip
theorem e240 (cl : CallF) (a0 : Value) (a1 : Value) : bodyK Tryz.prog cl ann 240 Tryz.f240 b240 [a0, a1] = s240 cl a0 a1 := by kernel_rfl
theorem d240 {X : Exts} (hX : X 240 = none) (n : Nat) (a0 : Value) (a1 : Value) (H : Heap) : func Tryz.prog X ann (n + 1) 240 [a0, a1] H = s240 (callF Tryz.prog X ann n) a0 a1 n H :=
  (func_succ hX (by kernel_rfl) (by kernel_rfl : Tryz.f240.body = some b240) n (by rfl) H).trans (congrFun (congrFun (e240 _ a0 a1) n) H)

/- function 242 -/
noncomputable def s242 (cl : CallF) (a0 : Value) (a1 : Value) (a2 : Value) : M Value :=
  M.bind (binI .lss a2 (Value.int .i64 1)) fun v13_1 =>
  M.bind (guardM v13_1 false (M.pure a2)) fun v15_2 =>
  M.bind (guardM v13_1 false (binI .gtr v15_2 (Value.int .i64 8))) fun v16_3 =>
  M.bind (pck v13_1 (Value.bool true) v16_3) fun v17_4 =>
  M.bind (guardM v17_4 false (M.pure a1)) fun v19_5 =>
  M.bind (guardM v17_4 false (binI .lss v19_5 (Value.int .i64 0))) fun v20_6 =>
  M.bind (pck v17_4 (Value.bool true) v20_6) fun v21_7 =>
  M.bind (guardM v21_7 false (M.pure a1)) fun v23_8 =>
  M.bind (guardM v21_7 false (M.pure a0)) fun v24_9 =>
  M.bind (guardM v21_7 false (lenL v24_9)) fun v25_10 =>
  M.bind (guardM v21_7 false (binI .gtr v23_8 v25_10)) fun v26_11 =>
  M.bind (pck v21_7 (Value.bool true) v26_11) fun v27_12 =>
  condV v27_12 (
    M.pure (Value.tuple ⟨[Value.int .u64 0, Value.int .i64 2]⟩)
  ) (
    M.bind (lenL a0) fun v31_13 =>
    M.bind (binI .sub v31_13 a1) fun v33_14 =>
    M.bind (binI .gtr a2 v33_14) fun v34_15 =>
    condV v34_15 (
      M.pure (Value.tuple ⟨[Value.int .u64 0, Value.int .i64 4]⟩)
    ) (
      M.bind (binI .add a1 a2) fun v39_16 =>
      M.bind (slcS 1 a0 (some a1) (some v39_16) none) fun v40_17 =>
      M.bind (lenL v40_17) fun v41_18 =>
      loopV (fun again_19 vs_19 =>
        let x8_19 := mk [8, 40, 41, 42] vs_19 8
        let x40_19 := mk [8, 40, 41, 42] vs_19 40
        let x41_19 := mk [8, 40, 41, 42] vs_19 41
        let x42_19 := mk [8, 40, 41, 42] vs_19 42
        M.bind (binI .lss x42_19 x41_19) fun v43_20 =>
        condV v43_20 (
          M.bind (idxS 1 x40_19 x42_19) fun v45_21 =>
          M.bind (ld false 1 v45_21) fun v46_22 =>
          M.bind (cvt .u64 v46_22) fun v49_23 =>
          M.bind (binI .mul (Value.int .i64 8) x42_19) fun v51_24 =>
          M.bind (binI .shl v49_23 v51_24) fun v52_25 =>
          M.bind (binI .or x8_19 v52_25) fun v53_26 =>
          M.bind (binI .add x42_19 (Value.int .i64 1)) fun v54_27 =>
          again_19 [v53_26, x40_19, x41_19, v54_27]
        ) (
          M.pure (Value.tuple ⟨[x8_19, Value.int .i64 0]⟩)
        )
      ) [Value.int .u64 0, v40_17, v41_18, Value.int .i64 0]
    )
  )
noncomputable def b242 : Code := match Tryz.f242.body with
  | some c => c
  | none => .skip
theorem e242 (cl : CallF) (a0 : Value) (a1 : Value) (a2 : Value) : bodyK Tryz.prog cl ann 242 Tryz.f242 b242 [a0, a1, a2] = s242 cl a0 a1 a2 := by kernel_rfl
theorem d242 {X : Exts} (hX : X 242 = none) (n : Nat) (a0 : Value) (a1 : Value) (a2 : Value) (H : Heap) : func Tryz.prog X ann (n + 1) 242 [a0, a1, a2] H = s242 (callF Tryz.prog X ann n) a0 a1 a2 n H :=
  (func_succ hX (by kernel_rfl) (by kernel_rfl : Tryz.f242.body = some b242) n (by rfl) H).trans (congrFun (congrFun (e242 _ a0 a1 a2) n) H)

/- function 243 -/
noncomputable def s243 (cl : CallF) (a0 : Value) : M Value :=
  M.bind (binN .slice .eql a0 (Value.slice none 0 0)) fun v4_1 =>
  condV v4_1 (
    M.pure (Value.slice none 0 0)
  ) (
    M.bind (bldSlice 5 1 [.int .u8 0] 0 []) fun v5_2 =>
    M.bind (app 5 1 1 v5_2 a0) fun v7_3 =>
    M.pure v7_3
  )
noncomputable def b243 : Code := match Tryz.f243.body with
  | some c => c
  | none => .skip
theorem e243 (cl : CallF) (a0 : Value) : bodyK Tryz.prog cl ann 243 Tryz.f243 b243 [a0] = s243 cl a0 := by kernel_rfl
theorem d243 {X : Exts} (hX : X 243 = none) (n : Nat) (a0 : Value) (H : Heap) : func Tryz.prog X ann (n + 1) 243 [a0] H = s243 (callF Tryz.prog X ann n) a0 n H :=
  (func_succ hX (by kernel_rfl) (by kernel_rfl : Tryz.f243.body = some b243) n (by rfl) H).trans (congrFun (congrFun (e243 _ a0) n) H)

/- function 244 -/
noncomputable def s244 (cl : CallF) (a0 : Value) (a1 : Value) : M Value :=
  M.bind (lenL a0) fun v7_1 =>
  loopV (fun again_2 vs_2 =>
    let x0_2 := mk [0, 1, 7, 8] vs_2 0
    let x1_2 := mk [0, 1, 7, 8] vs_2 1
    let x7_2 := mk [0, 1, 7, 8] vs_2 7
    let x8_2 := mk [0, 1, 7, 8] vs_2 8
    M.bind (binI .lss x8_2 x7_2) fun v9_3 =>
    condV v9_3 (
      M.bind (idxS 1 x0_2 x8_2) fun v14_4 =>
      M.bind (ld false 1 v14_4) fun v15_5 =>
      M.bind (callV cl x1_2 [v15_5]) fun v16_6 =>
      condV v16_6 (
        M.pure x8_2
      ) (
        M.bind (binI .add x8_2 (Value.int .i64 1)) fun v18_7 =>
        again_2 [x0_2, x1_2, x7_2, v18_7]
      )
    ) (
      M.pure (Value.int .i64 (-1))
    )
  ) [a0, a1, v7_1, Value.int .i64 0]
noncomputable def b244 : Code := match Tryz.f244.body with
  | some c => c
  | none => .skip
theorem e244 (cl : CallF) (a0 : Value) (a1 : Value) : bodyK Tryz.prog cl ann 244 Tryz.f244 b244 [a0, a1] = s244 cl a0 a1 := by kernel_rfl
theorem d244 {X : Exts} (hX : X 244 = none) (n : Nat) (a0 : Value) (a1 : Value) (H : Heap) : func Tryz.prog X ann (n + 1) 244 [a0, a1] H = s244 (callF Tryz.prog X ann n) a0 a1 n H :=
  (func_succ hX (by kernel_rfl) (by kernel_rfl : Tryz.f244.body = some b244) n (by rfl) H).trans (congrFun (congrFun (e244 _ a0 a1) n) H)

/- function 245 -/
noncomputable def s245 (cl : CallF) : M Value :=
  M.bind (alloc 266 (List.replicate 16 (Value.int .u32 0))) fun v0_1 =>
  M.bind (bld (List.replicate 16 (Value.int .u32 0)) [(0, 1, Value.int .u32 0), (1, 1, Value.int .u32 274646895), (2, 1, Value.int .u32 549293790), (3, 1, Value.int .u32 820201905), (4, 1, Value.int .u32 1098587580), (5, 1, Value.int .u32 1361435347), (6, 1, Value.int .u32 1640403810), (7, 1, Value.int .u32 1905808397), (8, 1, Value.int .u32 2197175160), (9, 1, Value.int .u32 2460548119), (10, 1, Value.int .u32 2722870694), (11, 1, Value.int .u32 2987750089), (12, 1, Value.int .u32 3280807620), (13, 1, Value.int .u32 3553878443), (14, 1, Value.int .u32 3811616794), (15, 1, Value.int .u32 4084100981)]) fun v1_2 =>
  M.bind (st 16 v0_1 v1_2) fun _ =>
  M.bind (ld true 16 v0_1) fun r_4 =>
  M.pure r_4
noncomputable def b245 : Code := match Tryz.f245.body with
  | some c => c
  | none => .skip
theorem e245 (cl : CallF) : bodyK Tryz.prog cl ann 245 Tryz.f245 b245 [] = s245 cl := by kernel_rfl
theorem d245 {X : Exts} (hX : X 245 = none) (n : Nat) (H : Heap) : func Tryz.prog X ann (n + 1) 245 [] H = s245 (callF Tryz.prog X ann n) n H :=
  (func_succ hX (by kernel_rfl) (by kernel_rfl : Tryz.f245.body = some b245) n (by rfl) H).trans (congrFun (congrFun (e245 _) n) H)

end Go.Am
