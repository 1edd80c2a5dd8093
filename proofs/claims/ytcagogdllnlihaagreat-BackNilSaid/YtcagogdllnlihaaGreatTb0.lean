/- Functions of the program, told shallowly: by program (tab.py). -/
import Derived.Test.YtcagogdllnlihaaGreatAmP
set_option linter.all false
namespace Go.Am
open Go.Proofs
set_option linter.unusedVariables false
/- function 3 -/
noncomputable def s3 (cl : CallF) (a0 : Value) (a1 : Value) : M Value :=
  M.bind (cl 8 [Value.int .u8 0]) fun v10_1 =>
  M.bind (ext 0 v10_1) fun v11_2 =>
  M.bind (ext 1 v10_1) fun v12_3 =>
  M.bind (alloc 28 [.pointer none, .pointer none, .pointer none, .pointer none, .pointer none]) fun v5_4 =>
  M.bind (st 5 v5_4 v11_2) fun _ =>
  let j_6 := fun (y0_6 : Value) (y5_6 : Value) (y6_6 : Value) (y7_6 : Value) (y8_6 : Value) =>
    M.bind (guardM y6_6 true (M.pure y7_6)) fun v20_7 =>
    M.bind (guardM y6_6 true (fld 1 y5_6)) fun v21_8 =>
    M.bind (guardM y6_6 true (ld false 1 v21_8)) fun v22_9 =>
    M.bind (guardM y6_6 true (M.pure y0_6)) fun v23_10 =>
    M.bind (guardM y6_6 true (cl 9 [v20_7, v22_9, v23_10])) fun v24_11 =>
    M.bind (guardM y6_6 true (binI .eql v24_11 (Value.int .i64 1))) fun v25_12 =>
    M.bind (pck y6_6 v25_12 (Value.bool false)) fun v26_13 =>
    M.bind (guardM v26_13 true (M.pure y7_6)) fun v28_14 =>
    M.bind (guardM v26_13 true (fld 1 y5_6)) fun v29_15 =>
    M.bind (guardM v26_13 true (ld false 1 v29_15)) fun v30_16 =>
    M.bind (guardM v26_13 true (cl 10 [v28_14, v30_16])) fun v31_17 =>
    M.bind (guardM v26_13 true (binI .eql v31_17 (Value.int .i64 1))) fun v32_18 =>
    M.bind (pck v26_13 v32_18 (Value.bool false)) fun v33_19 =>
    M.bind (guardM v33_19 true (fld 0 y5_6)) fun v35_20 =>
    M.bind (guardM v33_19 true (ld false 1 v35_20)) fun v36_21 =>
    M.bind (guardM v33_19 true (M.pure y8_6)) fun v37_22 =>
    M.bind (guardM v33_19 true (M.pure y0_6)) fun v38_23 =>
    M.bind (guardM v33_19 true (cl 9 [v36_21, v37_22, v38_23])) fun v39_24 =>
    M.bind (guardM v33_19 true (binI .eql v39_24 (Value.int .i64 1))) fun v40_25 =>
    M.bind (pck v33_19 v40_25 (Value.bool false)) fun v41_26 =>
    M.bind (guardM v41_26 true (fld 0 y5_6)) fun v43_27 =>
    M.bind (guardM v41_26 true (ld false 1 v43_27)) fun v44_28 =>
    M.bind (guardM v41_26 true (M.pure y8_6)) fun v45_29 =>
    M.bind (guardM v41_26 true (cl 10 [v44_28, v45_29])) fun v46_30 =>
    M.bind (guardM v41_26 true (binI .eql v46_30 (Value.int .i64 1))) fun v47_31 =>
    M.bind (pck v41_26 v47_31 (Value.bool false)) fun v48_32 =>
    M.bind (guardM v48_32 true (cl 11 [])) fun v50_33 =>
    M.bind (pck v48_32 v50_33 (Value.bool false)) fun v51_34 =>
    M.pure v51_34
  condV a1 (
    M.bind (bld [.int .i64 0, .int .i64 0, .int .i64 0, .pointer none, .map none] []) fun v14_35 =>
    M.bind (box 36 v14_35) fun v15_36 =>
    M.bind (bld ([.pointer none, .int .u64 0, .int .u64 0, .int .i64 0, .int .i64 0, .int .i64 0] ++ List.replicate 16 (Value.int .u8 0) ++ [.int .i64 0, .bool false]) []) fun v16_37 =>
    M.bind (box 42 v16_37) fun v17_38 =>
    j_6 a0 v5_4 v12_3 v15_36 v17_38
  ) (
    j_6 a0 v5_4 v12_3 (Value.pointer none) (Value.pointer none)
  )
noncomputable def b3 : Code := match Tryz.f3.body with
  | some c => c
  | none => .skip
theorem e3 (cl : CallF) (a0 : Value) (a1 : Value) : bodyK Tryz.prog cl ann 3 Tryz.f3 b3 [a0, a1] = s3 cl a0 a1 := by kernel_rfl
theorem d3 {X : Exts} (hX : X 3 = none) (n : Nat) (a0 : Value) (a1 : Value) (H : Heap) : func Tryz.prog X ann (n + 1) 3 [a0, a1] H = s3 (callF Tryz.prog X ann n) a0 a1 n H :=
  (func_succ hX (by kernel_rfl) (by kernel_rfl : Tryz.f3.body = some b3) n (by rfl) H).trans (congrFun (congrFun (e3 _ a0 a1) n) H)

/- function 6 -/
noncomputable def s6 (cl : CallF) (a0 : Value) (a1 : Value) (a2 : Value) : M Value :=
  M.bind (box 55 a0) fun v3_1 =>
  let j_2 := fun (y1_2 : Value) (y3_2 : Value) (y7_2 : Value) =>
    M.bind (cl 17 [Value.int .u8 0]) fun v21_3 =>
    M.bind (cl 19 [v21_3]) fun v22_4 =>
    M.bind (ext 0 v22_4) fun v23_5 =>
    M.bind (ext 1 v22_4) fun v24_6 =>
    M.bind (ext 2 v22_4) fun v25_7 =>
    M.bind (cl 17 [Value.int .u8 0]) fun v27_8 =>
    M.bind (cl 18 [v27_8, Value.int .i64 1]) fun v28_9 =>
    M.bind (ext 0 v28_9) fun v29_10 =>
    M.bind (ext 1 v28_9) fun v30_11 =>
    M.bind (ld true 2 y3_2) fun v34_12 =>
    M.bind (cl 20 [y7_2, v23_5, v34_12]) fun v35_13 =>
    M.bind (ext 0 v35_13) fun v36_14 =>
    M.bind (ext 1 v35_13) fun v37_15 =>
    M.bind (alloc 57 (List.replicate 64 (Value.int .u8 0))) fun v13_16 =>
    M.bind (st 64 v13_16 v36_14) fun _ =>
    M.bind (ld true 2 y3_2) fun v40_18 =>
    M.bind (cl 20 [v29_10, Value.pointer none, v40_18]) fun v41_19 =>
    M.bind (ext 0 v41_19) fun v42_20 =>
    M.bind (ext 1 v41_19) fun v43_21 =>
    M.bind (alloc 57 (List.replicate 64 (Value.int .u8 0))) fun v15_22 =>
    M.bind (st 64 v15_22 v42_20) fun _ =>
    M.bind (binI .eql v30_11 (Value.int .i64 0)) fun v45_24 =>
    M.bind (guardM v45_24 true (M.pure v37_15)) fun v47_25 =>
    M.bind (guardM v45_24 true (binI .eql v47_25 (Value.int .i64 1))) fun v48_26 =>
    M.bind (pck v45_24 v48_26 (Value.bool false)) fun v49_27 =>
    M.bind (guardM v49_27 true (M.pure v43_21)) fun v51_28 =>
    M.bind (guardM v49_27 true (binI .eql v51_28 (Value.int .i64 1))) fun v52_29 =>
    M.bind (pck v49_27 v52_29 (Value.bool false)) fun v53_30 =>
    M.bind (guardM v53_30 true (M.pure y7_2)) fun v55_31 =>
    M.bind (guardM v53_30 true (cl 12 [v55_31, Value.int .u64 1, Value.slice none 0 0])) fun v56_32 =>
    M.bind (guardM v53_30 true (binI .eql v56_32 (Value.int .i64 1))) fun v57_33 =>
    M.bind (pck v53_30 v57_33 (Value.bool false)) fun v58_34 =>
    M.bind (guardM v58_34 true (M.pure y7_2)) fun v60_35 =>
    M.bind (guardM v58_34 true (M.pure y1_2)) fun v61_36 =>
    M.bind (guardM v58_34 true (cl 24 [v60_35, v61_36])) fun v62_37 =>
    M.bind (guardM v58_34 true (binI .eql v62_37 (Value.int .i64 1))) fun v63_38 =>
    M.bind (pck v58_34 v63_38 (Value.bool false)) fun v64_39 =>
    M.bind (guardM v64_39 true (M.pure y7_2)) fun v66_40 =>
    M.bind (guardM v64_39 true (M.pure y1_2)) fun v67_41 =>
    M.bind (guardM v64_39 true (cl 25 [v66_40, v67_41])) fun v68_42 =>
    M.bind (guardM v64_39 true (binI .eql v68_42 (Value.int .i64 1))) fun v69_43 =>
    M.bind (pck v64_39 v69_43 (Value.bool false)) fun v70_44 =>
    M.bind (guardM v70_44 true (M.pure y7_2)) fun v72_45 =>
    M.bind (guardM v70_44 true (M.pure y1_2)) fun v73_46 =>
    M.bind (guardM v70_44 true (cl 26 [v72_45, v73_46])) fun v74_47 =>
    M.bind (guardM v70_44 true (lenL v74_47)) fun v75_48 =>
    M.bind (guardM v70_44 true (binI .eql v75_48 (Value.int .i64 0))) fun v76_49 =>
    M.bind (pck v70_44 v76_49 (Value.bool false)) fun v77_50 =>
    M.bind (guardM v77_50 true (M.pure y7_2)) fun v79_51 =>
    M.bind (guardM v77_50 true (M.pure y1_2)) fun v80_52 =>
    M.bind (guardM v77_50 true (cl 15 [v79_51, v80_52])) fun v81_53 =>
    M.bind (guardM v77_50 true (lenL v81_53)) fun v82_54 =>
    M.bind (guardM v77_50 true (binI .eql v82_54 (Value.int .i64 0))) fun v83_55 =>
    M.bind (pck v77_50 v83_55 (Value.bool false)) fun v84_56 =>
    M.bind (guardM v84_56 true (M.pure y7_2)) fun v86_57 =>
    M.bind (guardM v84_56 true (cl 13 [v86_57])) fun v87_58 =>
    M.bind (guardM v84_56 true (lenL v87_58)) fun v88_59 =>
    M.bind (guardM v84_56 true (binI .eql v88_59 (Value.int .i64 0))) fun v89_60 =>
    M.bind (pck v84_56 v89_60 (Value.bool false)) fun v90_61 =>
    M.bind (guardM v90_61 true (M.pure y7_2)) fun v92_62 =>
    M.bind (guardM v90_61 true (cl 22 [v92_62])) fun v93_63 =>
    M.bind (guardM v90_61 true (lenL v93_63)) fun v94_64 =>
    M.bind (guardM v90_61 true (binI .eql v94_64 (Value.int .i64 0))) fun v95_65 =>
    M.bind (pck v90_61 v95_65 (Value.bool false)) fun v96_66 =>
    M.bind (guardM v96_66 true (M.pure y7_2)) fun v98_67 =>
    M.bind (guardM v96_66 true (cl 27 [v98_67])) fun v99_68 =>
    M.bind (guardM v96_66 true (binI .eql v99_68 (Value.int .u64 0))) fun v100_69 =>
    M.bind (pck v96_66 v100_69 (Value.bool false)) fun v101_70 =>
    M.bind (guardM v101_70 true (M.pure y7_2)) fun v103_71 =>
    M.bind (guardM v101_70 true (cl 28 [v103_71, Value.slice none 0 0])) fun v104_72 =>
    M.bind (guardM v101_70 true (un .not v104_72)) fun v105_73 =>
    M.bind (pck v101_70 v105_73 (Value.bool false)) fun v106_74 =>
    M.bind (guardM v106_74 true (cl 23 [])) fun v108_75 =>
    M.bind (pck v106_74 v108_75 (Value.bool false)) fun v109_76 =>
    M.pure v109_76
  condV a2 (
    M.bind (bld [.int .i64 0, .int .i64 0, .int .i64 0, .pointer none, .map none] []) fun v18_77 =>
    M.bind (box 36 v18_77) fun v19_78 =>
    j_2 a1 v3_1 v19_78
  ) (
    j_2 a1 v3_1 (Value.pointer none)
  )
noncomputable def b6 : Code := match Tryz.f6.body with
  | some c => c
  | none => .skip
theorem e6 (cl : CallF) (a0 : Value) (a1 : Value) (a2 : Value) : bodyK Tryz.prog cl ann 6 Tryz.f6 b6 [a0, a1, a2] = s6 cl a0 a1 a2 := by kernel_rfl
theorem d6 {X : Exts} (hX : X 6 = none) (n : Nat) (a0 : Value) (a1 : Value) (a2 : Value) (H : Heap) : func Tryz.prog X ann (n + 1) 6 [a0, a1, a2] H = s6 (callF Tryz.prog X ann n) a0 a1 a2 n H :=
  (func_succ hX (by kernel_rfl) (by kernel_rfl : Tryz.f6.body = some b6) n (by rfl) H).trans (congrFun (congrFun (e6 _ a0 a1 a2) n) H)

/- function 8 -/
noncomputable def s8 (cl : CallF) (a0 : Value) : M Value :=
  M.bind (alloc 28 [.pointer none, .pointer none, .pointer none, .pointer none, .pointer none]) fun v2_1 =>
  M.bind (binI .rem a0 (Value.int .u8 4)) fun v19_2 =>
  M.bind (cvt .i64 v19_2) fun v20_3 =>
  M.bind (binI .add (Value.int .i64 3) v20_3) fun v21_4 =>
  M.bind (bld [.int .i64 0, .int .i64 0, .int .i64 0] [(0, 1, v21_4), (1, 1, Value.int .i64 6), (2, 1, Value.int .i64 40)]) fun v22_5 =>
  M.bind (alloc 32 [.int .i64 0, .int .i64 0, .int .i64 0]) fun v4_6 =>
  M.bind (st 3 v4_6 v22_5) fun _ =>
  loopV (fun again_8 vs_8 =>
    let x2_8 := mk [2, 4, 5, 6] vs_8 2
    let x4_8 := mk [2, 4, 5, 6] vs_8 4
    let x5_8 := mk [2, 4, 5, 6] vs_8 5
    let x6_8 := mk [2, 4, 5, 6] vs_8 6
    M.bind (fld 0 x4_8) fun v24_9 =>
    M.bind (ld false 1 v24_9) fun v25_10 =>
    M.bind (binI .lss x6_8 v25_10) fun v26_11 =>
    condV v26_11 (
      M.bind (bldSlice 3 1 [.int .i64 0] 1 [(0, 1, Value.int .i64 8)]) fun v30_12 =>
      M.bind (app 3 1 8 x5_8 v30_12) fun v31_13 =>
      M.bind (binI .add x6_8 (Value.int .i64 1)) fun v28_14 =>
      again_8 [x2_8, x4_8, v31_13, v28_14]
    ) (
      M.bind (bldSlice 3 1 [.int .i64 0] 1 [(0, 1, Value.int .i64 50)]) fun v33_15 =>
      M.bind (app 3 1 8 x5_8 v33_15) fun v34_16 =>
      M.bind (cl 32 [v34_16]) fun v37_17 =>
      M.bind (ext 0 v37_17) fun v38_18 =>
      M.bind (ext 1 v37_17) fun v39_19 =>
      M.bind (cl 33 [v34_16]) fun v42_20 =>
      M.bind (ext 0 v42_20) fun v43_21 =>
      M.bind (ext 1 v42_20) fun v44_22 =>
      M.bind (ld true 3 x4_8) fun v46_23 =>
      M.bind (cl 34 [v46_23]) fun v47_24 =>
      M.bind (ext 0 v47_24) fun v48_25 =>
      M.bind (ext 1 v47_24) fun v49_26 =>
      M.bind (alloc 40 ([.int .i64 0, .int .i64 0, .int .i64 0] ++ List.replicate 16 (Value.int .u8 0) ++ [.int .i64 0, .bool false])) fun v11_27 =>
      M.bind (st 21 v11_27 v48_25) fun _ =>
      M.bind (binI .neq v39_19 (Value.int .i64 0)) fun v51_29 =>
      M.bind (guardM v51_29 false (M.pure v44_22)) fun v53_30 =>
      M.bind (guardM v51_29 false (binI .neq v53_30 (Value.int .i64 0))) fun v54_31 =>
      M.bind (pck v51_29 (Value.bool true) v54_31) fun v55_32 =>
      M.bind (guardM v55_32 false (M.pure v49_26)) fun v57_33 =>
      M.bind (guardM v55_32 false (binI .neq v57_33 (Value.int .i64 0))) fun v58_34 =>
      M.bind (pck v55_32 (Value.bool true) v58_34) fun v59_35 =>
      condV v59_35 (
        M.bind (bld [.pointer none, .pointer none, .pointer none, .pointer none, .pointer none] []) fun v60_36 =>
        M.bind (st 5 x2_8 v60_36) fun _ =>
        M.bind (ld true 5 x2_8) fun r_38 =>
        M.pure (Value.tuple ⟨[r_38, Value.bool false]⟩)
      ) (
        M.bind (ld true 21 v11_27) fun v63_39 =>
        M.bind (cl 35 [v38_18, Value.int .u64 9, Value.int .u64 0, v63_39]) fun v64_40 =>
        M.bind (ext 0 v64_40) fun v65_41 =>
        M.bind (ext 1 v64_40) fun v66_42 =>
        M.bind (ld true 21 v11_27) fun v69_43 =>
        M.bind (cl 36 [v43_21, Value.int .u64 9, Value.int .u64 0, v69_43]) fun v70_44 =>
        M.bind (ext 0 v70_44) fun v71_45 =>
        M.bind (ext 1 v70_44) fun v72_46 =>
        M.bind (ld true 3 x4_8) fun v74_47 =>
        M.bind (cl 18 [v74_47, Value.int .i64 6]) fun v75_48 =>
        M.bind (ext 0 v75_48) fun v76_49 =>
        M.bind (ext 1 v75_48) fun v77_50 =>
        M.bind (ld true 3 x4_8) fun v79_51 =>
        M.bind (cl 29 [v79_51, Value.int .i64 6]) fun v80_52 =>
        M.bind (ext 0 v80_52) fun v81_53 =>
        M.bind (ext 1 v80_52) fun v82_54 =>
        M.bind (bld [.pointer none, .pointer none, .pointer none, .pointer none, .pointer none] [(0, 1, v76_49), (1, 1, v65_41), (2, 1, v38_18), (3, 1, v81_53), (4, 1, v71_45)]) fun v88_55 =>
        M.bind (binI .eql v66_42 (Value.int .i64 0)) fun v90_56 =>
        M.bind (guardM v90_56 true (M.pure v72_46)) fun v92_57 =>
        M.bind (guardM v90_56 true (binI .eql v92_57 (Value.int .i64 0))) fun v93_58 =>
        M.bind (pck v90_56 v93_58 (Value.bool false)) fun v94_59 =>
        M.bind (guardM v94_59 true (M.pure v77_50)) fun v96_60 =>
        M.bind (guardM v94_59 true (binI .eql v96_60 (Value.int .i64 0))) fun v97_61 =>
        M.bind (pck v94_59 v97_61 (Value.bool false)) fun v98_62 =>
        M.bind (guardM v98_62 true (M.pure v82_54)) fun v100_63 =>
        M.bind (guardM v98_62 true (binI .eql v100_63 (Value.int .i64 0))) fun v101_64 =>
        M.bind (pck v98_62 v101_64 (Value.bool false)) fun v102_65 =>
        M.bind (st 5 x2_8 v88_55) fun _ =>
        M.bind (ld true 5 x2_8) fun r_67 =>
        M.pure (Value.tuple ⟨[r_67, v102_65]⟩)
      )
    )
  ) [v2_1, v4_6, Value.slice none 0 0, Value.int .i64 0]
noncomputable def b8 : Code := match Tryz.f8.body with
  | some c => c
  | none => .skip
theorem e8 (cl : CallF) (a0 : Value) : bodyK Tryz.prog cl ann 8 Tryz.f8 b8 [a0] = s8 cl a0 := by kernel_rfl
theorem d8 {X : Exts} (hX : X 8 = none) (n : Nat) (a0 : Value) (H : Heap) : func Tryz.prog X ann (n + 1) 8 [a0] H = s8 (callF Tryz.prog X ann n) a0 n H :=
  (func_succ hX (by kernel_rfl) (by kernel_rfl : Tryz.f8.body = some b8) n (by rfl) H).trans (congrFun (congrFun (e8 _ a0) n) H)

/- function 9 -/
noncomputable def s9 (cl : CallF) (a0 : Value) (a1 : Value) (a2 : Value) : M Value :=
  M.bind (cl 26 [a0, Value.int .i64 0]) fun v11_1 =>
  M.bind (lenL v11_1) fun v12_2 =>
  M.bind (binI .eql v12_2 (Value.int .i64 0)) fun v13_3 =>
  M.bind (guardM v13_3 false (M.pure a1)) fun v15_4 =>
  M.bind (guardM v13_3 false (cl 37 [v15_4])) fun v16_5 =>
  M.bind (guardM v13_3 false (binI .eql v16_5 (Value.int .u64 0))) fun v17_6 =>
  M.bind (pck v13_3 (Value.bool true) v17_6) fun v18_7 =>
  condV v18_7 (
    M.pure (Value.int .i64 1)
  ) (
    M.bind (cl 26 [a0, a2]) fun v21_8 =>
    M.bind (lenL v21_8) fun v22_9 =>
    M.bind (binI .eql v22_9 (Value.int .i64 0)) fun v23_10 =>
    condV v23_10 (
      M.pure (Value.int .i64 2)
    ) (
      M.bind (cl 15 [a0, a2]) fun v26_11 =>
      M.bind (lenL v26_11) fun v27_12 =>
      loopV (fun again_13 vs_13 =>
        let x0_13 := mk [0, 1, 2, 26, 27, 28] vs_13 0
        let x1_13 := mk [0, 1, 2, 26, 27, 28] vs_13 1
        let x2_13 := mk [0, 1, 2, 26, 27, 28] vs_13 2
        let x26_13 := mk [0, 1, 2, 26, 27, 28] vs_13 26
        let x27_13 := mk [0, 1, 2, 26, 27, 28] vs_13 27
        let x28_13 := mk [0, 1, 2, 26, 27, 28] vs_13 28
        M.bind (binI .lss x28_13 x27_13) fun v29_14 =>
        condV v29_14 (
          M.bind (idxS 66 x26_13 x28_13) fun v30_15 =>
          M.bind (ld true 66 v30_15) fun v31_16 =>
          M.bind (alloc 59 ([.int .i64 0, .int .i64 0] ++ List.replicate 64 (Value.int .u8 0))) fun v8_17 =>
          M.bind (st 66 v8_17 v31_16) fun _ =>
          M.bind (fld 0 v8_17) fun v33_19 =>
          M.bind (ld true 2 v33_19) fun v34_20 =>
          M.bind (fld 2 v8_17) fun v35_21 =>
          M.bind (ld true 64 v35_21) fun v36_22 =>
          M.bind (cl 38 [x1_13, v34_20, v36_22]) fun v37_23 =>
          M.bind (binI .neq v37_23 (Value.int .i64 0)) fun v39_24 =>
          condV v39_24 (
            M.pure v37_23
          ) (
            M.bind (binI .add x28_13 (Value.int .i64 1)) fun v41_25 =>
            again_13 [x0_13, x1_13, x2_13, x26_13, x27_13, v41_25]
          )
        ) (
          M.bind (cl 24 [x0_13, x2_13]) fun v44_26 =>
          M.pure v44_26
        )
      ) [a0, a1, a2, v26_11, v27_12, Value.int .i64 0]
    )
  )
noncomputable def b9 : Code := match Tryz.f9.body with
  | some c => c
  | none => .skip
theorem e9 (cl : CallF) (a0 : Value) (a1 : Value) (a2 : Value) : bodyK Tryz.prog cl ann 9 Tryz.f9 b9 [a0, a1, a2] = s9 cl a0 a1 a2 := by kernel_rfl
theorem d9 {X : Exts} (hX : X 9 = none) (n : Nat) (a0 : Value) (a1 : Value) (a2 : Value) (H : Heap) : func Tryz.prog X ann (n + 1) 9 [a0, a1, a2] H = s9 (callF Tryz.prog X ann n) a0 a1 a2 n H :=
  (func_succ hX (by kernel_rfl) (by kernel_rfl : Tryz.f9.body = some b9) n (by rfl) H).trans (congrFun (congrFun (e9 _ a0 a1 a2) n) H)

/- function 10 -/
noncomputable def s10 (cl : CallF) (a0 : Value) (a1 : Value) : M Value :=
  M.bind (cl 26 [a0, Value.int .i64 0]) fun v9_1 =>
  M.bind (lenL v9_1) fun v10_2 =>
  M.bind (binI .eql v10_2 (Value.int .i64 0)) fun v11_3 =>
  M.bind (guardM v11_3 false (M.pure a1)) fun v13_4 =>
  M.bind (guardM v11_3 false (cl 37 [v13_4])) fun v14_5 =>
  M.bind (guardM v11_3 false (binI .eql v14_5 (Value.int .u64 0))) fun v15_6 =>
  M.bind (pck v11_3 (Value.bool true) v15_6) fun v16_7 =>
  condV v16_7 (
    M.pure (Value.int .i64 1)
  ) (
    M.bind (cl 13 [a0]) fun v18_8 =>
    M.bind (lenL v18_8) fun v19_9 =>
    loopV (fun again_10 vs_10 =>
      let x0_10 := mk [0, 1, 18, 19, 20] vs_10 0
      let x1_10 := mk [0, 1, 18, 19, 20] vs_10 1
      let x18_10 := mk [0, 1, 18, 19, 20] vs_10 18
      let x19_10 := mk [0, 1, 18, 19, 20] vs_10 19
      let x20_10 := mk [0, 1, 18, 19, 20] vs_10 20
      M.bind (binI .lss x20_10 x19_10) fun v21_11 =>
      condV v21_11 (
        M.bind (idxS 1 x18_10 x20_10) fun v22_12 =>
        M.bind (ld false 1 v22_12) fun v23_13 =>
        M.bind (cl 9 [x0_10, x1_10, v23_13]) fun v27_14 =>
        M.bind (binI .neq v27_14 (Value.int .i64 0)) fun v29_15 =>
        condV v29_15 (
          M.pure v27_14
        ) (
          M.bind (binI .add x20_10 (Value.int .i64 1)) fun v31_16 =>
          again_10 [x0_10, x1_10, x18_10, x19_10, v31_16]
        )
      ) (
        M.bind (cl 39 [x1_10]) fun v33_17 =>
        M.pure v33_17
      )
    ) [a0, a1, v18_8, v19_9, Value.int .i64 0]
  )
noncomputable def b10 : Code := match Tryz.f10.body with
  | some c => c
  | none => .skip
theorem e10 (cl : CallF) (a0 : Value) (a1 : Value) : bodyK Tryz.prog cl ann 10 Tryz.f10 b10 [a0, a1] = s10 cl a0 a1 := by kernel_rfl
theorem d10 {X : Exts} (hX : X 10 = none) (n : Nat) (a0 : Value) (a1 : Value) (H : Heap) : func Tryz.prog X ann (n + 1) 10 [a0, a1] H = s10 (callF Tryz.prog X ann n) a0 a1 n H :=
  (func_succ hX (by kernel_rfl) (by kernel_rfl : Tryz.f10.body = some b10) n (by rfl) H).trans (congrFun (congrFun (e10 _ a0 a1) n) H)

/- function 11 -/
noncomputable def s11 (cl : CallF) : M Value :=
  M.bind (cl 8 [Value.int .u8 0]) fun v10_1 =>
  M.bind (ext 0 v10_1) fun v11_2 =>
  M.bind (ext 1 v10_1) fun v12_3 =>
  M.bind (alloc 28 [.pointer none, .pointer none, .pointer none, .pointer none, .pointer none]) fun v1_4 =>
  M.bind (st 5 v1_4 v11_2) fun _ =>
  M.bind (un .not v12_3) fun v14_6 =>
  M.bind (guardM v14_6 false (fld 0 v1_4)) fun v16_7 =>
  M.bind (guardM v14_6 false (ld false 1 v16_7)) fun v17_8 =>
  M.bind (guardM v14_6 false (bld (List.replicate 64 (Value.int .u8 0)) [(0, 1, Value.int .u8 1)])) fun v18_9 =>
  M.bind (guardM v14_6 false (bld ([.int .i64 0, .int .i64 0] ++ List.replicate 64 (Value.int .u8 0)) [(2, 64, v18_9)])) fun v19_10 =>
  M.bind (guardM v14_6 false (bld [.int .i64 0, .int .i64 0] [(0, 1, Value.int .i64 1), (1, 1, Value.int .i64 2)])) fun v20_11 =>
  M.bind (guardM v14_6 false (bld (List.replicate 64 (Value.int .u8 0)) [(0, 1, Value.int .u8 2)])) fun v21_12 =>
  M.bind (guardM v14_6 false (bld ([.int .i64 0, .int .i64 0] ++ List.replicate 64 (Value.int .u8 0)) [(0, 2, v20_11), (2, 64, v21_12)])) fun v22_13 =>
  M.bind (guardM v14_6 false (bldSlice 59 66 ([.int .i64 0, .int .i64 0] ++ List.replicate 64 (Value.int .u8 0)) 2 [(0, 66, v19_10), (66, 66, v22_13)])) fun v23_14 =>
  M.bind (guardM v14_6 false (cl 12 [v17_8, Value.int .u64 1, v23_14])) fun v24_15 =>
  M.bind (guardM v14_6 false (binI .neq v24_15 (Value.int .i64 0))) fun v25_16 =>
  M.bind (pck v14_6 (Value.bool true) v25_16) fun v26_17 =>
  condV v26_17 (
    M.pure (Value.bool false)
  ) (
    M.bind (fld 0 v1_4) fun v27_18 =>
    M.bind (ld false 1 v27_18) fun v28_19 =>
    M.bind (fld 1 v1_4) fun v29_20 =>
    M.bind (ld false 1 v29_20) fun v30_21 =>
    M.bind (cl 9 [v28_19, v30_21, Value.int .i64 6]) fun v31_22 =>
    M.bind (fld 0 v1_4) fun v32_23 =>
    M.bind (ld false 1 v32_23) fun v33_24 =>
    M.bind (fld 1 v1_4) fun v34_25 =>
    M.bind (ld false 1 v34_25) fun v35_26 =>
    M.bind (cl 9 [v33_24, v35_26, Value.int .i64 0]) fun v36_27 =>
    M.bind (fld 0 v1_4) fun v37_28 =>
    M.bind (ld false 1 v37_28) fun v38_29 =>
    M.bind (cl 13 [v38_29]) fun v39_30 =>
    M.bind (bldSlice 3 1 [.int .i64 0] 1 [(0, 1, Value.int .i64 1)]) fun v40_31 =>
    M.bind (cl 21 [v39_30, v40_31]) fun v41_32 =>
    M.bind (fld 0 v1_4) fun v42_33 =>
    M.bind (ld false 1 v42_33) fun v43_34 =>
    M.bind (fld 1 v1_4) fun v44_35 =>
    M.bind (ld false 1 v44_35) fun v45_36 =>
    M.bind (cl 10 [v43_34, v45_36]) fun v46_37 =>
    M.bind (fld 2 v1_4) fun v48_38 =>
    M.bind (ld false 1 v48_38) fun v49_39 =>
    M.bind (cl 16 [v49_39, Value.int .i64 2, Value.int .i64 3]) fun v50_40 =>
    M.bind (ext 0 v50_40) fun v51_41 =>
    M.bind (ext 1 v50_40) fun v52_42 =>
    M.bind (alloc 57 (List.replicate 64 (Value.int .u8 0))) fun v7_43 =>
    M.bind (st 64 v7_43 v51_41) fun _ =>
    M.bind (binI .eql v31_22 (Value.int .i64 2)) fun v54_45 =>
    M.bind (guardM v54_45 true (M.pure v36_27)) fun v56_46 =>
    M.bind (guardM v54_45 true (binI .eql v56_46 (Value.int .i64 0))) fun v57_47 =>
    M.bind (pck v54_45 v57_47 (Value.bool false)) fun v58_48 =>
    M.bind (guardM v58_48 true (M.pure v41_32)) fun v60_49 =>
    M.bind (pck v58_48 v60_49 (Value.bool false)) fun v61_50 =>
    M.bind (guardM v61_50 true (M.pure v46_37)) fun v63_51 =>
    M.bind (guardM v61_50 true (binI .eql v63_51 (Value.int .i64 0))) fun v64_52 =>
    M.bind (pck v61_50 v64_52 (Value.bool false)) fun v65_53 =>
    M.bind (guardM v65_53 true (fld 0 v1_4)) fun v67_54 =>
    M.bind (guardM v65_53 true (ld false 1 v67_54)) fun v68_55 =>
    M.bind (guardM v65_53 true (cl 13 [v68_55])) fun v69_56 =>
    M.bind (guardM v65_53 true (lenL v69_56)) fun v70_57 =>
    M.bind (guardM v65_53 true (binI .eql v70_57 (Value.int .i64 0))) fun v71_58 =>
    M.bind (pck v65_53 v71_58 (Value.bool false)) fun v72_59 =>
    M.bind (guardM v72_59 true (ld true 64 v7_43)) fun v74_60 =>
    M.bind (guardM v72_59 true (bld (List.replicate 64 (Value.int .u8 0)) [(0, 1, Value.int .u8 2)])) fun v75_61 =>
    M.bind (guardM v72_59 true (binA (List.replicate 64 Sh.int) .eql v74_60 v75_61)) fun v76_62 =>
    M.bind (pck v72_59 v76_62 (Value.bool false)) fun v77_63 =>
    M.bind (guardM v77_63 true (M.pure v52_42)) fun v79_64 =>
    M.bind (guardM v77_63 true (binI .eql v79_64 (Value.int .i64 0))) fun v80_65 =>
    M.bind (pck v77_63 v80_65 (Value.bool false)) fun v81_66 =>
    M.pure v81_66
  )
noncomputable def b11 : Code := match Tryz.f11.body with
  | some c => c
  | none => .skip
theorem e11 (cl : CallF) : bodyK Tryz.prog cl ann 11 Tryz.f11 b11 [] = s11 cl := by kernel_rfl
theorem d11 {X : Exts} (hX : X 11 = none) (n : Nat) (H : Heap) : func Tryz.prog X ann (n + 1) 11 [] H = s11 (callF Tryz.prog X ann n) n H :=
  (func_succ hX (by kernel_rfl) (by kernel_rfl : Tryz.f11.body = some b11) n (by rfl) H).trans (congrFun (congrFun (e11 _) n) H)

/- function 12 -/
noncomputable def s12 (cl : CallF) (a0 : Value) (a1 : Value) (a2 : Value) : M Value :=
  M.bind (cl 40 [a0]) fun v22_1 =>
  condV v22_1 (
    M.pure (Value.int .i64 1)
  ) (
    M.bind (mkMap) fun v23_2 =>
    M.bind (lenL a2) fun v25_3 =>
    loopV (fun again_4 vs_4 =>
      let x0_4 := mk [0, 1, 2, 7, 8, 24, 25, 26] vs_4 0
      let x1_4 := mk [0, 1, 2, 7, 8, 24, 25, 26] vs_4 1
      let x2_4 := mk [0, 1, 2, 7, 8, 24, 25, 26] vs_4 2
      let x7_4 := mk [0, 1, 2, 7, 8, 24, 25, 26] vs_4 7
      let x8_4 := mk [0, 1, 2, 7, 8, 24, 25, 26] vs_4 8
      let x24_4 := mk [0, 1, 2, 7, 8, 24, 25, 26] vs_4 24
      let x25_4 := mk [0, 1, 2, 7, 8, 24, 25, 26] vs_4 25
      let x26_4 := mk [0, 1, 2, 7, 8, 24, 25, 26] vs_4 26
      M.bind (binI .lss x26_4 x25_4) fun v27_5 =>
      condV v27_5 (
        let j_6 := fun (y0_6 : Value) (y1_6 : Value) (y2_6 : Value) (y7_6 : Value) (y8_6 : Value) (y24_6 : Value) (y25_6 : Value) (y26_6 : Value) =>
          M.bind (binI .add y26_6 (Value.int .i64 1)) fun v68_7 =>
          again_4 [y0_6, y1_6, y2_6, y7_6, y8_6, y24_6, y25_6, v68_7]
        M.bind (idxS 66 x24_4 x26_4) fun v28_8 =>
        M.bind (ld true 66 v28_8) fun v29_9 =>
        M.bind (alloc 59 ([.int .i64 0, .int .i64 0] ++ List.replicate 64 (Value.int .u8 0))) fun v10_10 =>
        M.bind (st 66 v10_10 v29_9) fun _ =>
        M.bind (fld 0 v10_10) fun v31_12 =>
        M.bind (ld true 2 v31_12) fun v32_13 =>
        M.bind (cl 41 [x0_4, v32_13]) fun v33_14 =>
        M.bind (un .not v33_14) fun v34_15 =>
        condV v34_15 (
          M.pure (Value.int .i64 2)
        ) (
          M.bind (fld 0 v10_10) fun v36_16 =>
          M.bind (fld 0 v36_16) fun v37_17 =>
          M.bind (ld false 1 v37_17) fun v38_18 =>
          M.bind (bldSlice 3 1 [.int .i64 0] 1 [(0, 1, v38_18)]) fun v39_19 =>
          M.bind (app 3 1 8 x7_4 v39_19) fun v40_20 =>
          M.bind (nilck x0_4) fun v43_21 =>
          M.bind (fld 0 v43_21) fun v44_22 =>
          M.bind (ld true 3 v44_22) fun v45_23 =>
          M.bind (fld 0 v10_10) fun v46_24 =>
          M.bind (fld 0 v46_24) fun v47_25 =>
          M.bind (ld false 1 v47_25) fun v48_26 =>
          M.bind (cl 42 [v45_23, v48_26]) fun v49_27 =>
          M.bind (ext 0 v49_27) fun v50_28 =>
          M.bind (ext 1 v49_27) fun v51_29 =>
          M.bind (fld 0 v10_10) fun v53_30 =>
          M.bind (fld 1 v53_30) fun v54_31 =>
          M.bind (ld false 1 v54_31) fun v55_32 =>
          M.bind (binI .eql v50_28 v55_32) fun v56_33 =>
          let j_34 := fun (y0_34 : Value) (y1_34 : Value) (y2_34 : Value) (y7_34 : Value) (y8_34 : Value) (y10_34 : Value) (y13_34 : Value) (y24_34 : Value) (y25_34 : Value) (y26_34 : Value) =>
            M.bind (fld 0 y10_34) fun v58_35 =>
            M.bind (fld 0 v58_35) fun v59_36 =>
            M.bind (ld false 1 v59_36) fun v60_37 =>
            M.bind (fld 0 y10_34) fun v62_38 =>
            M.bind (fld 0 v62_38) fun v63_39 =>
            M.bind (ld false 1 v63_39) fun v64_40 =>
            M.bind (lkp (Value.int .i64 0) false y8_34 v64_40) fun v65_41 =>
            M.bind (mx v65_41 y13_34) fun v67_42 =>
            M.bind (mupd y8_34 v60_37 v67_42) fun _ =>
            j_6 y0_34 y1_34 y2_34 y7_34 y8_34 y24_34 y25_34 y26_34
          condV v56_33 (
            j_34 x0_4 x1_4 x2_4 v40_20 x8_4 v10_10 (Value.int .i64 2) x24_4 x25_4 x26_4
          ) (
            j_34 x0_4 x1_4 x2_4 v40_20 x8_4 v10_10 (Value.int .i64 1) x24_4 x25_4 x26_4
          )
        )
      ) (
        M.bind (binI .eql x1_4 (Value.int .u64 0)) fun v71_44 =>
        condV v71_44 (
          M.pure (Value.int .i64 2)
        ) (
          M.bind (cl 28 [x0_4, x7_4]) fun v75_45 =>
          M.bind (un .not v75_45) fun v76_46 =>
          condV v76_46 (
            M.pure (Value.int .i64 10)
          ) (
            M.bind (lenL x2_4) fun v78_47 =>
            loopV (fun again_48 vs_48 =>
              let x0_48 := mk [0, 1, 8, 77, 78, 79] vs_48 0
              let x1_48 := mk [0, 1, 8, 77, 78, 79] vs_48 1
              let x8_48 := mk [0, 1, 8, 77, 78, 79] vs_48 8
              let x77_48 := mk [0, 1, 8, 77, 78, 79] vs_48 77
              let x78_48 := mk [0, 1, 8, 77, 78, 79] vs_48 78
              let x79_48 := mk [0, 1, 8, 77, 78, 79] vs_48 79
              M.bind (binI .lss x79_48 x78_48) fun v80_49 =>
              condV v80_49 (
                M.bind (idxS 66 x77_48 x79_48) fun v81_50 =>
                M.bind (ld true 66 v81_50) fun v82_51 =>
                M.bind (alloc 59 ([.int .i64 0, .int .i64 0] ++ List.replicate 64 (Value.int .u8 0))) fun v15_52 =>
                M.bind (st 66 v15_52 v82_51) fun _ =>
                M.bind (fld 0 v15_52) fun v84_54 =>
                M.bind (fld 0 v84_54) fun v85_55 =>
                M.bind (ld false 1 v85_55) fun v86_56 =>
                M.bind (cl 43 [x0_48, v86_56]) fun v87_57 =>
                M.bind (fld 0 v15_52) fun v89_58 =>
                M.bind (fld 1 v89_58) fun v90_59 =>
                M.bind (ld false 1 v90_59) fun v91_60 =>
                M.bind (fld 2 v15_52) fun v92_61 =>
                M.bind (ld true 64 v92_61) fun v93_62 =>
                M.bind (cl 44 [v87_57, v91_60, v93_62, x1_48]) fun v95_63 =>
                M.bind (nilck x0_48) fun v97_64 =>
                M.bind (fld 3 v97_64) fun v98_65 =>
                M.bind (ld false 1 v98_65) fun v99_66 =>
                M.bind (fld 0 v15_52) fun v100_67 =>
                M.bind (fld 0 v100_67) fun v101_68 =>
                M.bind (ld false 1 v101_68) fun v102_69 =>
                M.bind (cl 45 [v99_66, v102_69, Value.bool true]) fun v103_70 =>
                M.bind (binI .add x79_48 (Value.int .i64 1)) fun v104_71 =>
                again_48 [x0_48, x1_48, x8_48, x77_48, x78_48, v104_71]
              ) (
                M.bind (mrange x8_48) fun v106_72 =>
                loopV (fun again_73 vs_73 =>
                  let x0_73 := mk [0, 106] vs_73 0
                  let x106_73 := mk [0, 106] vs_73 106
                  M.bind (mnext x106_73) fun v107_74 =>
                  M.bind (ext 0 v107_74) fun v108_75 =>
                  condV v108_75 (
                    M.bind (mentry x106_73) fun v109_77 =>
                    M.bind (ext 0 v109_77) fun v110_78 =>
                    M.bind (ext 1 v109_77) fun v111_79 =>
                    M.bind (nilck x0_73) fun v114_80 =>
                    M.bind (fld 0 v114_80) fun v115_81 =>
                    M.bind (ld true 3 v115_81) fun v116_82 =>
                    M.bind (cl 42 [v116_82, v110_78]) fun v118_83 =>
                    M.bind (ext 0 v118_83) fun v119_84 =>
                    M.bind (ext 1 v118_83) fun v120_85 =>
                    M.bind (binI .lss v111_79 (Value.int .i64 2)) fun v122_86 =>
                    condV v122_86 (
                      M.bind (nilck x0_73) fun v124_88 =>
                      M.bind (fld 4 v124_88) fun v125_89 =>
                      M.bind (ld false 1 v125_89) fun v126_90 =>
                      M.bind (lkp (Value.pointer none) false v126_90 v110_78) fun v128_91 =>
                      M.bind (cl 46 [v128_91, v119_84]) fun v130_92 =>
                      again_73 [x0_73, x106_73]
                    ) (
                      again_73 [x0_73, x106_73]
                    )
                  ) (
                    M.pure (Value.int .i64 0)
                  )
                ) [x0_48, v106_72]
              )
            ) [x0_4, x1_4, x8_4, x2_4, v78_47, Value.int .i64 0]
          )
        )
      )
    ) [a0, a1, a2, Value.slice none 0 0, v23_2, a2, v25_3, Value.int .i64 0]
  )
noncomputable def b12 : Code := match Tryz.f12.body with
  | some c => c
  | none => .skip
theorem e12 (cl : CallF) (a0 : Value) (a1 : Value) (a2 : Value) : bodyK Tryz.prog cl ann 12 Tryz.f12 b12 [a0, a1, a2] = s12 cl a0 a1 a2 := by kernel_rfl
theorem d12 {X : Exts} (hX : X 12 = none) (n : Nat) (a0 : Value) (a1 : Value) (a2 : Value) (H : Heap) : func Tryz.prog X ann (n + 1) 12 [a0, a1, a2] H = s12 (callF Tryz.prog X ann n) a0 a1 a2 n H :=
  (func_succ hX (by kernel_rfl) (by kernel_rfl : Tryz.f12.body = some b12) n (by rfl) H).trans (congrFun (congrFun (e12 _ a0 a1 a2) n) H)

/- function 13 -/
noncomputable def s13 (cl : CallF) (a0 : Value) : M Value :=
  M.bind (cl 40 [a0]) fun v7_1 =>
  condV v7_1 (
    M.pure (Value.slice none 0 0)
  ) (
    M.bind (nilck a0) fun v9_2 =>
    M.bind (fld 4 v9_2) fun v10_3 =>
    M.bind (ld false 1 v10_3) fun v11_4 =>
    M.bind (mrange v11_4) fun v12_5 =>
    loopV (fun again_6 vs_6 =>
      let x3_6 := mk [3, 12] vs_6 3
      let x12_6 := mk [3, 12] vs_6 12
      M.bind (mnext x12_6) fun v13_7 =>
      M.bind (ext 0 v13_7) fun v14_8 =>
      condV v14_8 (
        M.bind (mentry x12_6) fun v15_10 =>
        M.bind (ext 0 v15_10) fun v16_11 =>
        M.bind (ext 1 v15_10) fun v17_12 =>
        M.bind (cl 47 [v17_12]) fun v19_13 =>
        M.bind (lenL v19_13) fun v20_14 =>
        M.bind (binI .gtr v20_14 (Value.int .i64 0)) fun v21_15 =>
        condV v21_15 (
          M.bind (bldSlice 3 1 [.int .i64 0] 1 [(0, 1, v16_11)]) fun v24_17 =>
          M.bind (app 3 1 8 x3_6 v24_17) fun v25_18 =>
          again_6 [v25_18, x12_6]
        ) (
          again_6 [x3_6, x12_6]
        )
      ) (
        M.bind (cl 48 [x3_6]) fun v27_19 =>
        M.pure x3_6
      )
    ) [Value.slice none 0 0, v12_5]
  )
noncomputable def b13 : Code := match Tryz.f13.body with
  | some c => c
  | none => .skip
theorem e13 (cl : CallF) (a0 : Value) : bodyK Tryz.prog cl ann 13 Tryz.f13 b13 [a0] = s13 cl a0 := by kernel_rfl
theorem d13 {X : Exts} (hX : X 13 = none) (n : Nat) (a0 : Value) (H : Heap) : func Tryz.prog X ann (n + 1) 13 [a0] H = s13 (callF Tryz.prog X ann n) a0 n H :=
  (func_succ hX (by kernel_rfl) (by kernel_rfl : Tryz.f13.body = some b13) n (by rfl) H).trans (congrFun (congrFun (e13 _ a0) n) H)

/- function 15 -/
noncomputable def s15 (cl : CallF) (a0 : Value) (a1 : Value) : M Value :=
  M.bind (cl 40 [a0]) fun v11_1 =>
  condV v11_1 (
    M.pure (Value.slice none 0 0)
  ) (
    M.bind (nilck a0) fun v13_2 =>
    M.bind (fld 4 v13_2) fun v14_3 =>
    M.bind (ld false 1 v14_3) fun v15_4 =>
    M.bind (lkp (Value.pointer none) false v15_4 a1) fun v17_5 =>
    M.bind (cl 47 [v17_5]) fun v18_6 =>
    M.bind (lenL v18_6) fun v19_7 =>
    loopV (fun again_8 vs_8 =>
      let x0_8 := mk [0, 1, 5, 18, 19, 20] vs_8 0
      let x1_8 := mk [0, 1, 5, 18, 19, 20] vs_8 1
      let x5_8 := mk [0, 1, 5, 18, 19, 20] vs_8 5
      let x18_8 := mk [0, 1, 5, 18, 19, 20] vs_8 18
      let x19_8 := mk [0, 1, 5, 18, 19, 20] vs_8 19
      let x20_8 := mk [0, 1, 5, 18, 19, 20] vs_8 20
      M.bind (binI .lss x20_8 x19_8) fun v21_9 =>
      condV v21_9 (
        M.bind (idxS 1 x18_8 x20_8) fun v22_10 =>
        M.bind (ld false 1 v22_10) fun v23_11 =>
        M.bind (nilck x0_8) fun v26_12 =>
        M.bind (fld 4 v26_12) fun v27_13 =>
        M.bind (ld false 1 v27_13) fun v28_14 =>
        M.bind (lkp (Value.pointer none) false v28_14 x1_8) fun v30_15 =>
        M.bind (cl 51 [v30_15, v23_11]) fun v32_16 =>
        M.bind (ext 0 v32_16) fun v33_17 =>
        M.bind (ext 1 v32_16) fun v34_18 =>
        M.bind (alloc 57 (List.replicate 64 (Value.int .u8 0))) fun v8_19 =>
        M.bind (st 64 v8_19 v33_17) fun _ =>
        M.bind (bld [.int .i64 0, .int .i64 0] [(0, 1, x1_8), (1, 1, v23_11)]) fun v38_21 =>
        M.bind (ld true 64 v8_19) fun v39_22 =>
        M.bind (bld ([.int .i64 0, .int .i64 0] ++ List.replicate 64 (Value.int .u8 0)) [(0, 2, v38_21), (2, 64, v39_22)]) fun v40_23 =>
        M.bind (bldSlice 59 66 ([.int .i64 0, .int .i64 0] ++ List.replicate 64 (Value.int .u8 0)) 1 [(0, 66, v40_23)]) fun v41_24 =>
        M.bind (app 59 66 80 x5_8 v41_24) fun v42_25 =>
        M.bind (binI .add x20_8 (Value.int .i64 1)) fun v43_26 =>
        again_8 [x0_8, x1_8, v42_25, x18_8, x19_8, v43_26]
      ) (
        M.pure x5_8
      )
    ) [a0, a1, Value.slice none 0 0, v18_6, v19_7, Value.int .i64 0]
  )
noncomputable def b15 : Code := match Tryz.f15.body with
  | some c => c
  | none => .skip
theorem e15 (cl : CallF) (a0 : Value) (a1 : Value) : bodyK Tryz.prog cl ann 15 Tryz.f15 b15 [a0, a1] = s15 cl a0 a1 := by kernel_rfl
theorem d15 {X : Exts} (hX : X 15 = none) (n : Nat) (a0 : Value) (a1 : Value) (H : Heap) : func Tryz.prog X ann (n + 1) 15 [a0, a1] H = s15 (callF Tryz.prog X ann n) a0 a1 n H :=
  (func_succ hX (by kernel_rfl) (by kernel_rfl : Tryz.f15.body = some b15) n (by rfl) H).trans (congrFun (congrFun (e15 _ a0 a1) n) H)

/- function 17 -/
noncomputable def s17 (cl : CallF) (a0 : Value) : M Value :=
  M.bind (alloc 32 [.int .i64 0, .int .i64 0, .int .i64 0]) fun v2_1 =>
  M.bind (binI .rem a0 (Value.int .u8 4)) fun v4_2 =>
  M.bind (cvt .i64 v4_2) fun v5_3 =>
  M.bind (binI .add (Value.int .i64 3) v5_3) fun v6_4 =>
  M.bind (bld [.int .i64 0, .int .i64 0, .int .i64 0] [(0, 1, v6_4), (1, 1, Value.int .i64 8), (2, 1, Value.int .i64 40)]) fun v7_5 =>
  M.bind (st 3 v2_1 v7_5) fun _ =>
  M.bind (ld true 3 v2_1) fun r_7 =>
  M.pure r_7
noncomputable def b17 : Code := match Tryz.f17.body with
  | some c => c
  | none => .skip
theorem e17 (cl : CallF) (a0 : Value) : bodyK Tryz.prog cl ann 17 Tryz.f17 b17 [a0] = s17 cl a0 := by kernel_rfl
theorem d17 {X : Exts} (hX : X 17 = none) (n : Nat) (a0 : Value) (H : Heap) : func Tryz.prog X ann (n + 1) 17 [a0] H = s17 (callF Tryz.prog X ann n) a0 n H :=
  (func_succ hX (by kernel_rfl) (by kernel_rfl : Tryz.f17.body = some b17) n (by rfl) H).trans (congrFun (congrFun (e17 _ a0) n) H)

/- function 18 -/
noncomputable def s18 (cl : CallF) (a0 : Value) (a1 : Value) : M Value :=
  M.bind (box 32 a0) fun v2_1 =>
  M.bind (cl 53 [a1]) fun v10_2 =>
  M.bind (ext 0 v10_2) fun v11_3 =>
  M.bind (ext 1 v10_2) fun v12_4 =>
  M.bind (binI .neq v12_4 (Value.int .i64 0)) fun v14_5 =>
  M.bind (guardM v14_5 false (ld true 3 v2_1)) fun v16_6 =>
  M.bind (guardM v14_5 false (cl 54 [v16_6])) fun v17_7 =>
  M.bind (guardM v14_5 false (un .not v17_7)) fun v18_8 =>
  M.bind (pck v14_5 (Value.bool true) v18_8) fun v19_9 =>
  condV v19_9 (
    M.pure (Value.tuple ⟨[Value.pointer none, Value.int .i64 2]⟩)
  ) (
    M.bind (ld true 3 v2_1) fun v20_10 =>
    M.bind (mkMap) fun v22_11 =>
    M.bind (bld [.int .i64 0, .int .i64 0, .int .i64 0, .pointer none, .map none] [(0, 3, v20_10), (3, 1, v11_3), (4, 1, v22_11)]) fun v23_12 =>
    M.bind (box 36 v23_12) fun v24_13 =>
    M.pure (Value.tuple ⟨[v24_13, Value.int .i64 0]⟩)
  )
noncomputable def b18 : Code := match Tryz.f18.body with
  | some c => c
  | none => .skip
theorem e18 (cl : CallF) (a0 : Value) (a1 : Value) : bodyK Tryz.prog cl ann 18 Tryz.f18 b18 [a0, a1] = s18 cl a0 a1 := by kernel_rfl
theorem d18 {X : Exts} (hX : X 18 = none) (n : Nat) (a0 : Value) (a1 : Value) (H : Heap) : func Tryz.prog X ann (n + 1) 18 [a0, a1] H = s18 (callF Tryz.prog X ann n) a0 a1 n H :=
  (func_succ hX (by kernel_rfl) (by kernel_rfl : Tryz.f18.body = some b18) n (by rfl) H).trans (congrFun (congrFun (e18 _ a0 a1) n) H)

/- function 19 -/
noncomputable def s19 (cl : CallF) (a0 : Value) : M Value :=
  M.bind (box 32 a0) fun v1_1 =>
  loopV (fun again_2 vs_2 =>
    let x1_2 := mk [1, 5, 6] vs_2 1
    let x5_2 := mk [1, 5, 6] vs_2 5
    let x6_2 := mk [1, 5, 6] vs_2 6
    M.bind (fld 0 x1_2) fun v16_3 =>
    M.bind (ld false 1 v16_3) fun v17_4 =>
    M.bind (binI .lss x6_2 v17_4) fun v18_5 =>
    condV v18_5 (
      M.bind (fld 1 x1_2) fun v22_6 =>
      M.bind (ld false 1 v22_6) fun v23_7 =>
      M.bind (binI .add (Value.int .i64 2) v23_7) fun v24_8 =>
      M.bind (bldSlice 3 1 [.int .i64 0] 1 [(0, 1, v24_8)]) fun v25_9 =>
      M.bind (app 3 1 8 x5_2 v25_9) fun v26_10 =>
      M.bind (binI .add x6_2 (Value.int .i64 1)) fun v20_11 =>
      again_2 [x1_2, v26_10, v20_11]
    ) (
      M.bind (bldSlice 3 1 [.int .i64 0] 1 [(0, 1, Value.int .i64 50)]) fun v28_12 =>
      M.bind (app 3 1 8 x5_2 v28_12) fun v29_13 =>
      M.bind (cl 32 [v29_13]) fun v32_14 =>
      M.bind (ext 0 v32_14) fun v33_15 =>
      M.bind (ext 1 v32_14) fun v34_16 =>
      M.bind (cl 33 [v29_13]) fun v37_17 =>
      M.bind (ext 0 v37_17) fun v38_18 =>
      M.bind (ext 1 v37_17) fun v39_19 =>
      M.bind (ld true 3 x1_2) fun v41_20 =>
      M.bind (cl 34 [v41_20]) fun v42_21 =>
      M.bind (ext 0 v42_21) fun v43_22 =>
      M.bind (ext 1 v42_21) fun v44_23 =>
      M.bind (alloc 40 ([.int .i64 0, .int .i64 0, .int .i64 0] ++ List.replicate 16 (Value.int .u8 0) ++ [.int .i64 0, .bool false])) fun v11_24 =>
      M.bind (st 21 v11_24 v43_22) fun _ =>
      M.bind (binI .neq v34_16 (Value.int .i64 0)) fun v46_26 =>
      M.bind (guardM v46_26 false (M.pure v39_19)) fun v48_27 =>
      M.bind (guardM v46_26 false (binI .neq v48_27 (Value.int .i64 0))) fun v49_28 =>
      M.bind (pck v46_26 (Value.bool true) v49_28) fun v50_29 =>
      M.bind (guardM v50_29 false (M.pure v44_23)) fun v52_30 =>
      M.bind (guardM v50_29 false (binI .neq v52_30 (Value.int .i64 0))) fun v53_31 =>
      M.bind (pck v50_29 (Value.bool true) v53_31) fun v54_32 =>
      condV v54_32 (
        M.pure (Value.tuple ⟨[Value.pointer none, Value.pointer none, Value.pointer none]⟩)
      ) (
        M.bind (ld true 21 v11_24) fun v57_33 =>
        M.bind (cl 35 [v33_15, Value.int .u64 9, Value.int .u64 0, v57_33]) fun v58_34 =>
        M.bind (ext 0 v58_34) fun v59_35 =>
        M.bind (ext 1 v58_34) fun v60_36 =>
        M.bind (ld true 21 v11_24) fun v63_37 =>
        M.bind (cl 36 [v38_18, Value.int .u64 9, Value.int .u64 0, v63_37]) fun v64_38 =>
        M.bind (ext 0 v64_38) fun v65_39 =>
        M.bind (ext 1 v64_38) fun v66_40 =>
        M.bind (binI .neq v60_36 (Value.int .i64 0)) fun v68_41 =>
        M.bind (guardM v68_41 false (M.pure v66_40)) fun v70_42 =>
        M.bind (guardM v68_41 false (binI .neq v70_42 (Value.int .i64 0))) fun v71_43 =>
        M.bind (pck v68_41 (Value.bool true) v71_43) fun v72_44 =>
        condV v72_44 (
          M.pure (Value.tuple ⟨[Value.pointer none, Value.pointer none, Value.pointer none]⟩)
        ) (
          M.pure (Value.tuple ⟨[v59_35, v33_15, v65_39]⟩)
        )
      )
    )
  ) [v1_1, Value.slice none 0 0, Value.int .i64 0]
noncomputable def b19 : Code := match Tryz.f19.body with
  | some c => c
  | none => .skip
theorem e19 (cl : CallF) (a0 : Value) : bodyK Tryz.prog cl ann 19 Tryz.f19 b19 [a0] = s19 cl a0 := by kernel_rfl
theorem d19 {X : Exts} (hX : X 19 = none) (n : Nat) (a0 : Value) (H : Heap) : func Tryz.prog X ann (n + 1) 19 [a0] H = s19 (callF Tryz.prog X ann n) a0 n H :=
  (func_succ hX (by kernel_rfl) (by kernel_rfl : Tryz.f19.body = some b19) n (by rfl) H).trans (congrFun (congrFun (e19 _ a0) n) H)

/- function 20 -/
noncomputable def s20 (cl : CallF) (a0 : Value) (a1 : Value) (a2 : Value) : M Value :=
  M.bind (box 55 a2) fun v5_1 =>
  M.bind (alloc 57 (List.replicate 64 (Value.int .u8 0))) fun v6_2 =>
  M.bind (cl 40 [a0]) fun v14_3 =>
  M.bind (guardM v14_3 false (M.pure a1)) fun v16_4 =>
  M.bind (guardM v14_3 false (cl 37 [v16_4])) fun v17_5 =>
  M.bind (guardM v14_3 false (binI .eql v17_5 (Value.int .u64 0))) fun v18_6 =>
  M.bind (pck v14_3 (Value.bool true) v18_6) fun v19_7 =>
  condV v19_7 (
    M.bind (bld (List.replicate 64 (Value.int .u8 0)) []) fun v20_8 =>
    M.bind (st 64 v6_2 v20_8) fun _ =>
    M.bind (ld true 64 v6_2) fun r_10 =>
    M.pure (Value.tuple ⟨[r_10, Value.int .i64 1]⟩)
  ) (
    M.bind (ld true 2 v5_1) fun v22_11 =>
    M.bind (cl 41 [a0, v22_11]) fun v23_12 =>
    M.bind (un .not v23_12) fun v24_13 =>
    condV v24_13 (
      M.bind (bld (List.replicate 64 (Value.int .u8 0)) []) fun v25_14 =>
      M.bind (st 64 v6_2 v25_14) fun _ =>
      M.bind (ld true 64 v6_2) fun r_16 =>
      M.pure (Value.tuple ⟨[r_16, Value.int .i64 2]⟩)
    ) (
      M.bind (nilck a0) fun v28_17 =>
      M.bind (fld 4 v28_17) fun v29_18 =>
      M.bind (ld false 1 v29_18) fun v30_19 =>
      M.bind (fld 0 v5_1) fun v31_20 =>
      M.bind (ld false 1 v31_20) fun v32_21 =>
      M.bind (lkp (Value.pointer none) false v30_19 v32_21) fun v33_22 =>
      M.bind (fld 1 v5_1) fun v34_23 =>
      M.bind (ld false 1 v34_23) fun v35_24 =>
      M.bind (alloc 57 (List.replicate 64 (Value.int .u8 0))) fun v8_25 =>
      M.bind (cl 51 [v33_22, v35_24]) fun v36_26 =>
      M.bind (ext 0 v36_26) fun v37_27 =>
      M.bind (ext 1 v36_26) fun v38_28 =>
      M.bind (st 64 v8_25 v37_27) fun _ =>
      condV v38_28 (
        M.bind (fld 0 v5_1) fun v41_30 =>
        M.bind (ld false 1 v41_30) fun v42_31 =>
        M.bind (cl 43 [a0, v42_31]) fun v43_32 =>
        M.bind (ld true 64 v8_25) fun v44_33 =>
        M.bind (st 64 v6_2 v44_33) fun _ =>
        M.bind (ld true 64 v6_2) fun r_35 =>
        M.pure (Value.tuple ⟨[r_35, Value.int .i64 0]⟩)
      ) (
        M.bind (ld true 2 v5_1) fun v47_36 =>
        M.bind (cl 55 [a1, v47_36]) fun v48_37 =>
        M.bind (ext 0 v48_37) fun v49_38 =>
        M.bind (ext 1 v48_37) fun v50_39 =>
        M.bind (alloc 57 (List.replicate 64 (Value.int .u8 0))) fun v10_40 =>
        M.bind (st 64 v10_40 v49_38) fun _ =>
        M.bind (binI .neq v50_39 (Value.int .i64 0)) fun v52_42 =>
        condV v52_42 (
          M.bind (bld (List.replicate 64 (Value.int .u8 0)) []) fun v53_43 =>
          M.bind (st 64 v6_2 v53_43) fun _ =>
          M.bind (ld true 64 v6_2) fun r_45 =>
          M.pure (Value.tuple ⟨[r_45, v50_39]⟩)
        ) (
          M.bind (fld 0 v5_1) fun v56_46 =>
          M.bind (ld false 1 v56_46) fun v57_47 =>
          M.bind (cl 43 [a0, v57_47]) fun v58_48 =>
          M.bind (binP .neq v58_48 (Value.pointer none)) fun v60_49 =>
          let j_50 := fun (y6_50 : Value) (y10_50 : Value) =>
            M.bind (ld true 64 y10_50) fun v66_51 =>
            M.bind (st 64 y6_50 v66_51) fun _ =>
            M.bind (ld true 64 y6_50) fun r_53 =>
            M.pure (Value.tuple ⟨[r_53, Value.int .i64 0]⟩)
          condV v60_49 (
            M.bind (fld 1 v5_1) fun v62_54 =>
            M.bind (ld false 1 v62_54) fun v63_55 =>
            M.bind (ld true 64 v10_40) fun v64_56 =>
            M.bind (cl 56 [v58_48, v63_55, v64_56]) fun v65_57 =>
            j_50 v6_2 v10_40
          ) (
            j_50 v6_2 v10_40
          )
        )
      )
    )
  )
noncomputable def b20 : Code := match Tryz.f20.body with
  | some c => c
  | none => .skip
theorem e20 (cl : CallF) (a0 : Value) (a1 : Value) (a2 : Value) : bodyK Tryz.prog cl ann 20 Tryz.f20 b20 [a0, a1, a2] = s20 cl a0 a1 a2 := by kernel_rfl
theorem d20 {X : Exts} (hX : X 20 = none) (n : Nat) (a0 : Value) (a1 : Value) (a2 : Value) (H : Heap) : func Tryz.prog X ann (n + 1) 20 [a0, a1, a2] H = s20 (callF Tryz.prog X ann n) a0 a1 a2 n H :=
  (func_succ hX (by kernel_rfl) (by kernel_rfl : Tryz.f20.body = some b20) n (by rfl) H).trans (congrFun (congrFun (e20 _ a0 a1 a2) n) H)

/- function 21 -/
noncomputable def s21 (cl : CallF) (a0 : Value) (a1 : Value) : M Value :=
  M.bind (lenL a0) fun v7_1 =>
  M.bind (lenL a1) fun v9_2 =>
  M.bind (binI .neq v7_1 v9_2) fun v10_3 =>
  condV v10_3 (
    M.pure (Value.bool false)
  ) (
    loopV (fun again_4 vs_4 =>
      let x0_4 := mk [0, 1, 5] vs_4 0
      let x1_4 := mk [0, 1, 5] vs_4 1
      let x5_4 := mk [0, 1, 5] vs_4 5
      M.bind (lenL x0_4) fun v13_5 =>
      M.bind (binI .lss x5_4 v13_5) fun v14_6 =>
      condV v14_6 (
        M.bind (idxS 1 x0_4 x5_4) fun v19_7 =>
        M.bind (ld false 1 v19_7) fun v20_8 =>
        M.bind (idxS 1 x1_4 x5_4) fun v23_9 =>
        M.bind (ld false 1 v23_9) fun v24_10 =>
        M.bind (binI .neq v20_8 v24_10) fun v25_11 =>
        condV v25_11 (
          M.pure (Value.bool false)
        ) (
          M.bind (binI .add x5_4 (Value.int .i64 1)) fun v16_12 =>
          again_4 [x0_4, x1_4, v16_12]
        )
      ) (
        M.pure (Value.bool true)
      )
    ) [a0, a1, Value.int .i64 0]
  )
noncomputable def b21 : Code := match Tryz.f21.body with
  | some c => c
  | none => .skip
theorem e21 (cl : CallF) (a0 : Value) (a1 : Value) : bodyK Tryz.prog cl ann 21 Tryz.f21 b21 [a0, a1] = s21 cl a0 a1 := by kernel_rfl
theorem d21 {X : Exts} (hX : X 21 = none) (n : Nat) (a0 : Value) (a1 : Value) (H : Heap) : func Tryz.prog X ann (n + 1) 21 [a0, a1] H = s21 (callF Tryz.prog X ann n) a0 a1 n H :=
  (func_succ hX (by kernel_rfl) (by kernel_rfl : Tryz.f21.body = some b21) n (by rfl) H).trans (congrFun (congrFun (e21 _ a0 a1) n) H)

/- function 22 -/
noncomputable def s22 (cl : CallF) (a0 : Value) : M Value :=
  M.bind (cl 40 [a0]) fun v4_1 =>
  condV v4_1 (
    M.pure (Value.slice none 0 0)
  ) (
    M.bind (nilck a0) fun v6_2 =>
    M.bind (fld 3 v6_2) fun v7_3 =>
    M.bind (ld false 1 v7_3) fun v8_4 =>
    M.bind (cl 57 [v8_4]) fun v9_5 =>
    M.pure v9_5
  )
noncomputable def b22 : Code := match Tryz.f22.body with
  | some c => c
  | none => .skip
theorem e22 (cl : CallF) (a0 : Value) : bodyK Tryz.prog cl ann 22 Tryz.f22 b22 [a0] = s22 cl a0 := by kernel_rfl
theorem d22 {X : Exts} (hX : X 22 = none) (n : Nat) (a0 : Value) (H : Heap) : func Tryz.prog X ann (n + 1) 22 [a0] H = s22 (callF Tryz.prog X ann n) a0 n H :=
  (func_succ hX (by kernel_rfl) (by kernel_rfl : Tryz.f22.body = some b22) n (by rfl) H).trans (congrFun (congrFun (e22 _ a0) n) H)

/- function 23 -/
noncomputable def s23 (cl : CallF) : M Value :=
  M.bind (cl 17 [Value.int .u8 0]) fun v7_1 =>
  M.bind (cl 18 [v7_1, Value.int .i64 2]) fun v8_2 =>
  M.bind (ext 0 v8_2) fun v9_3 =>
  M.bind (ext 1 v8_2) fun v10_4 =>
  M.bind (binI .neq v10_4 (Value.int .i64 0)) fun v12_5 =>
  M.bind (guardM v12_5 false (M.pure v9_3)) fun v14_6 =>
  M.bind (guardM v12_5 false (binP .eql v14_6 (Value.pointer none))) fun v15_7 =>
  M.bind (pck v12_5 (Value.bool true) v15_7) fun v16_8 =>
  condV v16_8 (
    M.pure (Value.bool false)
  ) (
    M.bind (bld ([.int .i64 0, .int .i64 0] ++ List.replicate 64 (Value.int .u8 0)) []) fun v18_9 =>
    M.bind (bldSlice 59 66 ([.int .i64 0, .int .i64 0] ++ List.replicate 64 (Value.int .u8 0)) 1 [(0, 66, v18_9)]) fun v19_10 =>
    M.bind (cl 12 [v9_3, Value.int .u64 1, v19_10]) fun v20_11 =>
    M.bind (bld [.int .i64 0, .int .i64 0] [(0, 1, Value.int .i64 1)]) fun v22_12 =>
    M.bind (bld ([.int .i64 0, .int .i64 0] ++ List.replicate 64 (Value.int .u8 0)) [(0, 2, v22_12)]) fun v23_13 =>
    M.bind (bldSlice 59 66 ([.int .i64 0, .int .i64 0] ++ List.replicate 64 (Value.int .u8 0)) 1 [(0, 66, v23_13)]) fun v24_14 =>
    M.bind (cl 12 [v9_3, Value.int .u64 2, v24_14]) fun v25_15 =>
    M.bind (bld [.int .i64 0, .int .i64 0] [(0, 1, Value.int .i64 2)]) fun v27_16 =>
    M.bind (bld ([.int .i64 0, .int .i64 0] ++ List.replicate 64 (Value.int .u8 0)) [(0, 2, v27_16)]) fun v28_17 =>
    M.bind (bldSlice 59 66 ([.int .i64 0, .int .i64 0] ++ List.replicate 64 (Value.int .u8 0)) 1 [(0, 66, v28_17)]) fun v29_18 =>
    M.bind (cl 12 [v9_3, Value.int .u64 3, v29_18]) fun v30_19 =>
    M.bind (cl 12 [v9_3, Value.int .u64 0, Value.slice none 0 0]) fun v32_20 =>
    M.bind (binI .eql v32_20 (Value.int .i64 2)) fun v33_21 =>
    M.bind (guardM v33_21 true (M.pure v20_11)) fun v35_22 =>
    M.bind (guardM v33_21 true (binI .eql v35_22 (Value.int .i64 0))) fun v36_23 =>
    M.bind (pck v33_21 v36_23 (Value.bool false)) fun v37_24 =>
    M.bind (guardM v37_24 true (M.pure v25_15)) fun v39_25 =>
    M.bind (guardM v37_24 true (binI .eql v39_25 (Value.int .i64 0))) fun v40_26 =>
    M.bind (pck v37_24 v40_26 (Value.bool false)) fun v41_27 =>
    M.bind (guardM v41_27 true (M.pure v30_19)) fun v43_28 =>
    M.bind (guardM v41_27 true (binI .eql v43_28 (Value.int .i64 10))) fun v44_29 =>
    M.bind (pck v41_27 v44_29 (Value.bool false)) fun v45_30 =>
    M.bind (guardM v45_30 true (M.pure v9_3)) fun v47_31 =>
    M.bind (guardM v45_30 true (cl 13 [v47_31])) fun v48_32 =>
    M.bind (guardM v45_30 true (bldSlice 3 1 [.int .i64 0] 2 [(0, 1, Value.int .i64 0), (1, 1, Value.int .i64 1)])) fun v49_33 =>
    M.bind (guardM v45_30 true (cl 21 [v48_32, v49_33])) fun v50_34 =>
    M.bind (pck v45_30 v50_34 (Value.bool false)) fun v51_35 =>
    M.bind (guardM v51_35 true (M.pure v9_3)) fun v53_36 =>
    M.bind (guardM v51_35 true (cl 27 [v53_36])) fun v54_37 =>
    M.bind (guardM v51_35 true (binI .eql v54_37 (Value.int .u64 1))) fun v55_38 =>
    M.bind (pck v51_35 v55_38 (Value.bool false)) fun v56_39 =>
    M.bind (guardM v56_39 true (M.pure v9_3)) fun v58_40 =>
    M.bind (guardM v56_39 true (cl 24 [v58_40, Value.int .i64 0])) fun v59_41 =>
    M.bind (guardM v56_39 true (binI .eql v59_41 (Value.int .i64 0))) fun v60_42 =>
    M.bind (pck v56_39 v60_42 (Value.bool false)) fun v61_43 =>
    M.bind (guardM v61_43 true (M.pure v9_3)) fun v63_44 =>
    M.bind (guardM v61_43 true (cl 27 [v63_44])) fun v64_45 =>
    M.bind (guardM v61_43 true (binI .eql v64_45 (Value.int .u64 2))) fun v65_46 =>
    M.bind (pck v61_43 v65_46 (Value.bool false)) fun v66_47 =>
    M.pure v66_47
  )
noncomputable def b23 : Code := match Tryz.f23.body with
  | some c => c
  | none => .skip
theorem e23 (cl : CallF) : bodyK Tryz.prog cl ann 23 Tryz.f23 b23 [] = s23 cl := by kernel_rfl
theorem d23 {X : Exts} (hX : X 23 = none) (n : Nat) (H : Heap) : func Tryz.prog X ann (n + 1) 23 [] H = s23 (callF Tryz.prog X ann n) n H :=
  (func_succ hX (by kernel_rfl) (by kernel_rfl : Tryz.f23.body = some b23) n (by rfl) H).trans (congrFun (congrFun (e23 _) n) H)

/- function 24 -/
noncomputable def s24 (cl : CallF) (a0 : Value) (a1 : Value) : M Value :=
  M.bind (cl 40 [a0]) fun v7_1 =>
  condV v7_1 (
    M.pure (Value.int .i64 1)
  ) (
    M.bind (cl 58 [a0, a1]) fun v11_2 =>
    M.bind (un .not v11_2) fun v12_3 =>
    condV v12_3 (
      M.pure (Value.int .i64 2)
    ) (
      M.bind (nilck a0) fun v14_4 =>
      M.bind (fld 4 v14_4) fun v15_5 =>
      M.bind (ld false 1 v15_5) fun v16_6 =>
      M.bind (lkp (Value.pointer none) false v16_6 a1) fun v18_7 =>
      M.bind (cl 59 [v18_7]) fun v19_8 =>
      M.bind (nilck a0) fun v21_9 =>
      M.bind (fld 3 v21_9) fun v22_10 =>
      M.bind (ld false 1 v22_10) fun v23_11 =>
      M.bind (cl 45 [v23_11, a1, Value.bool false]) fun v25_12 =>
      M.pure (Value.int .i64 0)
    )
  )
noncomputable def b24 : Code := match Tryz.f24.body with
  | some c => c
  | none => .skip
theorem e24 (cl : CallF) (a0 : Value) (a1 : Value) : bodyK Tryz.prog cl ann 24 Tryz.f24 b24 [a0, a1] = s24 cl a0 a1 := by kernel_rfl
theorem d24 {X : Exts} (hX : X 24 = none) (n : Nat) (a0 : Value) (a1 : Value) (H : Heap) : func Tryz.prog X ann (n + 1) 24 [a0, a1] H = s24 (callF Tryz.prog X ann n) a0 a1 n H :=
  (func_succ hX (by kernel_rfl) (by kernel_rfl : Tryz.f24.body = some b24) n (by rfl) H).trans (congrFun (congrFun (e24 _ a0 a1) n) H)

/- function 25 -/
noncomputable def s25 (cl : CallF) (a0 : Value) (a1 : Value) : M Value :=
  M.bind (cl 40 [a0]) fun v7_1 =>
  condV v7_1 (
    M.pure (Value.int .i64 1)
  ) (
    M.bind (cl 58 [a0, a1]) fun v11_2 =>
    M.bind (un .not v11_2) fun v12_3 =>
    condV v12_3 (
      M.pure (Value.int .i64 2)
    ) (
      M.bind (nilck a0) fun v14_4 =>
      M.bind (fld 3 v14_4) fun v15_5 =>
      M.bind (ld false 1 v15_5) fun v16_6 =>
      M.bind (cl 60 [v16_6, a1]) fun v18_7 =>
      M.bind (nilck a0) fun v20_8 =>
      M.bind (fld 4 v20_8) fun v21_9 =>
      M.bind (ld false 1 v21_9) fun v22_10 =>
      M.bind (mdel v22_10 a1) fun _ =>
      M.pure (Value.int .i64 0)
    )
  )
noncomputable def b25 : Code := match Tryz.f25.body with
  | some c => c
  | none => .skip
theorem e25 (cl : CallF) (a0 : Value) (a1 : Value) : bodyK Tryz.prog cl ann 25 Tryz.f25 b25 [a0, a1] = s25 cl a0 a1 := by kernel_rfl
theorem d25 {X : Exts} (hX : X 25 = none) (n : Nat) (a0 : Value) (a1 : Value) (H : Heap) : func Tryz.prog X ann (n + 1) 25 [a0, a1] H = s25 (callF Tryz.prog X ann n) a0 a1 n H :=
  (func_succ hX (by kernel_rfl) (by kernel_rfl : Tryz.f25.body = some b25) n (by rfl) H).trans (congrFun (congrFun (e25 _ a0 a1) n) H)

/- function 26 -/
noncomputable def s26 (cl : CallF) (a0 : Value) (a1 : Value) : M Value :=
  M.bind (cl 40 [a0]) fun v8_1 =>
  M.bind (guardM v8_1 false (M.pure a0)) fun v10_2 =>
  M.bind (guardM v8_1 false (M.pure a1)) fun v11_3 =>
  M.bind (guardM v8_1 false (cl 58 [v10_2, v11_3])) fun v12_4 =>
  M.bind (guardM v8_1 false (un .not v12_4)) fun v13_5 =>
  M.bind (pck v8_1 (Value.bool true) v13_5) fun v14_6 =>
  condV v14_6 (
    M.pure (Value.slice none 0 0)
  ) (
    M.bind (nilck a0) fun v16_7 =>
    M.bind (fld 0 v16_7) fun v17_8 =>
    M.bind (fld 0 v17_8) fun v18_9 =>
    M.bind (ld false 1 v18_9) fun v19_10 =>
    M.bind (mkSlice 4 1 1 [.bool false] v19_10 v19_10) fun v20_11 =>
    M.bind (lenL v20_11) fun v22_12 =>
    loopV (fun again_13 vs_13 =>
      let x0_13 := mk [0, 1, 5, 22, 23] vs_13 0
      let x1_13 := mk [0, 1, 5, 22, 23] vs_13 1
      let x5_13 := mk [0, 1, 5, 22, 23] vs_13 5
      let x22_13 := mk [0, 1, 5, 22, 23] vs_13 22
      let x23_13 := mk [0, 1, 5, 22, 23] vs_13 23
      M.bind (binI .lss x23_13 x22_13) fun v24_14 =>
      condV v24_14 (
        M.bind (nilck x0_13) fun v30_15 =>
        M.bind (fld 4 v30_15) fun v31_16 =>
        M.bind (ld false 1 v31_16) fun v32_17 =>
        M.bind (lkp (Value.pointer none) false v32_17 x1_13) fun v34_18 =>
        M.bind (cl 51 [v34_18, x23_13]) fun v36_19 =>
        M.bind (ext 0 v36_19) fun v37_20 =>
        M.bind (ext 1 v36_19) fun v38_21 =>
        M.bind (idxS 1 x5_13 x23_13) fun v39_22 =>
        M.bind (st 1 v39_22 v38_21) fun _ =>
        M.bind (binI .add x23_13 (Value.int .i64 1)) fun v40_24 =>
        again_13 [x0_13, x1_13, x5_13, x22_13, v40_24]
      ) (
        M.pure x5_13
      )
    ) [a0, a1, v20_11, v22_12, Value.int .i64 0]
  )
noncomputable def b26 : Code := match Tryz.f26.body with
  | some c => c
  | none => .skip
theorem e26 (cl : CallF) (a0 : Value) (a1 : Value) : bodyK Tryz.prog cl ann 26 Tryz.f26 b26 [a0, a1] = s26 cl a0 a1 := by kernel_rfl
theorem d26 {X : Exts} (hX : X 26 = none) (n : Nat) (a0 : Value) (a1 : Value) (H : Heap) : func Tryz.prog X ann (n + 1) 26 [a0, a1] H = s26 (callF Tryz.prog X ann n) a0 a1 n H :=
  (func_succ hX (by kernel_rfl) (by kernel_rfl : Tryz.f26.body = some b26) n (by rfl) H).trans (congrFun (congrFun (e26 _ a0 a1) n) H)

/- function 27 -/
noncomputable def s27 (cl : CallF) (a0 : Value) : M Value :=
  M.bind (cl 13 [a0]) fun v8_1 =>
  M.bind (lenL v8_1) fun v9_2 =>
  loopV (fun again_3 vs_3 =>
    let x0_3 := mk [0, 3, 8, 9, 10] vs_3 0
    let x3_3 := mk [0, 3, 8, 9, 10] vs_3 3
    let x8_3 := mk [0, 3, 8, 9, 10] vs_3 8
    let x9_3 := mk [0, 3, 8, 9, 10] vs_3 9
    let x10_3 := mk [0, 3, 8, 9, 10] vs_3 10
    M.bind (binI .lss x10_3 x9_3) fun v11_4 =>
    condV v11_4 (
      let j_5 := fun (y0_5 : Value) (y3_5 : Value) (y8_5 : Value) (y9_5 : Value) (y10_5 : Value) =>
        M.bind (binI .add y10_5 (Value.int .i64 1)) fun v29_6 =>
        again_3 [y0_5, y3_5, y8_5, y9_5, v29_6]
      M.bind (idxS 1 x8_3 x10_3) fun v12_7 =>
      M.bind (ld false 1 v12_7) fun v13_8 =>
      M.bind (nilck x0_3) fun v15_9 =>
      M.bind (fld 4 v15_9) fun v16_10 =>
      M.bind (ld false 1 v16_10) fun v17_11 =>
      M.bind (lkp (Value.pointer none) false v17_11 v13_8) fun v19_12 =>
      M.bind (cl 61 [v19_12]) fun v20_13 =>
      M.bind (binI .eql x3_3 (Value.int .u64 0)) fun v22_14 =>
      M.bind (guardM v22_14 false (M.pure v20_13)) fun v24_15 =>
      M.bind (guardM v22_14 false (M.pure x3_3)) fun v25_16 =>
      M.bind (guardM v22_14 false (binI .lss v24_15 v25_16)) fun v26_17 =>
      M.bind (pck v22_14 (Value.bool true) v26_17) fun v27_18 =>
      condV v27_18 (
        j_5 x0_3 v20_13 x8_3 x9_3 x10_3
      ) (
        j_5 x0_3 x3_3 x8_3 x9_3 x10_3
      )
    ) (
      M.pure x3_3
    )
  ) [a0, Value.int .u64 0, v8_1, v9_2, Value.int .i64 0]
noncomputable def b27 : Code := match Tryz.f27.body with
  | some c => c
  | none => .skip
theorem e27 (cl : CallF) (a0 : Value) : bodyK Tryz.prog cl ann 27 Tryz.f27 b27 [a0] = s27 cl a0 := by kernel_rfl
theorem d27 {X : Exts} (hX : X 27 = none) (n : Nat) (a0 : Value) (H : Heap) : func Tryz.prog X ann (n + 1) 27 [a0] H = s27 (callF Tryz.prog X ann n) a0 n H :=
  (func_succ hX (by kernel_rfl) (by kernel_rfl : Tryz.f27.body = some b27) n (by rfl) H).trans (congrFun (congrFun (e27 _ a0) n) H)

/- function 28 -/
noncomputable def s28 (cl : CallF) (a0 : Value) (a1 : Value) : M Value :=
  M.bind (cl 40 [a0]) fun v7_1 =>
  condV v7_1 (
    M.pure (Value.bool false)
  ) (
    M.bind (cl 62 [a1]) fun v9_2 =>
    M.bind (cl 13 [a0]) fun v11_3 =>
    M.bind (app 3 1 8 v9_2 v11_3) fun v12_4 =>
    M.bind (cl 48 [v12_4]) fun v14_5 =>
    M.bind (nilck a0) fun v19_6 =>
    M.bind (fld 3 v19_6) fun v20_7 =>
    M.bind (ld false 1 v20_7) fun v21_8 =>
    M.bind (cl 63 [v12_4]) fun v16_9 =>
    M.bind getH fun h_10 =>
    M.bind (chk (ld false 1 v20_7) v21_8 h_10) fun _ =>
    M.bind (lenL v16_9) fun v17_11 =>
    M.bind (cl 64 [v21_8]) fun v22_12 =>
    M.bind getH fun h_13 =>
    M.bind (chk (lenL v16_9) v17_11 h_13) fun _ =>
    M.bind (binI .leq v17_11 v22_12) fun v23_14 =>
    M.pure v23_14
  )
noncomputable def b28 : Code := match Tryz.f28.body with
  | some c => c
  | none => .skip
theorem e28 (cl : CallF) (a0 : Value) (a1 : Value) : bodyK Tryz.prog cl ann 28 Tryz.f28 b28 [a0, a1] = s28 cl a0 a1 := by kernel_rfl
theorem d28 {X : Exts} (hX : X 28 = none) (n : Nat) (a0 : Value) (a1 : Value) (H : Heap) : func Tryz.prog X ann (n + 1) 28 [a0, a1] H = s28 (callF Tryz.prog X ann n) a0 a1 n H :=
  (func_succ hX (by kernel_rfl) (by kernel_rfl : Tryz.f28.body = some b28) n (by rfl) H).trans (congrFun (congrFun (e28 _ a0 a1) n) H)

/- function 29 -/
noncomputable def s29 (cl : CallF) (a0 : Value) (a1 : Value) : M Value :=
  M.bind (box 32 a0) fun v2_1 =>
  M.bind (ld true 3 v2_1) fun v6_2 =>
  M.bind (cl 65 [v6_2]) fun v7_3 =>
  M.bind (un .not v7_3) fun v8_4 =>
  M.bind (guardM v8_4 false (M.pure a1)) fun v10_5 =>
  M.bind (guardM v8_4 false (binI .lss v10_5 (Value.int .i64 1))) fun v11_6 =>
  M.bind (pck v8_4 (Value.bool true) v11_6) fun v12_7 =>
  M.bind (guardM v12_7 false (M.pure a1)) fun v14_8 =>
  M.bind (guardM v12_7 false (binI .gtr v14_8 (Value.int .i64 64))) fun v15_9 =>
  M.bind (pck v12_7 (Value.bool true) v15_9) fun v16_10 =>
  condV v16_10 (
    M.pure (Value.tuple ⟨[Value.pointer none, Value.int .i64 2]⟩)
  ) (
    M.bind (ld true 3 v2_1) fun v17_11 =>
    M.bind (fld 1 v2_1) fun v19_12 =>
    M.bind (ld false 1 v19_12) fun v20_13 =>
    M.bind (mkSlice 178 1 8 [.pointer none] v20_13 v20_13) fun v21_14 =>
    M.bind (bld [.int .i64 0, .int .i64 0, .int .i64 0, .int .i64 0, .slice none 0 0, .slice none 0 0] [(0, 3, v17_11), (3, 1, a1), (5, 1, v21_14)]) fun v22_15 =>
    M.bind (box 125 v22_15) fun v23_16 =>
    M.pure (Value.tuple ⟨[v23_16, Value.int .i64 0]⟩)
  )
noncomputable def b29 : Code := match Tryz.f29.body with
  | some c => c
  | none => .skip
theorem e29 (cl : CallF) (a0 : Value) (a1 : Value) : bodyK Tryz.prog cl ann 29 Tryz.f29 b29 [a0, a1] = s29 cl a0 a1 := by kernel_rfl
theorem d29 {X : Exts} (hX : X 29 = none) (n : Nat) (a0 : Value) (a1 : Value) (H : Heap) : func Tryz.prog X ann (n + 1) 29 [a0, a1] H = s29 (callF Tryz.prog X ann n) a0 a1 n H :=
  (func_succ hX (by kernel_rfl) (by kernel_rfl : Tryz.f29.body = some b29) n (by rfl) H).trans (congrFun (congrFun (e29 _ a0 a1) n) H)

/- function 33 -/
noncomputable def s33 (cl : CallF) (a0 : Value) : M Value :=
  M.bind (lenL a0) fun v9_1 =>
  M.bind (binI .lss v9_1 (Value.int .i64 1)) fun v10_2 =>
  M.bind (guardM v10_2 false (M.pure a0)) fun v12_3 =>
  M.bind (guardM v10_2 false (lenL v12_3)) fun v13_4 =>
  M.bind (guardM v10_2 false (binI .gtr v13_4 (Value.int .i64 17))) fun v14_5 =>
  M.bind (pck v10_2 (Value.bool true) v14_5) fun v15_6 =>
  condV v15_6 (
    M.pure (Value.tuple ⟨[Value.pointer none, Value.int .i64 2]⟩)
  ) (
    M.bind (bld [.slice none 0 0, .int .i64 0, .bool false, .int .i64 0] []) fun v16_7 =>
    M.bind (box 137 v16_7) fun v17_8 =>
    loopV (fun again_9 vs_9 =>
      let x0_9 := mk [0, 4, 5] vs_9 0
      let x4_9 := mk [0, 4, 5] vs_9 4
      let x5_9 := mk [0, 4, 5] vs_9 5
      M.bind (lenL x0_9) fun v20_10 =>
      M.bind (binI .lss x5_9 v20_10) fun v21_11 =>
      condV v21_11 (
        M.bind (idxS 1 x0_9 x5_9) fun v27_12 =>
        M.bind (ld false 1 v27_12) fun v28_13 =>
        M.bind (cl 83 [v28_13]) fun v29_14 =>
        M.bind (ext 0 v29_14) fun v30_15 =>
        M.bind (ext 1 v29_14) fun v31_16 =>
        M.bind (binI .neq v31_16 (Value.int .i64 0)) fun v33_17 =>
        condV v33_17 (
          M.pure (Value.tuple ⟨[Value.pointer none, Value.int .i64 2]⟩)
        ) (
          M.bind (nilck x4_9) fun v36_18 =>
          M.bind (fld 0 v36_18) fun v37_19 =>
          M.bind (ld false 1 v37_19) fun v38_20 =>
          M.bind (bldSlice 138 1 [.pointer none] 1 [(0, 1, v30_15)]) fun v40_21 =>
          M.bind (app 138 1 8 v38_20 v40_21) fun v41_22 =>
          M.bind (nilck x4_9) fun v42_23 =>
          M.bind (fld 0 v42_23) fun v43_24 =>
          M.bind (st 1 v43_24 v41_22) fun _ =>
          M.bind (binI .add x5_9 (Value.int .i64 1)) fun v23_26 =>
          again_9 [x0_9, x4_9, v23_26]
        )
      ) (
        M.pure (Value.tuple ⟨[x4_9, Value.int .i64 0]⟩)
      )
    ) [a0, v17_8, Value.int .i64 0]
  )
noncomputable def b33 : Code := match Tryz.f33.body with
  | some c => c
  | none => .skip
theorem e33 (cl : CallF) (a0 : Value) : bodyK Tryz.prog cl ann 33 Tryz.f33 b33 [a0] = s33 cl a0 := by kernel_rfl
theorem d33 {X : Exts} (hX : X 33 = none) (n : Nat) (a0 : Value) (H : Heap) : func Tryz.prog X ann (n + 1) 33 [a0] H = s33 (callF Tryz.prog X ann n) a0 n H :=
  (func_succ hX (by kernel_rfl) (by kernel_rfl : Tryz.f33.body = some b33) n (by rfl) H).trans (congrFun (congrFun (e33 _ a0) n) H)

/- function 34 -/
noncomputable def s34 (cl : CallF) (a0 : Value) : M Value :=
  M.bind (box 32 a0) fun v1_1 =>
  M.bind (alloc 40 ([.int .i64 0, .int .i64 0, .int .i64 0] ++ List.replicate 16 (Value.int .u8 0) ++ [.int .i64 0, .bool false])) fun v2_2 =>
  M.bind (ld true 3 v1_1) fun v5_3 =>
  M.bind (bld ([.int .i64 0, .int .i64 0, .int .i64 0] ++ List.replicate 16 (Value.int .u8 0) ++ [.int .i64 0, .bool false]) [(0, 3, v5_3)]) fun v6_4 =>
  M.bind (alloc 40 ([.int .i64 0, .int .i64 0, .int .i64 0] ++ List.replicate 16 (Value.int .u8 0) ++ [.int .i64 0, .bool false])) fun v4_5 =>
  M.bind (st 21 v4_5 v6_4) fun _ =>
  M.bind (ld true 21 v4_5) fun v7_7 =>
  M.bind (cl 84 [v7_7]) fun v8_8 =>
  M.bind (un .not v8_8) fun v9_9 =>
  condV v9_9 (
    M.bind (bld ([.int .i64 0, .int .i64 0, .int .i64 0] ++ List.replicate 16 (Value.int .u8 0) ++ [.int .i64 0, .bool false]) []) fun v10_10 =>
    M.bind (st 21 v2_2 v10_10) fun _ =>
    M.bind (ld true 21 v2_2) fun r_12 =>
    M.pure (Value.tuple ⟨[r_12, Value.int .i64 2]⟩)
  ) (
    M.bind (ld true 21 v4_5) fun v11_13 =>
    M.bind (st 21 v2_2 v11_13) fun _ =>
    M.bind (ld true 21 v2_2) fun r_15 =>
    M.pure (Value.tuple ⟨[r_15, Value.int .i64 0]⟩)
  )
noncomputable def b34 : Code := match Tryz.f34.body with
  | some c => c
  | none => .skip
theorem e34 (cl : CallF) (a0 : Value) : bodyK Tryz.prog cl ann 34 Tryz.f34 b34 [a0] = s34 cl a0 := by kernel_rfl
theorem d34 {X : Exts} (hX : X 34 = none) (n : Nat) (a0 : Value) (H : Heap) : func Tryz.prog X ann (n + 1) 34 [a0] H = s34 (callF Tryz.prog X ann n) a0 n H :=
  (func_succ hX (by kernel_rfl) (by kernel_rfl : Tryz.f34.body = some b34) n (by rfl) H).trans (congrFun (congrFun (e34 _ a0) n) H)

/- function 35 -/
noncomputable def s35 (cl : CallF) (a0 : Value) (a1 : Value) (a2 : Value) (a3 : Value) : M Value :=
  M.bind (box 40 a3) fun v7_1 =>
  M.bind (cl 85 [a0]) fun v12_2 =>
  M.bind (binI .eql v12_2 (Value.int .i64 0)) fun v13_3 =>
  condV v13_3 (
    M.pure (Value.tuple ⟨[Value.pointer none, Value.int .i64 1]⟩)
  ) (
    M.bind (binI .eql a1 (Value.int .u64 0)) fun v15_4 =>
    M.bind (guardM v15_4 false (M.pure a2)) fun v17_5 =>
    M.bind (guardM v15_4 false (binI .gtr v17_5 (Value.int .u64 2305843009213693952))) fun v18_6 =>
    M.bind (pck v15_4 (Value.bool true) v18_6) fun v19_7 =>
    M.bind (guardM v19_7 false (ld true 21 v7_1)) fun v21_8 =>
    M.bind (guardM v19_7 false (cl 86 [v21_8])) fun v22_9 =>
    M.bind (guardM v19_7 false (un .not v22_9)) fun v23_10 =>
    M.bind (pck v19_7 (Value.bool true) v23_10) fun v24_11 =>
    M.bind (guardM v24_11 false (M.pure a0)) fun v26_12 =>
    M.bind (guardM v24_11 false (fld 0 v7_1)) fun v28_13 =>
    M.bind (guardM v24_11 false (fld 0 v28_13)) fun v29_14 =>
    M.bind (guardM v24_11 false (ld false 1 v29_14)) fun v30_15 =>
    M.bind (guardM v24_11 false (binI .add v30_15 (Value.int .i64 1))) fun v31_16 =>
    M.bind (guardM v24_11 false (cl 85 [v26_12])) fun v27_17 =>
    M.bind getH fun h_18 =>
    M.bind (chk (guardM v24_11 false (binI .add v30_15 (Value.int .i64 1))) v31_16 h_18) fun _ =>
    M.bind (chk (guardM v24_11 false (ld false 1 v29_14)) v30_15 h_18) fun _ =>
    M.bind (guardM v24_11 false (binI .neq v27_17 v31_16)) fun v32_19 =>
    M.bind (pck v24_11 (Value.bool true) v32_19) fun v33_20 =>
    condV v33_20 (
      M.pure (Value.tuple ⟨[Value.pointer none, Value.int .i64 2]⟩)
    ) (
      M.bind (fld 0 v7_1) fun v34_21 =>
      M.bind (fld 0 v34_21) fun v35_22 =>
      M.bind (ld false 1 v35_22) fun v36_23 =>
      loopV (fun again_24 vs_24 =>
        let x0_24 := mk [0, 1, 2, 7, 36, 37] vs_24 0
        let x1_24 := mk [0, 1, 2, 7, 36, 37] vs_24 1
        let x2_24 := mk [0, 1, 2, 7, 36, 37] vs_24 2
        let x7_24 := mk [0, 1, 2, 7, 36, 37] vs_24 7
        let x36_24 := mk [0, 1, 2, 7, 36, 37] vs_24 36
        let x37_24 := mk [0, 1, 2, 7, 36, 37] vs_24 37
        M.bind (binI .lss x37_24 x36_24) fun v38_25 =>
        condV v38_25 (
          M.bind (fld 0 x7_24) fun v43_26 =>
          M.bind (fld 1 v43_26) fun v44_27 =>
          M.bind (ld false 1 v44_27) fun v45_28 =>
          M.bind (binI .add (Value.int .i64 2) v45_28) fun v46_29 =>
          M.bind (cl 87 [x0_24, x37_24]) fun v42_30 =>
          M.bind getH fun h_31 =>
          M.bind (chk (binI .add (Value.int .i64 2) v45_28) v46_29 h_31) fun _ =>
          M.bind (chk (ld false 1 v44_27) v45_28 h_31) fun _ =>
          M.bind (binI .lss v42_30 v46_29) fun v47_32 =>
          condV v47_32 (
            M.pure (Value.tuple ⟨[Value.pointer none, Value.int .i64 2]⟩)
          ) (
            M.bind (binI .add x37_24 (Value.int .i64 1)) fun v48_33 =>
            again_24 [x0_24, x1_24, x2_24, x7_24, x36_24, v48_33]
          )
        ) (
          M.bind (ld true 21 x7_24) fun v52_34 =>
          M.bind (bld ([.pointer none, .int .u64 0, .int .u64 0, .int .i64 0, .int .i64 0, .int .i64 0] ++ List.replicate 16 (Value.int .u8 0) ++ [.int .i64 0, .bool false]) [(0, 1, x0_24), (1, 1, x1_24), (2, 1, x2_24), (3, 21, v52_34)]) fun v53_35 =>
          M.bind (box 42 v53_35) fun v54_36 =>
          M.pure (Value.tuple ⟨[v54_36, Value.int .i64 0]⟩)
        )
      ) [a0, a1, a2, v7_1, v36_23, Value.int .i64 0]
    )
  )
noncomputable def b35 : Code := match Tryz.f35.body with
  | some c => c
  | none => .skip
theorem e35 (cl : CallF) (a0 : Value) (a1 : Value) (a2 : Value) (a3 : Value) : bodyK Tryz.prog cl ann 35 Tryz.f35 b35 [a0, a1, a2, a3] = s35 cl a0 a1 a2 a3 := by kernel_rfl
theorem d35 {X : Exts} (hX : X 35 = none) (n : Nat) (a0 : Value) (a1 : Value) (a2 : Value) (a3 : Value) (H : Heap) : func Tryz.prog X ann (n + 1) 35 [a0, a1, a2, a3] H = s35 (callF Tryz.prog X ann n) a0 a1 a2 a3 n H :=
  (func_succ hX (by kernel_rfl) (by kernel_rfl : Tryz.f35.body = some b35) n (by rfl) H).trans (congrFun (congrFun (e35 _ a0 a1 a2 a3) n) H)

/- function 36 -/
noncomputable def s36 (cl : CallF) (a0 : Value) (a1 : Value) (a2 : Value) (a3 : Value) : M Value :=
  M.bind (box 40 a3) fun v7_1 =>
  M.bind (binI .eql a1 (Value.int .u64 0)) fun v12_2 =>
  M.bind (guardM v12_2 false (M.pure a2)) fun v14_3 =>
  M.bind (guardM v12_2 false (binI .gtr v14_3 (Value.int .u64 2305843009213693952))) fun v15_4 =>
  M.bind (pck v12_2 (Value.bool true) v15_4) fun v16_5 =>
  M.bind (guardM v16_5 false (ld true 21 v7_1)) fun v18_6 =>
  M.bind (guardM v16_5 false (cl 88 [v18_6])) fun v19_7 =>
  M.bind (guardM v16_5 false (un .not v19_7)) fun v20_8 =>
  M.bind (pck v16_5 (Value.bool true) v20_8) fun v21_9 =>
  M.bind (guardM v21_9 false (M.pure a0)) fun v23_10 =>
  M.bind (guardM v21_9 false (fld 0 v7_1)) fun v25_11 =>
  M.bind (guardM v21_9 false (fld 0 v25_11)) fun v26_12 =>
  M.bind (guardM v21_9 false (ld false 1 v26_12)) fun v27_13 =>
  M.bind (guardM v21_9 false (binI .add v27_13 (Value.int .i64 1))) fun v28_14 =>
  M.bind (guardM v21_9 false (cl 89 [v23_10])) fun v24_15 =>
  M.bind getH fun h_16 =>
  M.bind (chk (guardM v21_9 false (binI .add v27_13 (Value.int .i64 1))) v28_14 h_16) fun _ =>
  M.bind (chk (guardM v21_9 false (ld false 1 v26_12)) v27_13 h_16) fun _ =>
  M.bind (guardM v21_9 false (binI .neq v24_15 v28_14)) fun v29_17 =>
  M.bind (pck v21_9 (Value.bool true) v29_17) fun v30_18 =>
  condV v30_18 (
    M.pure (Value.tuple ⟨[Value.pointer none, Value.int .i64 2]⟩)
  ) (
    loopV (fun again_19 vs_19 =>
      let x0_19 := mk [0, 1, 2, 7, 10] vs_19 0
      let x1_19 := mk [0, 1, 2, 7, 10] vs_19 1
      let x2_19 := mk [0, 1, 2, 7, 10] vs_19 2
      let x7_19 := mk [0, 1, 2, 7, 10] vs_19 7
      let x10_19 := mk [0, 1, 2, 7, 10] vs_19 10
      M.bind (fld 0 x7_19) fun v32_20 =>
      M.bind (fld 0 v32_20) fun v33_21 =>
      M.bind (ld false 1 v33_21) fun v34_22 =>
      M.bind (binI .lss x10_19 v34_22) fun v35_23 =>
      condV v35_23 (
        M.bind (fld 0 x7_19) fun v41_24 =>
        M.bind (fld 1 v41_24) fun v42_25 =>
        M.bind (ld false 1 v42_25) fun v43_26 =>
        M.bind (binI .add v43_26 (Value.int .i64 2)) fun v44_27 =>
        M.bind (cl 90 [x0_19, x10_19]) fun v40_28 =>
        M.bind getH fun h_29 =>
        M.bind (chk (binI .add v43_26 (Value.int .i64 2)) v44_27 h_29) fun _ =>
        M.bind (chk (ld false 1 v42_25) v43_26 h_29) fun _ =>
        M.bind (binI .lss v40_28 v44_27) fun v45_30 =>
        condV v45_30 (
          M.pure (Value.tuple ⟨[Value.pointer none, Value.int .i64 2]⟩)
        ) (
          M.bind (binI .add x10_19 (Value.int .i64 1)) fun v37_31 =>
          again_19 [x0_19, x1_19, x2_19, x7_19, v37_31]
        )
      ) (
        M.bind (ld true 21 x7_19) fun v49_32 =>
        M.bind (bld ([.pointer none, .int .u64 0, .int .u64 0, .int .i64 0, .int .i64 0, .int .i64 0] ++ List.replicate 16 (Value.int .u8 0) ++ [.int .i64 0, .bool false]) [(0, 1, x0_19), (1, 1, x1_19), (2, 1, x2_19), (3, 21, v49_32)]) fun v50_33 =>
        M.bind (box 128 v50_33) fun v51_34 =>
        M.pure (Value.tuple ⟨[v51_34, Value.int .i64 0]⟩)
      )
    ) [a0, a1, a2, v7_1, Value.int .i64 0]
  )
noncomputable def b36 : Code := match Tryz.f36.body with
  | some c => c
  | none => .skip
theorem e36 (cl : CallF) (a0 : Value) (a1 : Value) (a2 : Value) (a3 : Value) : bodyK Tryz.prog cl ann 36 Tryz.f36 b36 [a0, a1, a2, a3] = s36 cl a0 a1 a2 a3 := by kernel_rfl
theorem d36 {X : Exts} (hX : X 36 = none) (n : Nat) (a0 : Value) (a1 : Value) (a2 : Value) (a3 : Value) (H : Heap) : func Tryz.prog X ann (n + 1) 36 [a0, a1, a2, a3] H = s36 (callF Tryz.prog X ann n) a0 a1 a2 a3 n H :=
  (func_succ hX (by kernel_rfl) (by kernel_rfl : Tryz.f36.body = some b36) n (by rfl) H).trans (congrFun (congrFun (e36 _ a0 a1 a2 a3) n) H)

/- function 37 -/
noncomputable def s37 (cl : CallF) (a0 : Value) : M Value :=
  M.bind (cl 91 [a0]) fun v4_1 =>
  condV v4_1 (
    M.pure (Value.int .u64 0)
  ) (
    M.bind (nilck a0) fun v6_2 =>
    M.bind (fld 1 v6_2) fun v7_3 =>
    M.bind (ld false 1 v7_3) fun v8_4 =>
    M.pure v8_4
  )
noncomputable def b37 : Code := match Tryz.f37.body with
  | some c => c
  | none => .skip
theorem e37 (cl : CallF) (a0 : Value) : bodyK Tryz.prog cl ann 37 Tryz.f37 b37 [a0] = s37 cl a0 := by kernel_rfl
theorem d37 {X : Exts} (hX : X 37 = none) (n : Nat) (a0 : Value) (H : Heap) : func Tryz.prog X ann (n + 1) 37 [a0] H = s37 (callF Tryz.prog X ann n) a0 n H :=
  (func_succ hX (by kernel_rfl) (by kernel_rfl : Tryz.f37.body = some b37) n (by rfl) H).trans (congrFun (congrFun (e37 _ a0) n) H)

/- function 38 -/
noncomputable def s38 (cl : CallF) (a0 : Value) (a1 : Value) (a2 : Value) : M Value :=
  M.bind (box 55 a1) fun v4_1 =>
  M.bind (box 57 a2) fun v5_2 =>
  M.bind (ld true 2 v4_1) fun v11_3 =>
  M.bind (cl 92 [a0, v11_3]) fun v12_4 =>
  M.bind (ext 0 v12_4) fun v13_5 =>
  M.bind (ext 1 v12_4) fun v14_6 =>
  M.bind (binI .eql v14_6 (Value.int .i64 7)) fun v17_7 =>
  condV v17_7 (
    M.pure (Value.int .i64 0)
  ) (
    M.bind (binI .eql v14_6 (Value.int .i64 0)) fun v19_8 =>
    condV v19_8 (
      M.bind (fld 1 v4_1) fun v21_9 =>
      M.bind (ld false 1 v21_9) fun v22_10 =>
      M.bind (nilck a0) fun v24_11 =>
      M.bind (fld 0 v24_11) fun v25_12 =>
      M.bind (ld false 1 v25_12) fun v26_13 =>
      M.bind (fld 1 v4_1) fun v27_14 =>
      M.bind (ld false 1 v27_14) fun v28_15 =>
      M.bind (ld true 64 v5_2) fun v30_16 =>
      M.bind (cl 94 [v26_13, v28_15, v13_5, v30_16]) fun v31_17 =>
      M.bind getH fun h_18 =>
      M.bind (chk (ld false 1 v21_9) v22_10 h_18) fun _ =>
      M.bind (cl 93 [a0, v22_10, v31_17, Value.int .i64 0]) fun v32_19 =>
      M.pure v32_19
    ) (
      M.pure v14_6
    )
  )
noncomputable def b38 : Code := match Tryz.f38.body with
  | some c => c
  | none => .skip
theorem e38 (cl : CallF) (a0 : Value) (a1 : Value) (a2 : Value) : bodyK Tryz.prog cl ann 38 Tryz.f38 b38 [a0, a1, a2] = s38 cl a0 a1 a2 := by kernel_rfl
theorem d38 {X : Exts} (hX : X 38 = none) (n : Nat) (a0 : Value) (a1 : Value) (a2 : Value) (H : Heap) : func Tryz.prog X ann (n + 1) 38 [a0, a1, a2] H = s38 (callF Tryz.prog X ann n) a0 a1 a2 n H :=
  (func_succ hX (by kernel_rfl) (by kernel_rfl : Tryz.f38.body = some b38) n (by rfl) H).trans (congrFun (congrFun (e38 _ a0 a1 a2) n) H)

/- function 39 -/
noncomputable def s39 (cl : CallF) (a0 : Value) : M Value :=
  M.bind (box 23 a0) fun v1_1 =>
  M.bind (ld false 1 v1_1) fun v5_2 =>
  M.bind (cl 91 [v5_2]) fun v6_3 =>
  condV v6_3 (
    M.pure (Value.int .i64 1)
  ) (
    M.bind (ld false 1 v1_1) fun v7_4 =>
    M.bind (cl 95 [v7_4]) fun v8_5 =>
    M.bind (binI .neq v8_5 (Value.int .i64 0)) fun v10_6 =>
    condV v10_6 (
      M.pure v8_5
    ) (
      M.bind (ld false 1 v1_1) fun v12_7 =>
      M.bind (M.pure (Value.func (.func 97) ⟨[]⟩ ⟨[v1_1]⟩)) fun v13_8 =>
      M.bind (cl 96 [v12_7, v13_8]) fun v14_9 =>
      M.bind (binI .neq v14_9 (Value.int .i64 0)) fun v16_10 =>
      condV v16_10 (
        M.pure v14_9
      ) (
        M.bind (ld false 1 v1_1) fun v18_11 =>
        M.bind (cl 95 [v18_11]) fun v19_12 =>
        M.pure v19_12
      )
    )
  )
noncomputable def b39 : Code := match Tryz.f39.body with
  | some c => c
  | none => .skip
theorem e39 (cl : CallF) (a0 : Value) : bodyK Tryz.prog cl ann 39 Tryz.f39 b39 [a0] = s39 cl a0 := by kernel_rfl
theorem d39 {X : Exts} (hX : X 39 = none) (n : Nat) (a0 : Value) (H : Heap) : func Tryz.prog X ann (n + 1) 39 [a0] H = s39 (callF Tryz.prog X ann n) a0 n H :=
  (func_succ hX (by kernel_rfl) (by kernel_rfl : Tryz.f39.body = some b39) n (by rfl) H).trans (congrFun (congrFun (e39 _ a0) n) H)

/- function 40 -/
noncomputable def s40 (cl : CallF) (a0 : Value) : M Value :=
  M.bind (binP .eql a0 (Value.pointer none)) fun v4_1 =>
  M.bind (guardM v4_1 false (M.pure a0)) fun v6_2 =>
  M.bind (guardM v4_1 false (nilck v6_2)) fun v7_3 =>
  M.bind (guardM v4_1 false (fld 4 v7_3)) fun v8_4 =>
  M.bind (guardM v4_1 false (ld false 1 v8_4)) fun v9_5 =>
  M.bind (guardM v4_1 false (binN .map .eql v9_5 (Value.map none))) fun v10_6 =>
  M.bind (pck v4_1 (Value.bool true) v10_6) fun v11_7 =>
  M.pure v11_7
noncomputable def b40 : Code := match Tryz.f40.body with
  | some c => c
  | none => .skip
theorem e40 (cl : CallF) (a0 : Value) : bodyK Tryz.prog cl ann 40 Tryz.f40 b40 [a0] = s40 cl a0 := by kernel_rfl
theorem d40 {X : Exts} (hX : X 40 = none) (n : Nat) (a0 : Value) (H : Heap) : func Tryz.prog X ann (n + 1) 40 [a0] H = s40 (callF Tryz.prog X ann n) a0 n H :=
  (func_succ hX (by kernel_rfl) (by kernel_rfl : Tryz.f40.body = some b40) n (by rfl) H).trans (congrFun (congrFun (e40 _ a0) n) H)

/- function 41 -/
noncomputable def s41 (cl : CallF) (a0 : Value) (a1 : Value) : M Value :=
  M.bind (box 55 a1) fun v3_1 =>
  M.bind (fld 0 v3_1) fun v6_2 =>
  M.bind (ld false 1 v6_2) fun v7_3 =>
  M.bind (cl 58 [a0, v7_3]) fun v8_4 =>
  M.bind (guardM v8_4 true (fld 1 v3_1)) fun v10_5 =>
  M.bind (guardM v8_4 true (ld false 1 v10_5)) fun v11_6 =>
  M.bind (guardM v8_4 true (binI .geq v11_6 (Value.int .i64 0))) fun v12_7 =>
  M.bind (pck v8_4 v12_7 (Value.bool false)) fun v13_8 =>
  M.bind (guardM v13_8 true (fld 1 v3_1)) fun v15_9 =>
  M.bind (guardM v13_8 true (ld false 1 v15_9)) fun v16_10 =>
  M.bind (guardM v13_8 true (M.pure a0)) fun v17_11 =>
  M.bind (guardM v13_8 true (nilck v17_11)) fun v18_12 =>
  M.bind (guardM v13_8 true (fld 0 v18_12)) fun v19_13 =>
  M.bind (guardM v13_8 true (fld 0 v19_13)) fun v20_14 =>
  M.bind (guardM v13_8 true (ld false 1 v20_14)) fun v21_15 =>
  M.bind (guardM v13_8 true (binI .lss v16_10 v21_15)) fun v22_16 =>
  M.bind (pck v13_8 v22_16 (Value.bool false)) fun v23_17 =>
  M.pure v23_17
noncomputable def b41 : Code := match Tryz.f41.body with
  | some c => c
  | none => .skip
theorem e41 (cl : CallF) (a0 : Value) (a1 : Value) : bodyK Tryz.prog cl ann 41 Tryz.f41 b41 [a0, a1] = s41 cl a0 a1 := by kernel_rfl
theorem d41 {X : Exts} (hX : X 41 = none) (n : Nat) (a0 : Value) (a1 : Value) (H : Heap) : func Tryz.prog X ann (n + 1) 41 [a0, a1] H = s41 (callF Tryz.prog X ann n) a0 a1 n H :=
  (func_succ hX (by kernel_rfl) (by kernel_rfl : Tryz.f41.body = some b41) n (by rfl) H).trans (congrFun (congrFun (e41 _ a0 a1) n) H)

/- function 42 -/
noncomputable def s42 (cl : CallF) (a0 : Value) (a1 : Value) : M Value :=
  M.bind (box 32 a0) fun v2_1 =>
  M.bind (ld true 3 v2_1) fun v7_2 =>
  M.bind (cl 100 [v7_2, a1]) fun v9_3 =>
  M.bind (binI .neq v9_3 (Value.int .i64 0)) fun v11_4 =>
  condV v11_4 (
    M.pure (Value.tuple ⟨[Value.int .i64 0, v9_3]⟩)
  ) (
    M.bind (ld true 3 v2_1) fun v13_5 =>
    M.bind (cl 101 [v13_5, a1]) fun v15_6 =>
    M.pure (Value.tuple ⟨[v15_6, Value.int .i64 0]⟩)
  )
noncomputable def b42 : Code := match Tryz.f42.body with
  | some c => c
  | none => .skip
theorem e42 (cl : CallF) (a0 : Value) (a1 : Value) : bodyK Tryz.prog cl ann 42 Tryz.f42 b42 [a0, a1] = s42 cl a0 a1 := by kernel_rfl
theorem d42 {X : Exts} (hX : X 42 = none) (n : Nat) (a0 : Value) (a1 : Value) (H : Heap) : func Tryz.prog X ann (n + 1) 42 [a0, a1] H = s42 (callF Tryz.prog X ann n) a0 a1 n H :=
  (func_succ hX (by kernel_rfl) (by kernel_rfl : Tryz.f42.body = some b42) n (by rfl) H).trans (congrFun (congrFun (e42 _ a0 a1) n) H)

/- function 43 -/
noncomputable def s43 (cl : CallF) (a0 : Value) (a1 : Value) : M Value :=
  M.bind (nilck a0) fun v11_1 =>
  M.bind (fld 3 v11_1) fun v12_2 =>
  M.bind (ld false 1 v12_2) fun v13_3 =>
  M.bind (cl 102 [v13_3, a1]) fun v15_4 =>
  M.bind (ext 0 v15_4) fun v16_5 =>
  M.bind (ext 1 v15_4) fun v17_6 =>
  M.bind (ext 2 v15_4) fun v18_7 =>
  M.bind (binI .neq v18_7 (Value.int .i64 0)) fun v20_8 =>
  condV v20_8 (
    M.pure (Value.pointer none)
  ) (
    let j_9 := fun (y0_9 : Value) (y1_9 : Value) =>
      M.bind (nilck y0_9) fun v28_10 =>
      M.bind (fld 4 v28_10) fun v29_11 =>
      M.bind (ld false 1 v29_11) fun v30_12 =>
      M.bind (lkp (Value.pointer none) false v30_12 y1_9) fun v32_13 =>
      M.bind (binP .eql v32_13 (Value.pointer none)) fun v34_14 =>
      condV v34_14 (
        M.bind (nilck y0_9) fun v37_16 =>
        M.bind (fld 0 v37_16) fun v38_17 =>
        M.bind (fld 0 v38_17) fun v39_18 =>
        M.bind (ld false 1 v39_18) fun v40_19 =>
        M.bind (cl 103 [v40_19]) fun v41_20 =>
        M.bind (ext 0 v41_20) fun v42_21 =>
        M.bind (ext 1 v41_20) fun v43_22 =>
        M.bind (nilck y0_9) fun v45_23 =>
        M.bind (fld 4 v45_23) fun v46_24 =>
        M.bind (ld false 1 v46_24) fun v47_25 =>
        M.bind (mupd v47_25 y1_9 v42_21) fun _ =>
        M.pure v42_21
      ) (
        M.pure v32_13
      )
    condV v17_6 (
      M.bind (nilck a0) fun v23_27 =>
      M.bind (fld 4 v23_27) fun v24_28 =>
      M.bind (ld false 1 v24_28) fun v25_29 =>
      M.bind (mdel v25_29 v16_5) fun _ =>
      j_9 a0 a1
    ) (
      j_9 a0 a1
    )
  )
noncomputable def b43 : Code := match Tryz.f43.body with
  | some c => c
  | none => .skip
theorem e43 (cl : CallF) (a0 : Value) (a1 : Value) : bodyK Tryz.prog cl ann 43 Tryz.f43 b43 [a0, a1] = s43 cl a0 a1 := by kernel_rfl
theorem d43 {X : Exts} (hX : X 43 = none) (n : Nat) (a0 : Value) (a1 : Value) (H : Heap) : func Tryz.prog X ann (n + 1) 43 [a0, a1] H = s43 (callF Tryz.prog X ann n) a0 a1 n H :=
  (func_succ hX (by kernel_rfl) (by kernel_rfl : Tryz.f43.body = some b43) n (by rfl) H).trans (congrFun (congrFun (e43 _ a0 a1) n) H)

/- function 45 -/
noncomputable def s45 (cl : CallF) (a0 : Value) (a1 : Value) (a2 : Value) : M Value :=
  M.bind (cl 105 [a0, a1]) fun v12_1 =>
  M.bind (ext 0 v12_1) fun v13_2 =>
  M.bind (ext 1 v12_1) fun v14_3 =>
  M.bind (binI .eql v14_3 (Value.int .i64 0)) fun v16_4 =>
  condV v16_4 (
    M.bind (nilck v13_2) fun v19_6 =>
    M.bind (fld 1 v19_6) fun v20_7 =>
    M.bind (st 1 v20_7 a2) fun _ =>
    M.pure v14_3
  ) (
    M.pure v14_3
  )
noncomputable def b45 : Code := match Tryz.f45.body with
  | some c => c
  | none => .skip
theorem e45 (cl : CallF) (a0 : Value) (a1 : Value) (a2 : Value) : bodyK Tryz.prog cl ann 45 Tryz.f45 b45 [a0, a1, a2] = s45 cl a0 a1 a2 := by kernel_rfl
theorem d45 {X : Exts} (hX : X 45 = none) (n : Nat) (a0 : Value) (a1 : Value) (a2 : Value) (H : Heap) : func Tryz.prog X ann (n + 1) 45 [a0, a1, a2] H = s45 (callF Tryz.prog X ann n) a0 a1 a2 n H :=
  (func_succ hX (by kernel_rfl) (by kernel_rfl : Tryz.f45.body = some b45) n (by rfl) H).trans (congrFun (congrFun (e45 _ a0 a1 a2) n) H)

/- function 48 -/
noncomputable def s48 (cl : CallF) (a0 : Value) : M Value :=
  M.bind (lenL a0) fun v4_1 =>
  M.bind (cvt .u64 v4_1) fun v8_2 =>
  M.bind (cl 107 [v8_2]) fun v9_3 =>
  M.bind (cl 106 [a0, Value.int .i64 0, v4_1, v9_3]) fun v10_4 =>
  M.pure (Value.tuple ⟨[]⟩)
noncomputable def b48 : Code := match Tryz.f48.body with
  | some c => c
  | none => .skip
theorem e48 (cl : CallF) (a0 : Value) : bodyK Tryz.prog cl ann 48 Tryz.f48 b48 [a0] = s48 cl a0 := by kernel_rfl
theorem d48 {X : Exts} (hX : X 48 = none) (n : Nat) (a0 : Value) (H : Heap) : func Tryz.prog X ann (n + 1) 48 [a0] H = s48 (callF Tryz.prog X ann n) a0 n H :=
  (func_succ hX (by kernel_rfl) (by kernel_rfl : Tryz.f48.body = some b48) n (by rfl) H).trans (congrFun (congrFun (e48 _ a0) n) H)

/- function 53 -/
noncomputable def s53 (cl : CallF) (a0 : Value) : M Value :=
  M.bind (binI .lss a0 (Value.int .i64 1)) fun v6_1 =>
  M.bind (guardM v6_1 false (M.pure a0)) fun v8_2 =>
  M.bind (guardM v6_1 false (binI .gtr v8_2 (Value.int .i64 64))) fun v9_3 =>
  M.bind (pck v6_1 (Value.bool true) v9_3) fun v10_4 =>
  condV v10_4 (
    M.pure (Value.tuple ⟨[Value.pointer none, Value.int .i64 2]⟩)
  ) (
    M.bind (bld [.int .i64 0, .bool false, .pointer none, .pointer none] []) fun v11_5 =>
    M.bind (box 161 v11_5) fun v12_6 =>
    M.bind (nilck v12_6) fun v17_7 =>
    M.bind (fld 2 v17_7) fun v18_8 =>
    M.bind (st 1 v18_8 v12_6) fun _ =>
    M.bind (nilck v12_6) fun v19_10 =>
    M.bind (fld 3 v19_10) fun v20_11 =>
    M.bind (st 1 v20_11 v12_6) fun _ =>
    M.bind (mkMap) fun v22_13 =>
    M.bind (bld [.int .i64 0, .map none, .pointer none] [(0, 1, a0), (1, 1, v22_13), (2, 1, v12_6)]) fun v24_14 =>
    M.bind (box 170 v24_14) fun v25_15 =>
    M.pure (Value.tuple ⟨[v25_15, Value.int .i64 0]⟩)
  )
noncomputable def b53 : Code := match Tryz.f53.body with
  | some c => c
  | none => .skip
theorem e53 (cl : CallF) (a0 : Value) : bodyK Tryz.prog cl ann 53 Tryz.f53 b53 [a0] = s53 cl a0 := by kernel_rfl
theorem d53 {X : Exts} (hX : X 53 = none) (n : Nat) (a0 : Value) (H : Heap) : func Tryz.prog X ann (n + 1) 53 [a0] H = s53 (callF Tryz.prog X ann n) a0 n H :=
  (func_succ hX (by kernel_rfl) (by kernel_rfl : Tryz.f53.body = some b53) n (by rfl) H).trans (congrFun (congrFun (e53 _ a0) n) H)

/- function 54 -/
noncomputable def s54 (cl : CallF) (a0 : Value) : M Value :=
  M.bind (box 32 a0) fun v1_1 =>
  M.bind (fld 0 v1_1) fun v3_2 =>
  M.bind (ld false 1 v3_2) fun v4_3 =>
  M.bind (cl 112 [v4_3, Value.int .i64 3, Value.int .i64 16]) fun v5_4 =>
  M.bind (guardM v5_4 true (fld 1 v1_1)) fun v7_5 =>
  M.bind (guardM v5_4 true (ld false 1 v7_5)) fun v8_6 =>
  M.bind (guardM v5_4 true (cl 112 [v8_6, Value.int .i64 1, Value.int .i64 64])) fun v9_7 =>
  M.bind (pck v5_4 v9_7 (Value.bool false)) fun v10_8 =>
  M.bind (guardM v10_8 true (fld 2 v1_1)) fun v12_9 =>
  M.bind (guardM v10_8 true (ld false 1 v12_9)) fun v13_10 =>
  M.bind (guardM v10_8 true (cl 112 [v13_10, Value.int .i64 40, Value.int .i64 256])) fun v14_11 =>
  M.bind (pck v10_8 v14_11 (Value.bool false)) fun v15_12 =>
  M.pure v15_12
noncomputable def b54 : Code := match Tryz.f54.body with
  | some c => c
  | none => .skip
theorem e54 (cl : CallF) (a0 : Value) : bodyK Tryz.prog cl ann 54 Tryz.f54 b54 [a0] = s54 cl a0 := by kernel_rfl
theorem d54 {X : Exts} (hX : X 54 = none) (n : Nat) (a0 : Value) (H : Heap) : func Tryz.prog X ann (n + 1) 54 [a0] H = s54 (callF Tryz.prog X ann n) a0 n H :=
  (func_succ hX (by kernel_rfl) (by kernel_rfl : Tryz.f54.body = some b54) n (by rfl) H).trans (congrFun (congrFun (e54 _ a0) n) H)

/- function 55 -/
noncomputable def s55 (cl : CallF) (a0 : Value) (a1 : Value) : M Value :=
  M.bind (box 55 a1) fun v3_1 =>
  M.bind (alloc 57 (List.replicate 64 (Value.int .u8 0))) fun v4_2 =>
  M.bind (ld true 2 v3_1) fun v11_3 =>
  M.bind (cl 113 [a0, v11_3]) fun v12_4 =>
  M.bind (ext 0 v12_4) fun v13_5 =>
  M.bind (ext 1 v12_4) fun v14_6 =>
  M.bind (alloc 57 (List.replicate 64 (Value.int .u8 0))) fun v6_7 =>
  M.bind (st 64 v6_7 v13_5) fun _ =>
  M.bind (binI .neq v14_6 (Value.int .i64 7)) fun v16_9 =>
  condV v16_9 (
    M.bind (ld true 64 v6_7) fun v17_10 =>
    M.bind (st 64 v4_2 v17_10) fun _ =>
    M.bind (ld true 64 v4_2) fun r_12 =>
    M.pure (Value.tuple ⟨[r_12, v14_6]⟩)
  ) (
    M.bind (fld 0 v3_1) fun v21_13 =>
    M.bind (ld false 1 v21_13) fun v22_14 =>
    M.bind (fld 1 v3_1) fun v23_15 =>
    M.bind (ld false 1 v23_15) fun v24_16 =>
    M.bind (cl 114 [a0, v22_14, v24_16]) fun v25_17 =>
    M.bind (ext 0 v25_17) fun v26_18 =>
    M.bind (ext 1 v25_17) fun v27_19 =>
    M.bind (binI .neq v27_19 (Value.int .i64 0)) fun v29_20 =>
    condV v29_20 (
      M.bind (bld (List.replicate 64 (Value.int .u8 0)) []) fun v30_21 =>
      M.bind (cl 115 [v27_19, Value.int .i64 16]) fun v32_22 =>
      M.bind (st 64 v4_2 v30_21) fun _ =>
      M.bind (ld true 64 v4_2) fun r_24 =>
      M.pure (Value.tuple ⟨[r_24, v32_22]⟩)
    ) (
      M.bind (cl 116 [v26_18]) fun v34_25 =>
      M.bind (st 64 v4_2 v34_25) fun _ =>
      M.bind (ld true 64 v4_2) fun r_27 =>
      M.pure (Value.tuple ⟨[r_27, Value.int .i64 0]⟩)
    )
  )
noncomputable def b55 : Code := match Tryz.f55.body with
  | some c => c
  | none => .skip
theorem e55 (cl : CallF) (a0 : Value) (a1 : Value) : bodyK Tryz.prog cl ann 55 Tryz.f55 b55 [a0, a1] = s55 cl a0 a1 := by kernel_rfl
theorem d55 {X : Exts} (hX : X 55 = none) (n : Nat) (a0 : Value) (a1 : Value) (H : Heap) : func Tryz.prog X ann (n + 1) 55 [a0, a1] H = s55 (callF Tryz.prog X ann n) a0 a1 n H :=
  (func_succ hX (by kernel_rfl) (by kernel_rfl : Tryz.f55.body = some b55) n (by rfl) H).trans (congrFun (congrFun (e55 _ a0 a1) n) H)

/- function 57 -/
noncomputable def s57 (cl : CallF) (a0 : Value) : M Value :=
  M.bind (cl 117 [a0]) fun v6_1 =>
  condV v6_1 (
    M.pure (Value.slice none 0 0)
  ) (
    M.bind (nilck a0) fun v8_2 =>
    M.bind (fld 2 v8_2) fun v9_3 =>
    M.bind (ld false 1 v9_3) fun v10_4 =>
    M.bind (nilck v10_4) fun v11_5 =>
    M.bind (fld 3 v11_5) fun v12_6 =>
    M.bind (ld false 1 v12_6) fun v13_7 =>
    loopV (fun again_8 vs_8 =>
      let x0_8 := mk [0, 3, 4] vs_8 0
      let x3_8 := mk [0, 3, 4] vs_8 3
      let x4_8 := mk [0, 3, 4] vs_8 4
      M.bind (nilck x0_8) fun v16_9 =>
      M.bind (fld 2 v16_9) fun v17_10 =>
      M.bind (ld false 1 v17_10) fun v18_11 =>
      M.bind (binP .neq x4_8 v18_11) fun v19_12 =>
      condV v19_12 (
        M.bind (nilck x4_8) fun v26_13 =>
        M.bind (fld 0 v26_13) fun v27_14 =>
        M.bind (ld false 1 v27_14) fun v28_15 =>
        M.bind (bldSlice 3 1 [.int .i64 0] 1 [(0, 1, v28_15)]) fun v29_16 =>
        M.bind (app 3 1 8 x3_8 v29_16) fun v30_17 =>
        M.bind (nilck x4_8) fun v21_18 =>
        M.bind (fld 3 v21_18) fun v22_19 =>
        M.bind (ld false 1 v22_19) fun v23_20 =>
        again_8 [x0_8, v30_17, v23_20]
      ) (
        M.pure x3_8
      )
    ) [a0, Value.slice none 0 0, v13_7]
  )
noncomputable def b57 : Code := match Tryz.f57.body with
  | some c => c
  | none => .skip
theorem e57 (cl : CallF) (a0 : Value) : bodyK Tryz.prog cl ann 57 Tryz.f57 b57 [a0] = s57 cl a0 := by kernel_rfl
theorem d57 {X : Exts} (hX : X 57 = none) (n : Nat) (a0 : Value) (H : Heap) : func Tryz.prog X ann (n + 1) 57 [a0] H = s57 (callF Tryz.prog X ann n) a0 n H :=
  (func_succ hX (by kernel_rfl) (by kernel_rfl : Tryz.f57.body = some b57) n (by rfl) H).trans (congrFun (congrFun (e57 _ a0) n) H)

/- function 58 -/
noncomputable def s58 (cl : CallF) (a0 : Value) (a1 : Value) : M Value :=
  M.bind (binI .geq a1 (Value.int .i64 0)) fun v6_1 =>
  M.bind (guardM v6_1 true (M.pure a1)) fun v8_2 =>
  M.bind (guardM v6_1 true (M.pure a0)) fun v9_3 =>
  M.bind (guardM v6_1 true (nilck v9_3)) fun v10_4 =>
  M.bind (guardM v6_1 true (fld 0 v10_4)) fun v11_5 =>
  M.bind (guardM v6_1 true (fld 1 v11_5)) fun v12_6 =>
  M.bind (guardM v6_1 true (ld false 1 v12_6)) fun v13_7 =>
  M.bind (guardM v6_1 true (binI .lss v8_2 v13_7)) fun v14_8 =>
  M.bind (pck v6_1 v14_8 (Value.bool false)) fun v15_9 =>
  M.pure v15_9
noncomputable def b58 : Code := match Tryz.f58.body with
  | some c => c
  | none => .skip
theorem e58 (cl : CallF) (a0 : Value) (a1 : Value) : bodyK Tryz.prog cl ann 58 Tryz.f58 b58 [a0, a1] = s58 cl a0 a1 := by kernel_rfl
theorem d58 {X : Exts} (hX : X 58 = none) (n : Nat) (a0 : Value) (a1 : Value) (H : Heap) : func Tryz.prog X ann (n + 1) 58 [a0, a1] H = s58 (callF Tryz.prog X ann n) a0 a1 n H :=
  (func_succ hX (by kernel_rfl) (by kernel_rfl : Tryz.f58.body = some b58) n (by rfl) H).trans (congrFun (congrFun (e58 _ a0 a1) n) H)

/- function 60 -/
noncomputable def s60 (cl : CallF) (a0 : Value) (a1 : Value) : M Value :=
  M.bind (cl 105 [a0, a1]) fun v10_1 =>
  M.bind (ext 0 v10_1) fun v11_2 =>
  M.bind (ext 1 v10_1) fun v12_3 =>
  M.bind (binI .eql v12_3 (Value.int .i64 0)) fun v14_4 =>
  condV v14_4 (
    M.bind (cl 118 [a0, v11_2]) fun v17_6 =>
    M.pure v12_3
  ) (
    M.pure v12_3
  )
noncomputable def b60 : Code := match Tryz.f60.body with
  | some c => c
  | none => .skip
theorem e60 (cl : CallF) (a0 : Value) (a1 : Value) : bodyK Tryz.prog cl ann 60 Tryz.f60 b60 [a0, a1] = s60 cl a0 a1 := by kernel_rfl
theorem d60 {X : Exts} (hX : X 60 = none) (n : Nat) (a0 : Value) (a1 : Value) (H : Heap) : func Tryz.prog X ann (n + 1) 60 [a0, a1] H = s60 (callF Tryz.prog X ann n) a0 a1 n H :=
  (func_succ hX (by kernel_rfl) (by kernel_rfl : Tryz.f60.body = some b60) n (by rfl) H).trans (congrFun (congrFun (e60 _ a0 a1) n) H)

/- function 62 -/
noncomputable def s62 (cl : CallF) (a0 : Value) : M Value :=
  M.bind (binN .slice .eql a0 (Value.slice none 0 0)) fun v4_1 =>
  condV v4_1 (
    M.pure (Value.slice none 0 0)
  ) (
    M.bind (bldSlice 3 1 [.int .i64 0] 0 []) fun v5_2 =>
    M.bind (app 3 1 8 v5_2 a0) fun v7_3 =>
    M.pure v7_3
  )
noncomputable def b62 : Code := match Tryz.f62.body with
  | some c => c
  | none => .skip
theorem e62 (cl : CallF) (a0 : Value) : bodyK Tryz.prog cl ann 62 Tryz.f62 b62 [a0] = s62 cl a0 := by kernel_rfl
theorem d62 {X : Exts} (hX : X 62 = none) (n : Nat) (a0 : Value) (H : Heap) : func Tryz.prog X ann (n + 1) 62 [a0] H = s62 (callF Tryz.prog X ann n) a0 n H :=
  (func_succ hX (by kernel_rfl) (by kernel_rfl : Tryz.f62.body = some b62) n (by rfl) H).trans (congrFun (congrFun (e62 _ a0) n) H)

/- function 63 -/
noncomputable def s63 (cl : CallF) (a0 : Value) : M Value :=
  M.bind (lenL a0) fun v7_1 =>
  M.bind (binI .lss v7_1 (Value.int .i64 2)) fun v8_2 =>
  condV v8_2 (
    M.pure a0
  ) (
    loopV (fun again_3 vs_3 =>
      let x0_3 := mk [0, 3] vs_3 0
      let x3_3 := mk [0, 3] vs_3 3
      M.bind (lenL x0_3) fun v12_4 =>
      M.bind (binI .lss x3_3 v12_4) fun v13_5 =>
      condV v13_5 (
        M.bind (idxS 1 x0_3 x3_3) fun v18_6 =>
        M.bind (ld false 1 v18_6) fun v19_7 =>
        M.bind (binI .sub x3_3 (Value.int .i64 1)) fun v22_8 =>
        M.bind (idxS 1 x0_3 v22_8) fun v23_9 =>
        M.bind (ld false 1 v23_9) fun v24_10 =>
        M.bind (binI .eql v19_7 v24_10) fun v25_11 =>
        condV v25_11 (
          M.bind (slcS 1 x0_3 (some x3_3) none none) fun v28_12 =>
          loopV (fun again_13 vs_13 =>
            let x0_13 := mk [0, 3, 4, 5] vs_13 0
            let x3_13 := mk [0, 3, 4, 5] vs_13 3
            let x4_13 := mk [0, 3, 4, 5] vs_13 4
            let x5_13 := mk [0, 3, 4, 5] vs_13 5
            M.bind (lenL x4_13) fun v31_14 =>
            M.bind (binI .lss x5_13 v31_14) fun v32_15 =>
            condV v32_15 (
              let j_16 := fun (y0_16 : Value) (y3_16 : Value) (y4_16 : Value) (y5_16 : Value) =>
                M.bind (binI .add y5_16 (Value.int .i64 1)) fun v34_17 =>
                again_13 [y0_16, y3_16, y4_16, v34_17]
              M.bind (idxS 1 x4_13 x5_13) fun v37_18 =>
              M.bind (ld false 1 v37_18) fun v38_19 =>
              M.bind (binI .sub x5_13 (Value.int .i64 1)) fun v41_20 =>
              M.bind (idxS 1 x4_13 v41_20) fun v42_21 =>
              M.bind (ld false 1 v42_21) fun v43_22 =>
              M.bind (binI .neq v38_19 v43_22) fun v44_23 =>
              condV v44_23 (
                M.bind (idxS 1 x4_13 x5_13) fun v49_25 =>
                M.bind (ld false 1 v49_25) fun v50_26 =>
                M.bind (idxS 1 x0_13 x3_13) fun v51_27 =>
                M.bind (st 1 v51_27 v50_26) fun _ =>
                M.bind (binI .add x3_13 (Value.int .i64 1)) fun v53_29 =>
                j_16 x0_13 v53_29 x4_13 x5_13
              ) (
                j_16 x0_13 x3_13 x4_13 x5_13
              )
            ) (
              M.bind (slcS 1 x0_13 (some x3_13) none none) fun v56_30 =>
              M.bind (clr [.int .i64 0] v56_30) fun _ =>
              M.bind (slcS 1 x0_13 none (some x3_13) none) fun v59_32 =>
              M.pure v59_32
            )
          ) [x0_3, x3_3, v28_12, Value.int .i64 1]
        ) (
          M.bind (binI .add x3_3 (Value.int .i64 1)) fun v15_33 =>
          again_3 [x0_3, v15_33]
        )
      ) (
        M.pure x0_3
      )
    ) [a0, Value.int .i64 1]
  )
noncomputable def b63 : Code := match Tryz.f63.body with
  | some c => c
  | none => .skip
theorem e63 (cl : CallF) (a0 : Value) : bodyK Tryz.prog cl ann 63 Tryz.f63 b63 [a0] = s63 cl a0 := by kernel_rfl
theorem d63 {X : Exts} (hX : X 63 = none) (n : Nat) (a0 : Value) (H : Heap) : func Tryz.prog X ann (n + 1) 63 [a0] H = s63 (callF Tryz.prog X ann n) a0 n H :=
  (func_succ hX (by kernel_rfl) (by kernel_rfl : Tryz.f63.body = some b63) n (by rfl) H).trans (congrFun (congrFun (e63 _ a0) n) H)

/- function 64 -/
noncomputable def s64 (cl : CallF) (a0 : Value) : M Value :=
  M.bind (cl 117 [a0]) fun v4_1 =>
  condV v4_1 (
    M.pure (Value.int .i64 0)
  ) (
    M.bind (nilck a0) fun v6_2 =>
    M.bind (fld 0 v6_2) fun v7_3 =>
    M.bind (ld false 1 v7_3) fun v8_4 =>
    M.pure v8_4
  )
noncomputable def b64 : Code := match Tryz.f64.body with
  | some c => c
  | none => .skip
theorem e64 (cl : CallF) (a0 : Value) : bodyK Tryz.prog cl ann 64 Tryz.f64 b64 [a0] = s64 cl a0 := by kernel_rfl
theorem d64 {X : Exts} (hX : X 64 = none) (n : Nat) (a0 : Value) (H : Heap) : func Tryz.prog X ann (n + 1) 64 [a0] H = s64 (callF Tryz.prog X ann n) a0 n H :=
  (func_succ hX (by kernel_rfl) (by kernel_rfl : Tryz.f64.body = some b64) n (by rfl) H).trans (congrFun (congrFun (e64 _ a0) n) H)

/- function 65 -/
noncomputable def s65 (cl : CallF) (a0 : Value) : M Value :=
  M.bind (box 32 a0) fun v1_1 =>
  M.bind (fld 0 v1_1) fun v3_2 =>
  M.bind (ld false 1 v3_2) fun v4_3 =>
  M.bind (binI .geq v4_3 (Value.int .i64 3)) fun v5_4 =>
  M.bind (guardM v5_4 true (fld 0 v1_1)) fun v7_5 =>
  M.bind (guardM v5_4 true (ld false 1 v7_5)) fun v8_6 =>
  M.bind (guardM v5_4 true (binI .leq v8_6 (Value.int .i64 16))) fun v9_7 =>
  M.bind (pck v5_4 v9_7 (Value.bool false)) fun v10_8 =>
  M.bind (guardM v10_8 true (fld 1 v1_1)) fun v12_9 =>
  M.bind (guardM v10_8 true (ld false 1 v12_9)) fun v13_10 =>
  M.bind (guardM v10_8 true (binI .geq v13_10 (Value.int .i64 1))) fun v14_11 =>
  M.bind (pck v10_8 v14_11 (Value.bool false)) fun v15_12 =>
  M.bind (guardM v15_12 true (fld 1 v1_1)) fun v17_13 =>
  M.bind (guardM v15_12 true (ld false 1 v17_13)) fun v18_14 =>
  M.bind (guardM v15_12 true (binI .leq v18_14 (Value.int .i64 64))) fun v19_15 =>
  M.bind (pck v15_12 v19_15 (Value.bool false)) fun v20_16 =>
  M.bind (guardM v20_16 true (fld 2 v1_1)) fun v22_17 =>
  M.bind (guardM v20_16 true (ld false 1 v22_17)) fun v23_18 =>
  M.bind (guardM v20_16 true (binI .geq v23_18 (Value.int .i64 40))) fun v24_19 =>
  M.bind (pck v20_16 v24_19 (Value.bool false)) fun v25_20 =>
  M.bind (guardM v25_20 true (fld 2 v1_1)) fun v27_21 =>
  M.bind (guardM v25_20 true (ld false 1 v27_21)) fun v28_22 =>
  M.bind (guardM v25_20 true (binI .leq v28_22 (Value.int .i64 256))) fun v29_23 =>
  M.bind (pck v25_20 v29_23 (Value.bool false)) fun v30_24 =>
  M.pure v30_24
noncomputable def b65 : Code := match Tryz.f65.body with
  | some c => c
  | none => .skip
theorem e65 (cl : CallF) (a0 : Value) : bodyK Tryz.prog cl ann 65 Tryz.f65 b65 [a0] = s65 cl a0 := by kernel_rfl
theorem d65 {X : Exts} (hX : X 65 = none) (n : Nat) (a0 : Value) (H : Heap) : func Tryz.prog X ann (n + 1) 65 [a0] H = s65 (callF Tryz.prog X ann n) a0 n H :=
  (func_succ hX (by kernel_rfl) (by kernel_rfl : Tryz.f65.body = some b65) n (by rfl) H).trans (congrFun (congrFun (e65 _ a0) n) H)

/- function 81 -/
noncomputable def s81 (cl : CallF) (a0 : Value) : M Value :=
  M.bind (alloc 40 ([.int .i64 0, .int .i64 0, .int .i64 0] ++ List.replicate 16 (Value.int .u8 0) ++ [.int .i64 0, .bool false])) fun v2_1 =>
  M.bind (cl 91 [a0]) fun v4_2 =>
  condV v4_2 (
    M.bind (bld ([.int .i64 0, .int .i64 0, .int .i64 0] ++ List.replicate 16 (Value.int .u8 0) ++ [.int .i64 0, .bool false]) []) fun v5_3 =>
    M.bind (st 21 v2_1 v5_3) fun _ =>
    M.bind (ld true 21 v2_1) fun r_5 =>
    M.pure r_5
  ) (
    M.bind (nilck a0) fun v7_6 =>
    M.bind (fld 3 v7_6) fun v8_7 =>
    M.bind (ld true 21 v8_7) fun v9_8 =>
    M.bind (st 21 v2_1 v9_8) fun _ =>
    M.bind (ld true 21 v2_1) fun r_10 =>
    M.pure r_10
  )
noncomputable def b81 : Code := match Tryz.f81.body with
  | some c => c
  | none => .skip
theorem e81 (cl : CallF) (a0 : Value) : bodyK Tryz.prog cl ann 81 Tryz.f81 b81 [a0] = s81 cl a0 := by kernel_rfl
theorem d81 {X : Exts} (hX : X 81 = none) (n : Nat) (a0 : Value) (H : Heap) : func Tryz.prog X ann (n + 1) 81 [a0] H = s81 (callF Tryz.prog X ann n) a0 n H :=
  (func_succ hX (by kernel_rfl) (by kernel_rfl : Tryz.f81.body = some b81) n (by rfl) H).trans (congrFun (congrFun (e81 _ a0) n) H)

/- function 83 -/
noncomputable def s83 (cl : CallF) (a0 : Value) : M Value :=
  M.bind (binI .lss a0 (Value.int .i64 1)) fun v5_1 =>
  M.bind (guardM v5_1 false (M.pure a0)) fun v7_2 =>
  M.bind (guardM v5_1 false (binI .gtr v7_2 (Value.int .i64 512))) fun v8_3 =>
  M.bind (pck v5_1 (Value.bool true) v8_3) fun v9_4 =>
  condV v9_4 (
    M.pure (Value.tuple ⟨[Value.pointer none, Value.int .i64 2]⟩)
  ) (
    M.bind (mkSlice 57 64 64 (List.replicate 64 (Value.int .u8 0)) a0 a0) fun v11_5 =>
    M.bind (bld [.slice none 0 0, .slice none 0 0, .bool false] [(0, 1, v11_5)]) fun v12_6 =>
    M.bind (box 194 v12_6) fun v13_7 =>
    M.pure (Value.tuple ⟨[v13_7, Value.int .i64 0]⟩)
  )
noncomputable def b83 : Code := match Tryz.f83.body with
  | some c => c
  | none => .skip
theorem e83 (cl : CallF) (a0 : Value) : bodyK Tryz.prog cl ann 83 Tryz.f83 b83 [a0] = s83 cl a0 := by kernel_rfl
theorem d83 {X : Exts} (hX : X 83 = none) (n : Nat) (a0 : Value) (H : Heap) : func Tryz.prog X ann (n + 1) 83 [a0] H = s83 (callF Tryz.prog X ann n) a0 n H :=
  (func_succ hX (by kernel_rfl) (by kernel_rfl : Tryz.f83.body = some b83) n (by rfl) H).trans (congrFun (congrFun (e83 _ a0) n) H)

/- function 84 -/
noncomputable def s84 (cl : CallF) (a0 : Value) : M Value :=
  M.bind (box 40 a0) fun v1_1 =>
  M.bind (fld 0 v1_1) fun v5_2 =>
  M.bind (ld true 3 v5_2) fun v6_3 =>
  M.bind (cl 65 [v6_3]) fun v7_4 =>
  M.bind (un .not v7_4) fun v8_5 =>
  condV v8_5 (
    M.pure (Value.bool false)
  ) (
    loopV (fun again_6 vs_6 =>
      let x1_6 := mk [1, 3, 4] vs_6 1
      let x3_6 := mk [1, 3, 4] vs_6 3
      let x4_6 := mk [1, 3, 4] vs_6 4
      M.bind (binI .lss x4_6 (Value.int .i64 16)) fun v10_7 =>
      condV v10_7 (
        let j_8 := fun (y1_8 : Value) (y3_8 : Value) (y4_8 : Value) =>
          M.bind (binI .add y4_8 (Value.int .i64 1)) fun v12_9 =>
          again_6 [y1_8, y3_8, v12_9]
        M.bind (fld 3 x1_6) fun v14_10 =>
        M.bind (idxP 16 1 v14_10 x4_6) fun v15_11 =>
        M.bind (ld false 1 v15_11) fun v16_12 =>
        M.bind (binI .gtr v16_12 (Value.int .u8 2)) fun v17_13 =>
        M.bind (guardM v17_13 false (M.pure x4_6)) fun v19_14 =>
        M.bind (guardM v17_13 false (fld 0 x1_6)) fun v20_15 =>
        M.bind (guardM v17_13 false (fld 0 v20_15)) fun v21_16 =>
        M.bind (guardM v17_13 false (ld false 1 v21_16)) fun v22_17 =>
        M.bind (guardM v17_13 false (binI .geq v19_14 v22_17)) fun v23_18 =>
        M.bind (guardM v17_13 false (M.pure v23_18)) fun v24_19 =>
        M.bind (guardM v24_19 true (M.pure x4_6)) fun v25_20 =>
        M.bind (guardM v24_19 true (fld 3 x1_6)) fun v26_21 =>
        M.bind (guardM v24_19 true (idxP 16 1 v26_21 v25_20)) fun v27_22 =>
        M.bind (guardM v24_19 true (ld false 1 v27_22)) fun v28_23 =>
        M.bind (guardM v24_19 true (binI .neq v28_23 (Value.int .u8 0))) fun v29_24 =>
        M.bind (guardM v17_13 false (pck v24_19 v29_24 (Value.bool false))) fun v30_25 =>
        M.bind (pck v17_13 (Value.bool true) v30_25) fun v31_26 =>
        condV v31_26 (
          M.pure (Value.bool false)
        ) (
          M.bind (fld 3 x1_6) fun v33_27 =>
          M.bind (idxP 16 1 v33_27 x4_6) fun v34_28 =>
          M.bind (ld false 1 v34_28) fun v35_29 =>
          M.bind (binI .eql v35_29 (Value.int .u8 2)) fun v36_30 =>
          condV v36_30 (
            M.bind (binI .add x3_6 (Value.int .i64 1)) fun v38_32 =>
            j_8 x1_6 v38_32 x4_6
          ) (
            j_8 x1_6 x3_6 x4_6
          )
        )
      ) (
        M.bind (binI .leq x3_6 (Value.int .i64 1)) fun v40_33 =>
        M.bind (guardM v40_33 true (fld 19 x1_6)) fun v42_34 =>
        M.bind (guardM v40_33 true (ld false 1 v42_34)) fun v43_35 =>
        M.bind (guardM v40_33 true (binI .geq v43_35 (Value.int .i64 0))) fun v44_36 =>
        M.bind (pck v40_33 v44_36 (Value.bool false)) fun v45_37 =>
        M.bind (guardM v45_37 true (fld 19 x1_6)) fun v47_38 =>
        M.bind (guardM v45_37 true (ld false 1 v47_38)) fun v48_39 =>
        M.bind (guardM v45_37 true (fld 0 x1_6)) fun v49_40 =>
        M.bind (guardM v45_37 true (fld 1 v49_40)) fun v50_41 =>
        M.bind (guardM v45_37 true (ld false 1 v50_41)) fun v51_42 =>
        M.bind (guardM v45_37 true (binI .lss v48_39 v51_42)) fun v52_43 =>
        M.bind (pck v45_37 v52_43 (Value.bool false)) fun v53_44 =>
        M.bind (guardM v53_44 true (M.pure x3_6)) fun v55_45 =>
        M.bind (guardM v53_44 true (binI .eql v55_45 (Value.int .i64 1))) fun v56_46 =>
        M.bind (guardM v53_44 true (M.pure v56_46)) fun v57_47 =>
        M.bind (guardM v57_47 false (fld 19 x1_6)) fun v58_48 =>
        M.bind (guardM v57_47 false (ld false 1 v58_48)) fun v59_49 =>
        M.bind (guardM v57_47 false (binI .eql v59_49 (Value.int .i64 0))) fun v60_50 =>
        M.bind (guardM v53_44 true (pck v57_47 (Value.bool true) v60_50)) fun v61_51 =>
        M.bind (pck v53_44 v61_51 (Value.bool false)) fun v62_52 =>
        M.pure v62_52
      )
    ) [v1_1, Value.int .i64 0, Value.int .i64 0]
  )
noncomputable def b84 : Code := match Tryz.f84.body with
  | some c => c
  | none => .skip
theorem e84 (cl : CallF) (a0 : Value) : bodyK Tryz.prog cl ann 84 Tryz.f84 b84 [a0] = s84 cl a0 := by kernel_rfl
theorem d84 {X : Exts} (hX : X 84 = none) (n : Nat) (a0 : Value) (H : Heap) : func Tryz.prog X ann (n + 1) 84 [a0] H = s84 (callF Tryz.prog X ann n) a0 n H :=
  (func_succ hX (by kernel_rfl) (by kernel_rfl : Tryz.f84.body = some b84) n (by rfl) H).trans (congrFun (congrFun (e84 _ a0) n) H)

/- function 86 -/
noncomputable def s86 (cl : CallF) (a0 : Value) : M Value :=
  M.bind (box 40 a0) fun v1_1 =>
  M.bind (fld 0 v1_1) fun v6_2 =>
  M.bind (ld true 3 v6_2) fun v7_3 =>
  M.bind (cl 54 [v7_3]) fun v8_4 =>
  M.bind (un .not v8_4) fun v9_5 =>
  M.bind (guardM v9_5 false (fld 19 v1_1)) fun v11_6 =>
  M.bind (guardM v9_5 false (ld false 1 v11_6)) fun v12_7 =>
  M.bind (guardM v9_5 false (binI .lss v12_7 (Value.int .i64 0))) fun v13_8 =>
  M.bind (pck v9_5 (Value.bool true) v13_8) fun v14_9 =>
  M.bind (guardM v14_9 false (fld 19 v1_1)) fun v16_10 =>
  M.bind (guardM v14_9 false (ld false 1 v16_10)) fun v17_11 =>
  M.bind (guardM v14_9 false (fld 0 v1_1)) fun v18_12 =>
  M.bind (guardM v14_9 false (fld 1 v18_12)) fun v19_13 =>
  M.bind (guardM v14_9 false (ld false 1 v19_13)) fun v20_14 =>
  M.bind (guardM v14_9 false (binI .geq v17_11 v20_14)) fun v21_15 =>
  M.bind (pck v14_9 (Value.bool true) v21_15) fun v22_16 =>
  condV v22_16 (
    M.pure (Value.bool false)
  ) (
    M.bind (fld 3 v1_1) fun v23_17 =>
    M.bind (fld 0 v1_1) fun v24_18 =>
    M.bind (fld 0 v24_18) fun v25_19 =>
    M.bind (ld false 1 v25_19) fun v26_20 =>
    M.bind (slcA 16 1 v23_17 (some v26_20) none none) fun v27_21 =>
    M.bind (lenL v27_21) fun v28_22 =>
    loopV (fun again_23 vs_23 =>
      let x1_23 := mk [1, 27, 28, 29] vs_23 1
      let x27_23 := mk [1, 27, 28, 29] vs_23 27
      let x28_23 := mk [1, 27, 28, 29] vs_23 28
      let x29_23 := mk [1, 27, 28, 29] vs_23 29
      M.bind (binI .lss x29_23 x28_23) fun v30_24 =>
      condV v30_24 (
        M.bind (idxS 1 x27_23 x29_23) fun v31_25 =>
        M.bind (ld false 1 v31_25) fun v32_26 =>
        M.bind (binI .neq v32_26 (Value.int .u8 0)) fun v34_27 =>
        condV v34_27 (
          M.pure (Value.bool false)
        ) (
          M.bind (binI .add x29_23 (Value.int .i64 1)) fun v35_28 =>
          again_23 [x1_23, x27_23, x28_23, v35_28]
        )
      ) (
        M.bind (ld true 21 x1_23) fun v36_29 =>
        M.bind (cl 140 [v36_29, Value.int .u8 2]) fun v37_30 =>
        M.bind (ld true 21 x1_23) fun v38_31 =>
        M.bind (ld true 21 x1_23) fun v40_32 =>
        M.bind (cl 140 [v38_31, Value.int .u8 0]) fun v39_33 =>
        M.bind getH fun h_34 =>
        M.bind (chk (ld true 21 x1_23) v40_32 h_34) fun _ =>
        M.bind (cl 140 [v40_32, Value.int .u8 1]) fun v41_35 =>
        M.bind (binI .add v39_33 v41_35) fun v42_36 =>
        M.bind (binI .add v42_36 v37_30) fun v44_37 =>
        M.bind (binI .eql v44_37 (Value.int .i64 16)) fun v45_38 =>
        M.bind (guardM v45_38 true (M.pure v37_30)) fun v47_39 =>
        M.bind (guardM v45_38 true (binI .eql v47_39 (Value.int .i64 1))) fun v48_40 =>
        M.bind (guardM v45_38 true (M.pure v48_40)) fun v49_41 =>
        M.bind (guardM v49_41 false (M.pure v37_30)) fun v50_42 =>
        M.bind (guardM v49_41 false (binI .eql v50_42 (Value.int .i64 0))) fun v51_43 =>
        M.bind (guardM v49_41 false (M.pure v51_43)) fun v52_44 =>
        M.bind (guardM v52_44 true (fld 19 x1_23)) fun v53_45 =>
        M.bind (guardM v52_44 true (ld false 1 v53_45)) fun v54_46 =>
        M.bind (guardM v52_44 true (binI .eql v54_46 (Value.int .i64 0))) fun v55_47 =>
        M.bind (guardM v49_41 false (pck v52_44 v55_47 (Value.bool false))) fun v56_48 =>
        M.bind (guardM v45_38 true (pck v49_41 (Value.bool true) v56_48)) fun v57_49 =>
        M.bind (pck v45_38 v57_49 (Value.bool false)) fun v58_50 =>
        M.pure v58_50
      )
    ) [v1_1, v27_21, v28_22, Value.int .i64 0]
  )
noncomputable def b86 : Code := match Tryz.f86.body with
  | some c => c
  | none => .skip
theorem e86 (cl : CallF) (a0 : Value) : bodyK Tryz.prog cl ann 86 Tryz.f86 b86 [a0] = s86 cl a0 := by kernel_rfl
theorem d86 {X : Exts} (hX : X 86 = none) (n : Nat) (a0 : Value) (H : Heap) : func Tryz.prog X ann (n + 1) 86 [a0] H = s86 (callF Tryz.prog X ann n) a0 n H :=
  (func_succ hX (by kernel_rfl) (by kernel_rfl : Tryz.f86.body = some b86) n (by rfl) H).trans (congrFun (congrFun (e86 _ a0) n) H)

/- function 88 -/
noncomputable def s88 (cl : CallF) (a0 : Value) : M Value :=
  M.bind (box 40 a0) fun v1_1 =>
  M.bind (ld true 21 v1_1) fun v3_2 =>
  M.bind (cl 84 [v3_2]) fun v4_3 =>
  M.pure v4_3
noncomputable def b88 : Code := match Tryz.f88.body with
  | some c => c
  | none => .skip
theorem e88 (cl : CallF) (a0 : Value) : bodyK Tryz.prog cl ann 88 Tryz.f88 b88 [a0] = s88 cl a0 := by kernel_rfl
theorem d88 {X : Exts} (hX : X 88 = none) (n : Nat) (a0 : Value) (H : Heap) : func Tryz.prog X ann (n + 1) 88 [a0] H = s88 (callF Tryz.prog X ann n) a0 n H :=
  (func_succ hX (by kernel_rfl) (by kernel_rfl : Tryz.f88.body = some b88) n (by rfl) H).trans (congrFun (congrFun (e88 _ a0) n) H)

/- function 89 -/
noncomputable def s89 (cl : CallF) (a0 : Value) : M Value :=
  M.bind (nilck a0) fun v4_1 =>
  M.bind (fld 0 v4_1) fun v5_2 =>
  M.bind (ld false 1 v5_2) fun v6_3 =>
  M.bind (lenL v6_3) fun v7_4 =>
  M.pure v7_4
noncomputable def b89 : Code := match Tryz.f89.body with
  | some c => c
  | none => .skip
theorem e89 (cl : CallF) (a0 : Value) : bodyK Tryz.prog cl ann 89 Tryz.f89 b89 [a0] = s89 cl a0 := by kernel_rfl
theorem d89 {X : Exts} (hX : X 89 = none) (n : Nat) (a0 : Value) (H : Heap) : func Tryz.prog X ann (n + 1) 89 [a0] H = s89 (callF Tryz.prog X ann n) a0 n H :=
  (func_succ hX (by kernel_rfl) (by kernel_rfl : Tryz.f89.body = some b89) n (by rfl) H).trans (congrFun (congrFun (e89 _ a0) n) H)

/- function 90 -/
noncomputable def s90 (cl : CallF) (a0 : Value) (a1 : Value) : M Value :=
  M.bind (cl 135 [a0, a1]) fun v7_1 =>
  M.bind (un .not v7_1) fun v8_2 =>
  condV v8_2 (
    M.pure (Value.int .i64 0)
  ) (
    M.bind (nilck a0) fun v10_3 =>
    M.bind (fld 0 v10_3) fun v11_4 =>
    M.bind (ld false 1 v11_4) fun v12_5 =>
    M.bind (idxS 1 v12_5 a1) fun v14_6 =>
    M.bind (ld false 1 v14_6) fun v15_7 =>
    M.bind (nilck v15_7) fun v16_8 =>
    M.bind (fld 0 v16_8) fun v17_9 =>
    M.bind (ld false 1 v17_9) fun v18_10 =>
    M.bind (lenL v18_10) fun v19_11 =>
    M.pure v19_11
  )
noncomputable def b90 : Code := match Tryz.f90.body with
  | some c => c
  | none => .skip
theorem e90 (cl : CallF) (a0 : Value) (a1 : Value) : bodyK Tryz.prog cl ann 90 Tryz.f90 b90 [a0, a1] = s90 cl a0 a1 := by kernel_rfl
theorem d90 {X : Exts} (hX : X 90 = none) (n : Nat) (a0 : Value) (a1 : Value) (H : Heap) : func Tryz.prog X ann (n + 1) 90 [a0, a1] H = s90 (callF Tryz.prog X ann n) a0 a1 n H :=
  (func_succ hX (by kernel_rfl) (by kernel_rfl : Tryz.f90.body = some b90) n (by rfl) H).trans (congrFun (congrFun (e90 _ a0 a1) n) H)

/- function 91 -/
noncomputable def s91 (cl : CallF) (a0 : Value) : M Value :=
  M.bind (binP .eql a0 (Value.pointer none)) fun v4_1 =>
  M.bind (guardM v4_1 false (M.pure a0)) fun v6_2 =>
  M.bind (guardM v4_1 false (nilck v6_2)) fun v7_3 =>
  M.bind (guardM v4_1 false (fld 0 v7_3)) fun v8_4 =>
  M.bind (guardM v4_1 false (ld false 1 v8_4)) fun v9_5 =>
  M.bind (guardM v4_1 false (binP .eql v9_5 (Value.pointer none))) fun v10_6 =>
  M.bind (pck v4_1 (Value.bool true) v10_6) fun v11_7 =>
  M.pure v11_7
noncomputable def b91 : Code := match Tryz.f91.body with
  | some c => c
  | none => .skip
theorem e91 (cl : CallF) (a0 : Value) : bodyK Tryz.prog cl ann 91 Tryz.f91 b91 [a0] = s91 cl a0 := by kernel_rfl
theorem d91 {X : Exts} (hX : X 91 = none) (n : Nat) (a0 : Value) (H : Heap) : func Tryz.prog X ann (n + 1) 91 [a0] H = s91 (callF Tryz.prog X ann n) a0 n H :=
  (func_succ hX (by kernel_rfl) (by kernel_rfl : Tryz.f91.body = some b91) n (by rfl) H).trans (congrFun (congrFun (e91 _ a0) n) H)

/- function 92 -/
noncomputable def s92 (cl : CallF) (a0 : Value) (a1 : Value) : M Value :=
  M.bind (box 55 a1) fun v3_1 =>
  M.bind (cl 91 [a0]) fun v10_2 =>
  condV v10_2 (
    M.pure (Value.tuple ⟨[Value.int .i64 0, Value.int .i64 1]⟩)
  ) (
    M.bind (ld true 2 v3_1) fun v13_3 =>
    M.bind (cl 142 [a0, v13_3]) fun v14_4 =>
    M.bind (ext 0 v14_4) fun v15_5 =>
    M.bind (ext 1 v14_4) fun v16_6 =>
    M.bind (un .not v16_6) fun v18_7 =>
    condV v18_7 (
      M.pure (Value.tuple ⟨[Value.int .i64 0, Value.int .i64 2]⟩)
    ) (
      M.bind (cl 95 [a0]) fun v20_8 =>
      M.bind (binI .neq v20_8 (Value.int .i64 0)) fun v22_9 =>
      condV v22_9 (
        M.pure (Value.tuple ⟨[Value.int .i64 0, v20_8]⟩)
      ) (
        M.bind (nilck a0) fun v25_10 =>
        M.bind (fld 3 v25_10) fun v26_11 =>
        M.bind (ld true 21 v26_11) fun v27_12 =>
        M.bind (fld 1 v3_1) fun v28_13 =>
        M.bind (ld false 1 v28_13) fun v29_14 =>
        M.bind (fld 0 v3_1) fun v30_15 =>
        M.bind (ld false 1 v30_15) fun v31_16 =>
        M.bind (cl 143 [v27_12, v29_14, v31_16]) fun v32_17 =>
        M.bind (un .not v32_17) fun v33_18 =>
        condV v33_18 (
          M.pure (Value.tuple ⟨[Value.int .i64 0, Value.int .i64 7]⟩)
        ) (
          M.pure (Value.tuple ⟨[v15_5, Value.int .i64 0]⟩)
        )
      )
    )
  )
noncomputable def b92 : Code := match Tryz.f92.body with
  | some c => c
  | none => .skip
theorem e92 (cl : CallF) (a0 : Value) (a1 : Value) : bodyK Tryz.prog cl ann 92 Tryz.f92 b92 [a0, a1] = s92 cl a0 a1 := by kernel_rfl
theorem d92 {X : Exts} (hX : X 92 = none) (n : Nat) (a0 : Value) (a1 : Value) (H : Heap) : func Tryz.prog X ann (n + 1) 92 [a0, a1] H = s92 (callF Tryz.prog X ann n) a0 a1 n H :=
  (func_succ hX (by kernel_rfl) (by kernel_rfl : Tryz.f92.body = some b92) n (by rfl) H).trans (congrFun (congrFun (e92 _ a0 a1) n) H)

/- function 93 -/
noncomputable def s93 (cl : CallF) (a0 : Value) (a1 : Value) (a2 : Value) (a3 : Value) : M Value :=
  M.bind (binI .eql a2 (Value.int .i64 9)) fun v14_1 =>
  condV v14_1 (
    M.bind (cl 99 [a0, a1]) fun v17_2 =>
    M.bind (binI .neq v17_2 (Value.int .i64 0)) fun v19_3 =>
    condV v19_3 (
      M.pure v17_2
    ) (
      M.bind (cl 95 [a0]) fun v22_4 =>
      M.bind (binI .neq v22_4 (Value.int .i64 0)) fun v24_5 =>
      condV v24_5 (
        M.pure v22_4
      ) (
        M.pure a3
      )
    )
  ) (
    M.pure a2
  )
noncomputable def b93 : Code := match Tryz.f93.body with
  | some c => c
  | none => .skip
theorem e93 (cl : CallF) (a0 : Value) (a1 : Value) (a2 : Value) (a3 : Value) : bodyK Tryz.prog cl ann 93 Tryz.f93 b93 [a0, a1, a2, a3] = s93 cl a0 a1 a2 a3 := by kernel_rfl
theorem d93 {X : Exts} (hX : X 93 = none) (n : Nat) (a0 : Value) (a1 : Value) (a2 : Value) (a3 : Value) (H : Heap) : func Tryz.prog X ann (n + 1) 93 [a0, a1, a2, a3] H = s93 (callF Tryz.prog X ann n) a0 a1 a2 a3 n H :=
  (func_succ hX (by kernel_rfl) (by kernel_rfl : Tryz.f93.body = some b93) n (by rfl) H).trans (congrFun (congrFun (e93 _ a0 a1 a2 a3) n) H)

end Go.Am
