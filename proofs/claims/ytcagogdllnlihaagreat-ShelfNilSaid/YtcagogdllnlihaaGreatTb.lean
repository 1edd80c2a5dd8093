/- The table of shallow functions: by program (tab.py). -/
import Derived.Test.YtcagogdllnlihaaGreatAmV
import Derived.Test.YtcagogdllnlihaaGreatCExt1
import Derived.Test.YtcagogdllnlihaaGreatTb0
import Derived.Test.YtcagogdllnlihaaGreatTb1
import Derived.Test.YtcagogdllnlihaaGreatTb2
set_option linter.all false
namespace Go.Am
open Go.Proofs
set_option linter.unusedVariables false
attribute [local irreducible] func
noncomputable def w3 : ShF := fun cl args => fun k H => match args with
  | [a0, a1] => s3 cl a0 a1 k H
  | args => func Tryz.prog ext1 ann (k + 1) 3 args H
theorem w3_ok : ShOk Tryz.prog ext1 ann 3 w3 := by
  intro n args H
  unfold w3
  split
  · exact d3 (by kernel_rfl) n _ _ H
  · rfl
noncomputable def w6 : ShF := fun cl args => fun k H => match args with
  | [a0, a1, a2] => s6 cl a0 a1 a2 k H
  | args => func Tryz.prog ext1 ann (k + 1) 6 args H
theorem w6_ok : ShOk Tryz.prog ext1 ann 6 w6 := by
  intro n args H
  unfold w6
  split
  · exact d6 (by kernel_rfl) n _ _ _ H
  · rfl
noncomputable def w8 : ShF := fun cl args => fun k H => match args with
  | [a0] => s8 cl a0 k H
  | args => func Tryz.prog ext1 ann (k + 1) 8 args H
theorem w8_ok : ShOk Tryz.prog ext1 ann 8 w8 := by
  intro n args H
  unfold w8
  split
  · exact d8 (by kernel_rfl) n _ H
  · rfl
noncomputable def w9 : ShF := fun cl args => fun k H => match args with
  | [a0, a1, a2] => s9 cl a0 a1 a2 k H
  | args => func Tryz.prog ext1 ann (k + 1) 9 args H
theorem w9_ok : ShOk Tryz.prog ext1 ann 9 w9 := by
  intro n args H
  unfold w9
  split
  · exact d9 (by kernel_rfl) n _ _ _ H
  · rfl
noncomputable def w10 : ShF := fun cl args => fun k H => match args with
  | [a0, a1] => s10 cl a0 a1 k H
  | args => func Tryz.prog ext1 ann (k + 1) 10 args H
theorem w10_ok : ShOk Tryz.prog ext1 ann 10 w10 := by
  intro n args H
  unfold w10
  split
  · exact d10 (by kernel_rfl) n _ _ H
  · rfl
noncomputable def w11 : ShF := fun cl args => fun k H => match args with
  | [] => s11 cl k H
  | args => func Tryz.prog ext1 ann (k + 1) 11 args H
theorem w11_ok : ShOk Tryz.prog ext1 ann 11 w11 := by
  intro n args H
  unfold w11
  split
  · exact d11 (by kernel_rfl) n H
  · rfl
noncomputable def w12 : ShF := fun cl args => fun k H => match args with
  | [a0, a1, a2] => s12 cl a0 a1 a2 k H
  | args => func Tryz.prog ext1 ann (k + 1) 12 args H
theorem w12_ok : ShOk Tryz.prog ext1 ann 12 w12 := by
  intro n args H
  unfold w12
  split
  · exact d12 (by kernel_rfl) n _ _ _ H
  · rfl
noncomputable def w13 : ShF := fun cl args => fun k H => match args with
  | [a0] => s13 cl a0 k H
  | args => func Tryz.prog ext1 ann (k + 1) 13 args H
theorem w13_ok : ShOk Tryz.prog ext1 ann 13 w13 := by
  intro n args H
  unfold w13
  split
  · exact d13 (by kernel_rfl) n _ H
  · rfl
noncomputable def w15 : ShF := fun cl args => fun k H => match args with
  | [a0, a1] => s15 cl a0 a1 k H
  | args => func Tryz.prog ext1 ann (k + 1) 15 args H
theorem w15_ok : ShOk Tryz.prog ext1 ann 15 w15 := by
  intro n args H
  unfold w15
  split
  · exact d15 (by kernel_rfl) n _ _ H
  · rfl
noncomputable def w17 : ShF := fun cl args => fun k H => match args with
  | [a0] => s17 cl a0 k H
  | args => func Tryz.prog ext1 ann (k + 1) 17 args H
theorem w17_ok : ShOk Tryz.prog ext1 ann 17 w17 := by
  intro n args H
  unfold w17
  split
  · exact d17 (by kernel_rfl) n _ H
  · rfl
noncomputable def w18 : ShF := fun cl args => fun k H => match args with
  | [a0, a1] => s18 cl a0 a1 k H
  | args => func Tryz.prog ext1 ann (k + 1) 18 args H
theorem w18_ok : ShOk Tryz.prog ext1 ann 18 w18 := by
  intro n args H
  unfold w18
  split
  · exact d18 (by kernel_rfl) n _ _ H
  · rfl
noncomputable def w19 : ShF := fun cl args => fun k H => match args with
  | [a0] => s19 cl a0 k H
  | args => func Tryz.prog ext1 ann (k + 1) 19 args H
theorem w19_ok : ShOk Tryz.prog ext1 ann 19 w19 := by
  intro n args H
  unfold w19
  split
  · exact d19 (by kernel_rfl) n _ H
  · rfl
noncomputable def w20 : ShF := fun cl args => fun k H => match args with
  | [a0, a1, a2] => s20 cl a0 a1 a2 k H
  | args => func Tryz.prog ext1 ann (k + 1) 20 args H
theorem w20_ok : ShOk Tryz.prog ext1 ann 20 w20 := by
  intro n args H
  unfold w20
  split
  · exact d20 (by kernel_rfl) n _ _ _ H
  · rfl
noncomputable def w21 : ShF := fun cl args => fun k H => match args with
  | [a0, a1] => s21 cl a0 a1 k H
  | args => func Tryz.prog ext1 ann (k + 1) 21 args H
theorem w21_ok : ShOk Tryz.prog ext1 ann 21 w21 := by
  intro n args H
  unfold w21
  split
  · exact d21 (by kernel_rfl) n _ _ H
  · rfl
noncomputable def w22 : ShF := fun cl args => fun k H => match args with
  | [a0] => s22 cl a0 k H
  | args => func Tryz.prog ext1 ann (k + 1) 22 args H
theorem w22_ok : ShOk Tryz.prog ext1 ann 22 w22 := by
  intro n args H
  unfold w22
  split
  · exact d22 (by kernel_rfl) n _ H
  · rfl
noncomputable def w23 : ShF := fun cl args => fun k H => match args with
  | [] => s23 cl k H
  | args => func Tryz.prog ext1 ann (k + 1) 23 args H
theorem w23_ok : ShOk Tryz.prog ext1 ann 23 w23 := by
  intro n args H
  unfold w23
  split
  · exact d23 (by kernel_rfl) n H
  · rfl
noncomputable def w24 : ShF := fun cl args => fun k H => match args with
  | [a0, a1] => s24 cl a0 a1 k H
  | args => func Tryz.prog ext1 ann (k + 1) 24 args H
theorem w24_ok : ShOk Tryz.prog ext1 ann 24 w24 := by
  intro n args H
  unfold w24
  split
  · exact d24 (by kernel_rfl) n _ _ H
  · rfl
noncomputable def w25 : ShF := fun cl args => fun k H => match args with
  | [a0, a1] => s25 cl a0 a1 k H
  | args => func Tryz.prog ext1 ann (k + 1) 25 args H
theorem w25_ok : ShOk Tryz.prog ext1 ann 25 w25 := by
  intro n args H
  unfold w25
  split
  · exact d25 (by kernel_rfl) n _ _ H
  · rfl
noncomputable def w26 : ShF := fun cl args => fun k H => match args with
  | [a0, a1] => s26 cl a0 a1 k H
  | args => func Tryz.prog ext1 ann (k + 1) 26 args H
theorem w26_ok : ShOk Tryz.prog ext1 ann 26 w26 := by
  intro n args H
  unfold w26
  split
  · exact d26 (by kernel_rfl) n _ _ H
  · rfl
noncomputable def w27 : ShF := fun cl args => fun k H => match args with
  | [a0] => s27 cl a0 k H
  | args => func Tryz.prog ext1 ann (k + 1) 27 args H
theorem w27_ok : ShOk Tryz.prog ext1 ann 27 w27 := by
  intro n args H
  unfold w27
  split
  · exact d27 (by kernel_rfl) n _ H
  · rfl
noncomputable def w28 : ShF := fun cl args => fun k H => match args with
  | [a0, a1] => s28 cl a0 a1 k H
  | args => func Tryz.prog ext1 ann (k + 1) 28 args H
theorem w28_ok : ShOk Tryz.prog ext1 ann 28 w28 := by
  intro n args H
  unfold w28
  split
  · exact d28 (by kernel_rfl) n _ _ H
  · rfl
noncomputable def w29 : ShF := fun cl args => fun k H => match args with
  | [a0, a1] => s29 cl a0 a1 k H
  | args => func Tryz.prog ext1 ann (k + 1) 29 args H
theorem w29_ok : ShOk Tryz.prog ext1 ann 29 w29 := by
  intro n args H
  unfold w29
  split
  · exact d29 (by kernel_rfl) n _ _ H
  · rfl
noncomputable def w33 : ShF := fun cl args => fun k H => match args with
  | [a0] => s33 cl a0 k H
  | args => func Tryz.prog ext1 ann (k + 1) 33 args H
theorem w33_ok : ShOk Tryz.prog ext1 ann 33 w33 := by
  intro n args H
  unfold w33
  split
  · exact d33 (by kernel_rfl) n _ H
  · rfl
noncomputable def w34 : ShF := fun cl args => fun k H => match args with
  | [a0] => s34 cl a0 k H
  | args => func Tryz.prog ext1 ann (k + 1) 34 args H
theorem w34_ok : ShOk Tryz.prog ext1 ann 34 w34 := by
  intro n args H
  unfold w34
  split
  · exact d34 (by kernel_rfl) n _ H
  · rfl
noncomputable def w35 : ShF := fun cl args => fun k H => match args with
  | [a0, a1, a2, a3] => s35 cl a0 a1 a2 a3 k H
  | args => func Tryz.prog ext1 ann (k + 1) 35 args H
theorem w35_ok : ShOk Tryz.prog ext1 ann 35 w35 := by
  intro n args H
  unfold w35
  split
  · exact d35 (by kernel_rfl) n _ _ _ _ H
  · rfl
noncomputable def w36 : ShF := fun cl args => fun k H => match args with
  | [a0, a1, a2, a3] => s36 cl a0 a1 a2 a3 k H
  | args => func Tryz.prog ext1 ann (k + 1) 36 args H
theorem w36_ok : ShOk Tryz.prog ext1 ann 36 w36 := by
  intro n args H
  unfold w36
  split
  · exact d36 (by kernel_rfl) n _ _ _ _ H
  · rfl
noncomputable def w37 : ShF := fun cl args => fun k H => match args with
  | [a0] => s37 cl a0 k H
  | args => func Tryz.prog ext1 ann (k + 1) 37 args H
theorem w37_ok : ShOk Tryz.prog ext1 ann 37 w37 := by
  intro n args H
  unfold w37
  split
  · exact d37 (by kernel_rfl) n _ H
  · rfl
noncomputable def w38 : ShF := fun cl args => fun k H => match args with
  | [a0, a1, a2] => s38 cl a0 a1 a2 k H
  | args => func Tryz.prog ext1 ann (k + 1) 38 args H
theorem w38_ok : ShOk Tryz.prog ext1 ann 38 w38 := by
  intro n args H
  unfold w38
  split
  · exact d38 (by kernel_rfl) n _ _ _ H
  · rfl
noncomputable def w39 : ShF := fun cl args => fun k H => match args with
  | [a0] => s39 cl a0 k H
  | args => func Tryz.prog ext1 ann (k + 1) 39 args H
theorem w39_ok : ShOk Tryz.prog ext1 ann 39 w39 := by
  intro n args H
  unfold w39
  split
  · exact d39 (by kernel_rfl) n _ H
  · rfl
noncomputable def w40 : ShF := fun cl args => fun k H => match args with
  | [a0] => s40 cl a0 k H
  | args => func Tryz.prog ext1 ann (k + 1) 40 args H
theorem w40_ok : ShOk Tryz.prog ext1 ann 40 w40 := by
  intro n args H
  unfold w40
  split
  · exact d40 (by kernel_rfl) n _ H
  · rfl
noncomputable def w41 : ShF := fun cl args => fun k H => match args with
  | [a0, a1] => s41 cl a0 a1 k H
  | args => func Tryz.prog ext1 ann (k + 1) 41 args H
theorem w41_ok : ShOk Tryz.prog ext1 ann 41 w41 := by
  intro n args H
  unfold w41
  split
  · exact d41 (by kernel_rfl) n _ _ H
  · rfl
noncomputable def w42 : ShF := fun cl args => fun k H => match args with
  | [a0, a1] => s42 cl a0 a1 k H
  | args => func Tryz.prog ext1 ann (k + 1) 42 args H
theorem w42_ok : ShOk Tryz.prog ext1 ann 42 w42 := by
  intro n args H
  unfold w42
  split
  · exact d42 (by kernel_rfl) n _ _ H
  · rfl
noncomputable def w43 : ShF := fun cl args => fun k H => match args with
  | [a0, a1] => s43 cl a0 a1 k H
  | args => func Tryz.prog ext1 ann (k + 1) 43 args H
theorem w43_ok : ShOk Tryz.prog ext1 ann 43 w43 := by
  intro n args H
  unfold w43
  split
  · exact d43 (by kernel_rfl) n _ _ H
  · rfl
noncomputable def w45 : ShF := fun cl args => fun k H => match args with
  | [a0, a1, a2] => s45 cl a0 a1 a2 k H
  | args => func Tryz.prog ext1 ann (k + 1) 45 args H
theorem w45_ok : ShOk Tryz.prog ext1 ann 45 w45 := by
  intro n args H
  unfold w45
  split
  · exact d45 (by kernel_rfl) n _ _ _ H
  · rfl
noncomputable def w48 : ShF := fun cl args => fun k H => match args with
  | [a0] => s48 cl a0 k H
  | args => func Tryz.prog ext1 ann (k + 1) 48 args H
theorem w48_ok : ShOk Tryz.prog ext1 ann 48 w48 := by
  intro n args H
  unfold w48
  split
  · exact d48 (by kernel_rfl) n _ H
  · rfl
noncomputable def w53 : ShF := fun cl args => fun k H => match args with
  | [a0] => s53 cl a0 k H
  | args => func Tryz.prog ext1 ann (k + 1) 53 args H
theorem w53_ok : ShOk Tryz.prog ext1 ann 53 w53 := by
  intro n args H
  unfold w53
  split
  · exact d53 (by kernel_rfl) n _ H
  · rfl
noncomputable def w54 : ShF := fun cl args => fun k H => match args with
  | [a0] => s54 cl a0 k H
  | args => func Tryz.prog ext1 ann (k + 1) 54 args H
theorem w54_ok : ShOk Tryz.prog ext1 ann 54 w54 := by
  intro n args H
  unfold w54
  split
  · exact d54 (by kernel_rfl) n _ H
  · rfl
noncomputable def w55 : ShF := fun cl args => fun k H => match args with
  | [a0, a1] => s55 cl a0 a1 k H
  | args => func Tryz.prog ext1 ann (k + 1) 55 args H
theorem w55_ok : ShOk Tryz.prog ext1 ann 55 w55 := by
  intro n args H
  unfold w55
  split
  · exact d55 (by kernel_rfl) n _ _ H
  · rfl
noncomputable def w57 : ShF := fun cl args => fun k H => match args with
  | [a0] => s57 cl a0 k H
  | args => func Tryz.prog ext1 ann (k + 1) 57 args H
theorem w57_ok : ShOk Tryz.prog ext1 ann 57 w57 := by
  intro n args H
  unfold w57
  split
  · exact d57 (by kernel_rfl) n _ H
  · rfl
noncomputable def w58 : ShF := fun cl args => fun k H => match args with
  | [a0, a1] => s58 cl a0 a1 k H
  | args => func Tryz.prog ext1 ann (k + 1) 58 args H
theorem w58_ok : ShOk Tryz.prog ext1 ann 58 w58 := by
  intro n args H
  unfold w58
  split
  · exact d58 (by kernel_rfl) n _ _ H
  · rfl
noncomputable def w60 : ShF := fun cl args => fun k H => match args with
  | [a0, a1] => s60 cl a0 a1 k H
  | args => func Tryz.prog ext1 ann (k + 1) 60 args H
theorem w60_ok : ShOk Tryz.prog ext1 ann 60 w60 := by
  intro n args H
  unfold w60
  split
  · exact d60 (by kernel_rfl) n _ _ H
  · rfl
noncomputable def w62 : ShF := fun cl args => fun k H => match args with
  | [a0] => s62 cl a0 k H
  | args => func Tryz.prog ext1 ann (k + 1) 62 args H
theorem w62_ok : ShOk Tryz.prog ext1 ann 62 w62 := by
  intro n args H
  unfold w62
  split
  · exact d62 (by kernel_rfl) n _ H
  · rfl
noncomputable def w63 : ShF := fun cl args => fun k H => match args with
  | [a0] => s63 cl a0 k H
  | args => func Tryz.prog ext1 ann (k + 1) 63 args H
theorem w63_ok : ShOk Tryz.prog ext1 ann 63 w63 := by
  intro n args H
  unfold w63
  split
  · exact d63 (by kernel_rfl) n _ H
  · rfl
noncomputable def w64 : ShF := fun cl args => fun k H => match args with
  | [a0] => s64 cl a0 k H
  | args => func Tryz.prog ext1 ann (k + 1) 64 args H
theorem w64_ok : ShOk Tryz.prog ext1 ann 64 w64 := by
  intro n args H
  unfold w64
  split
  · exact d64 (by kernel_rfl) n _ H
  · rfl
noncomputable def w65 : ShF := fun cl args => fun k H => match args with
  | [a0] => s65 cl a0 k H
  | args => func Tryz.prog ext1 ann (k + 1) 65 args H
theorem w65_ok : ShOk Tryz.prog ext1 ann 65 w65 := by
  intro n args H
  unfold w65
  split
  · exact d65 (by kernel_rfl) n _ H
  · rfl
noncomputable def w81 : ShF := fun cl args => fun k H => match args with
  | [a0] => s81 cl a0 k H
  | args => func Tryz.prog ext1 ann (k + 1) 81 args H
theorem w81_ok : ShOk Tryz.prog ext1 ann 81 w81 := by
  intro n args H
  unfold w81
  split
  · exact d81 (by kernel_rfl) n _ H
  · rfl
noncomputable def w83 : ShF := fun cl args => fun k H => match args with
  | [a0] => s83 cl a0 k H
  | args => func Tryz.prog ext1 ann (k + 1) 83 args H
theorem w83_ok : ShOk Tryz.prog ext1 ann 83 w83 := by
  intro n args H
  unfold w83
  split
  · exact d83 (by kernel_rfl) n _ H
  · rfl
noncomputable def w84 : ShF := fun cl args => fun k H => match args with
  | [a0] => s84 cl a0 k H
  | args => func Tryz.prog ext1 ann (k + 1) 84 args H
theorem w84_ok : ShOk Tryz.prog ext1 ann 84 w84 := by
  intro n args H
  unfold w84
  split
  · exact d84 (by kernel_rfl) n _ H
  · rfl
noncomputable def w86 : ShF := fun cl args => fun k H => match args with
  | [a0] => s86 cl a0 k H
  | args => func Tryz.prog ext1 ann (k + 1) 86 args H
theorem w86_ok : ShOk Tryz.prog ext1 ann 86 w86 := by
  intro n args H
  unfold w86
  split
  · exact d86 (by kernel_rfl) n _ H
  · rfl
noncomputable def w88 : ShF := fun cl args => fun k H => match args with
  | [a0] => s88 cl a0 k H
  | args => func Tryz.prog ext1 ann (k + 1) 88 args H
theorem w88_ok : ShOk Tryz.prog ext1 ann 88 w88 := by
  intro n args H
  unfold w88
  split
  · exact d88 (by kernel_rfl) n _ H
  · rfl
noncomputable def w89 : ShF := fun cl args => fun k H => match args with
  | [a0] => s89 cl a0 k H
  | args => func Tryz.prog ext1 ann (k + 1) 89 args H
theorem w89_ok : ShOk Tryz.prog ext1 ann 89 w89 := by
  intro n args H
  unfold w89
  split
  · exact d89 (by kernel_rfl) n _ H
  · rfl
noncomputable def w90 : ShF := fun cl args => fun k H => match args with
  | [a0, a1] => s90 cl a0 a1 k H
  | args => func Tryz.prog ext1 ann (k + 1) 90 args H
theorem w90_ok : ShOk Tryz.prog ext1 ann 90 w90 := by
  intro n args H
  unfold w90
  split
  · exact d90 (by kernel_rfl) n _ _ H
  · rfl
noncomputable def w91 : ShF := fun cl args => fun k H => match args with
  | [a0] => s91 cl a0 k H
  | args => func Tryz.prog ext1 ann (k + 1) 91 args H
theorem w91_ok : ShOk Tryz.prog ext1 ann 91 w91 := by
  intro n args H
  unfold w91
  split
  · exact d91 (by kernel_rfl) n _ H
  · rfl
noncomputable def w92 : ShF := fun cl args => fun k H => match args with
  | [a0, a1] => s92 cl a0 a1 k H
  | args => func Tryz.prog ext1 ann (k + 1) 92 args H
theorem w92_ok : ShOk Tryz.prog ext1 ann 92 w92 := by
  intro n args H
  unfold w92
  split
  · exact d92 (by kernel_rfl) n _ _ H
  · rfl
noncomputable def w93 : ShF := fun cl args => fun k H => match args with
  | [a0, a1, a2, a3] => s93 cl a0 a1 a2 a3 k H
  | args => func Tryz.prog ext1 ann (k + 1) 93 args H
theorem w93_ok : ShOk Tryz.prog ext1 ann 93 w93 := by
  intro n args H
  unfold w93
  split
  · exact d93 (by kernel_rfl) n _ _ _ _ H
  · rfl
noncomputable def w95 : ShF := fun cl args => fun k H => match args with
  | [a0] => s95 cl a0 k H
  | args => func Tryz.prog ext1 ann (k + 1) 95 args H
theorem w95_ok : ShOk Tryz.prog ext1 ann 95 w95 := by
  intro n args H
  unfold w95
  split
  · exact d95 (by kernel_rfl) n _ H
  · rfl
noncomputable def w96 : ShF := fun cl args => fun k H => match args with
  | [a0, a1] => s96 cl a0 a1 k H
  | args => func Tryz.prog ext1 ann (k + 1) 96 args H
theorem w96_ok : ShOk Tryz.prog ext1 ann 96 w96 := by
  intro n args H
  unfold w96
  split
  · exact d96 (by kernel_rfl) n _ _ H
  · rfl
noncomputable def w97 : ShF := fun cl args => fun k H => match args with
  | [a0, a1] => s97 cl a0 a1 k H
  | args => func Tryz.prog ext1 ann (k + 1) 97 args H
theorem w97_ok : ShOk Tryz.prog ext1 ann 97 w97 := by
  intro n args H
  unfold w97
  split
  · exact d97 (by kernel_rfl) n _ _ H
  · rfl
noncomputable def w99 : ShF := fun cl args => fun k H => match args with
  | [a0, a1] => s99 cl a0 a1 k H
  | args => func Tryz.prog ext1 ann (k + 1) 99 args H
theorem w99_ok : ShOk Tryz.prog ext1 ann 99 w99 := by
  intro n args H
  unfold w99
  split
  · exact d99 (by kernel_rfl) n _ _ H
  · rfl
noncomputable def w100 : ShF := fun cl args => fun k H => match args with
  | [a0, a1] => s100 cl a0 a1 k H
  | args => func Tryz.prog ext1 ann (k + 1) 100 args H
theorem w100_ok : ShOk Tryz.prog ext1 ann 100 w100 := by
  intro n args H
  unfold w100
  split
  · exact d100 (by kernel_rfl) n _ _ H
  · rfl
noncomputable def w101 : ShF := fun cl args => fun k H => match args with
  | [a0, a1] => s101 cl a0 a1 k H
  | args => func Tryz.prog ext1 ann (k + 1) 101 args H
theorem w101_ok : ShOk Tryz.prog ext1 ann 101 w101 := by
  intro n args H
  unfold w101
  split
  · exact d101 (by kernel_rfl) n _ _ H
  · rfl
noncomputable def w102 : ShF := fun cl args => fun k H => match args with
  | [a0, a1] => s102 cl a0 a1 k H
  | args => func Tryz.prog ext1 ann (k + 1) 102 args H
theorem w102_ok : ShOk Tryz.prog ext1 ann 102 w102 := by
  intro n args H
  unfold w102
  split
  · exact d102 (by kernel_rfl) n _ _ H
  · rfl
noncomputable def w105 : ShF := fun cl args => fun k H => match args with
  | [a0, a1] => s105 cl a0 a1 k H
  | args => func Tryz.prog ext1 ann (k + 1) 105 args H
theorem w105_ok : ShOk Tryz.prog ext1 ann 105 w105 := by
  intro n args H
  unfold w105
  split
  · exact d105 (by kernel_rfl) n _ _ H
  · rfl
noncomputable def w106 : ShF := fun cl args => fun k H => match args with
  | [a0, a1, a2, a3] => s106 cl a0 a1 a2 a3 k H
  | args => func Tryz.prog ext1 ann (k + 1) 106 args H
theorem w106_ok : ShOk Tryz.prog ext1 ann 106 w106 := by
  intro n args H
  unfold w106
  split
  · exact d106 (by kernel_rfl) n _ _ _ _ H
  · rfl
noncomputable def w107 : ShF := fun cl args => fun k H => match args with
  | [a0] => s107 cl a0 k H
  | args => func Tryz.prog ext1 ann (k + 1) 107 args H
theorem w107_ok : ShOk Tryz.prog ext1 ann 107 w107 := by
  intro n args H
  unfold w107
  split
  · exact d107 (by kernel_rfl) n _ H
  · rfl
noncomputable def w112 : ShF := fun cl args => fun k H => match args with
  | [a0, a1, a2] => s112 cl a0 a1 a2 k H
  | args => func Tryz.prog ext1 ann (k + 1) 112 args H
theorem w112_ok : ShOk Tryz.prog ext1 ann 112 w112 := by
  intro n args H
  unfold w112
  split
  · exact d112 (by kernel_rfl) n _ _ _ H
  · rfl
noncomputable def w113 : ShF := fun cl args => fun k H => match args with
  | [a0, a1] => s113 cl a0 a1 k H
  | args => func Tryz.prog ext1 ann (k + 1) 113 args H
theorem w113_ok : ShOk Tryz.prog ext1 ann 113 w113 := by
  intro n args H
  unfold w113
  split
  · exact d113 (by kernel_rfl) n _ _ H
  · rfl
noncomputable def w114 : ShF := fun cl args => fun k H => match args with
  | [a0, a1, a2] => s114 cl a0 a1 a2 k H
  | args => func Tryz.prog ext1 ann (k + 1) 114 args H
theorem w114_ok : ShOk Tryz.prog ext1 ann 114 w114 := by
  intro n args H
  unfold w114
  split
  · exact d114 (by kernel_rfl) n _ _ _ H
  · rfl
noncomputable def w115 : ShF := fun cl args => fun k H => match args with
  | [a0, a1] => s115 cl a0 a1 k H
  | args => func Tryz.prog ext1 ann (k + 1) 115 args H
theorem w115_ok : ShOk Tryz.prog ext1 ann 115 w115 := by
  intro n args H
  unfold w115
  split
  · exact d115 (by kernel_rfl) n _ _ H
  · rfl
noncomputable def w116 : ShF := fun cl args => fun k H => match args with
  | [a0] => s116 cl a0 k H
  | args => func Tryz.prog ext1 ann (k + 1) 116 args H
theorem w116_ok : ShOk Tryz.prog ext1 ann 116 w116 := by
  intro n args H
  unfold w116
  split
  · exact d116 (by kernel_rfl) n _ H
  · rfl
noncomputable def w117 : ShF := fun cl args => fun k H => match args with
  | [a0] => s117 cl a0 k H
  | args => func Tryz.prog ext1 ann (k + 1) 117 args H
theorem w117_ok : ShOk Tryz.prog ext1 ann 117 w117 := by
  intro n args H
  unfold w117
  split
  · exact d117 (by kernel_rfl) n _ H
  · rfl
noncomputable def w118 : ShF := fun cl args => fun k H => match args with
  | [a0, a1] => s118 cl a0 a1 k H
  | args => func Tryz.prog ext1 ann (k + 1) 118 args H
theorem w118_ok : ShOk Tryz.prog ext1 ann 118 w118 := by
  intro n args H
  unfold w118
  split
  · exact d118 (by kernel_rfl) n _ _ H
  · rfl
noncomputable def w135 : ShF := fun cl args => fun k H => match args with
  | [a0, a1] => s135 cl a0 a1 k H
  | args => func Tryz.prog ext1 ann (k + 1) 135 args H
theorem w135_ok : ShOk Tryz.prog ext1 ann 135 w135 := by
  intro n args H
  unfold w135
  split
  · exact d135 (by kernel_rfl) n _ _ H
  · rfl
noncomputable def w140 : ShF := fun cl args => fun k H => match args with
  | [a0, a1] => s140 cl a0 a1 k H
  | args => func Tryz.prog ext1 ann (k + 1) 140 args H
theorem w140_ok : ShOk Tryz.prog ext1 ann 140 w140 := by
  intro n args H
  unfold w140
  split
  · exact d140 (by kernel_rfl) n _ _ H
  · rfl
noncomputable def w142 : ShF := fun cl args => fun k H => match args with
  | [a0, a1] => s142 cl a0 a1 k H
  | args => func Tryz.prog ext1 ann (k + 1) 142 args H
theorem w142_ok : ShOk Tryz.prog ext1 ann 142 w142 := by
  intro n args H
  unfold w142
  split
  · exact d142 (by kernel_rfl) n _ _ H
  · rfl
noncomputable def w143 : ShF := fun cl args => fun k H => match args with
  | [a0, a1, a2] => s143 cl a0 a1 a2 k H
  | args => func Tryz.prog ext1 ann (k + 1) 143 args H
theorem w143_ok : ShOk Tryz.prog ext1 ann 143 w143 := by
  intro n args H
  unfold w143
  split
  · exact d143 (by kernel_rfl) n _ _ _ H
  · rfl
noncomputable def w148 : ShF := fun cl args => fun k H => match args with
  | [a0] => s148 cl a0 k H
  | args => func Tryz.prog ext1 ann (k + 1) 148 args H
theorem w148_ok : ShOk Tryz.prog ext1 ann 148 w148 := by
  intro n args H
  unfold w148
  split
  · exact d148 (by kernel_rfl) n _ H
  · rfl
noncomputable def w150 : ShF := fun cl args => fun k H => match args with
  | [a0, a1] => s150 cl a0 a1 k H
  | args => func Tryz.prog ext1 ann (k + 1) 150 args H
theorem w150_ok : ShOk Tryz.prog ext1 ann 150 w150 := by
  intro n args H
  unfold w150
  split
  · exact d150 (by kernel_rfl) n _ _ H
  · rfl
noncomputable def w151 : ShF := fun cl args => fun k H => match args with
  | [a0] => s151 cl a0 k H
  | args => func Tryz.prog ext1 ann (k + 1) 151 args H
theorem w151_ok : ShOk Tryz.prog ext1 ann 151 w151 := by
  intro n args H
  unfold w151
  split
  · exact d151 (by kernel_rfl) n _ H
  · rfl
noncomputable def w152 : ShF := fun cl args => fun k H => match args with
  | [a0] => s152 cl a0 k H
  | args => func Tryz.prog ext1 ann (k + 1) 152 args H
theorem w152_ok : ShOk Tryz.prog ext1 ann 152 w152 := by
  intro n args H
  unfold w152
  split
  · exact d152 (by kernel_rfl) n _ H
  · rfl
noncomputable def w153 : ShF := fun cl args => fun k H => match args with
  | [a0, a1] => s153 cl a0 a1 k H
  | args => func Tryz.prog ext1 ann (k + 1) 153 args H
theorem w153_ok : ShOk Tryz.prog ext1 ann 153 w153 := by
  intro n args H
  unfold w153
  split
  · exact d153 (by kernel_rfl) n _ _ H
  · rfl
noncomputable def w154 : ShF := fun cl args => fun k H => match args with
  | [a0, a1, a2] => s154 cl a0 a1 a2 k H
  | args => func Tryz.prog ext1 ann (k + 1) 154 args H
theorem w154_ok : ShOk Tryz.prog ext1 ann 154 w154 := by
  intro n args H
  unfold w154
  split
  · exact d154 (by kernel_rfl) n _ _ _ H
  · rfl
noncomputable def w155 : ShF := fun cl args => fun k H => match args with
  | [a0, a1, a2] => s155 cl a0 a1 a2 k H
  | args => func Tryz.prog ext1 ann (k + 1) 155 args H
theorem w155_ok : ShOk Tryz.prog ext1 ann 155 w155 := by
  intro n args H
  unfold w155
  split
  · exact d155 (by kernel_rfl) n _ _ _ H
  · rfl
noncomputable def w156 : ShF := fun cl args => fun k H => match args with
  | [a0, a1, a2] => s156 cl a0 a1 a2 k H
  | args => func Tryz.prog ext1 ann (k + 1) 156 args H
theorem w156_ok : ShOk Tryz.prog ext1 ann 156 w156 := by
  intro n args H
  unfold w156
  split
  · exact d156 (by kernel_rfl) n _ _ _ H
  · rfl
noncomputable def w157 : ShF := fun cl args => fun k H => match args with
  | [a0, a1, a2] => s157 cl a0 a1 a2 k H
  | args => func Tryz.prog ext1 ann (k + 1) 157 args H
theorem w157_ok : ShOk Tryz.prog ext1 ann 157 w157 := by
  intro n args H
  unfold w157
  split
  · exact d157 (by kernel_rfl) n _ _ _ H
  · rfl
noncomputable def w158 : ShF := fun cl args => fun k H => match args with
  | [a0, a1, a2] => s158 cl a0 a1 a2 k H
  | args => func Tryz.prog ext1 ann (k + 1) 158 args H
theorem w158_ok : ShOk Tryz.prog ext1 ann 158 w158 := by
  intro n args H
  unfold w158
  split
  · exact d158 (by kernel_rfl) n _ _ _ H
  · rfl
noncomputable def w159 : ShF := fun cl args => fun k H => match args with
  | [a0, a1, a2] => s159 cl a0 a1 a2 k H
  | args => func Tryz.prog ext1 ann (k + 1) 159 args H
theorem w159_ok : ShOk Tryz.prog ext1 ann 159 w159 := by
  intro n args H
  unfold w159
  split
  · exact d159 (by kernel_rfl) n _ _ _ H
  · rfl
noncomputable def w160 : ShF := fun cl args => fun k H => match args with
  | [a0, a1] => s160 cl a0 a1 k H
  | args => func Tryz.prog ext1 ann (k + 1) 160 args H
theorem w160_ok : ShOk Tryz.prog ext1 ann 160 w160 := by
  intro n args H
  unfold w160
  split
  · exact d160 (by kernel_rfl) n _ _ H
  · rfl
noncomputable def w161 : ShF := fun cl args => fun k H => match args with
  | [a0, a1, a2, a3] => s161 cl a0 a1 a2 a3 k H
  | args => func Tryz.prog ext1 ann (k + 1) 161 args H
theorem w161_ok : ShOk Tryz.prog ext1 ann 161 w161 := by
  intro n args H
  unfold w161
  split
  · exact d161 (by kernel_rfl) n _ _ _ _ H
  · rfl
noncomputable def w162 : ShF := fun cl args => fun k H => match args with
  | [a0, a1, a2, a3] => s162 cl a0 a1 a2 a3 k H
  | args => func Tryz.prog ext1 ann (k + 1) 162 args H
theorem w162_ok : ShOk Tryz.prog ext1 ann 162 w162 := by
  intro n args H
  unfold w162
  split
  · exact d162 (by kernel_rfl) n _ _ _ _ H
  · rfl
noncomputable def w163 : ShF := fun cl args => fun k H => match args with
  | [a0] => s163 cl a0 k H
  | args => func Tryz.prog ext1 ann (k + 1) 163 args H
theorem w163_ok : ShOk Tryz.prog ext1 ann 163 w163 := by
  intro n args H
  unfold w163
  split
  · exact d163 (by kernel_rfl) n _ H
  · rfl
noncomputable def w164 : ShF := fun cl args => fun k H => match args with
  | [a0] => s164 cl a0 k H
  | args => func Tryz.prog ext1 ann (k + 1) 164 args H
theorem w164_ok : ShOk Tryz.prog ext1 ann 164 w164 := by
  intro n args H
  unfold w164
  split
  · exact d164 (by kernel_rfl) n _ H
  · rfl
noncomputable def w165 : ShF := fun cl args => fun k H => match args with
  | [a0, a1] => s165 cl a0 a1 k H
  | args => func Tryz.prog ext1 ann (k + 1) 165 args H
theorem w165_ok : ShOk Tryz.prog ext1 ann 165 w165 := by
  intro n args H
  unfold w165
  split
  · exact d165 (by kernel_rfl) n _ _ H
  · rfl
noncomputable def w180 : ShF := fun cl args => fun k H => match args with
  | [a0] => s180 cl a0 k H
  | args => func Tryz.prog ext1 ann (k + 1) 180 args H
theorem w180_ok : ShOk Tryz.prog ext1 ann 180 w180 := by
  intro n args H
  unfold w180
  split
  · exact d180 (by kernel_rfl) n _ H
  · rfl
noncomputable def w181 : ShF := fun cl args => fun k H => match args with
  | [a0, a1] => s181 cl a0 a1 k H
  | args => func Tryz.prog ext1 ann (k + 1) 181 args H
theorem w181_ok : ShOk Tryz.prog ext1 ann 181 w181 := by
  intro n args H
  unfold w181
  split
  · exact d181 (by kernel_rfl) n _ _ H
  · rfl
noncomputable def w184 : ShF := fun cl args => fun k H => match args with
  | [a0] => s184 cl a0 k H
  | args => func Tryz.prog ext1 ann (k + 1) 184 args H
theorem w184_ok : ShOk Tryz.prog ext1 ann 184 w184 := by
  intro n args H
  unfold w184
  split
  · exact d184 (by kernel_rfl) n _ H
  · rfl
noncomputable def w185 : ShF := fun cl args => fun k H => match args with
  | [a0] => s185 cl a0 k H
  | args => func Tryz.prog ext1 ann (k + 1) 185 args H
theorem w185_ok : ShOk Tryz.prog ext1 ann 185 w185 := by
  intro n args H
  unfold w185
  split
  · exact d185 (by kernel_rfl) n _ H
  · rfl
noncomputable def w186 : ShF := fun cl args => fun k H => match args with
  | [a0, a1, a2] => s186 cl a0 a1 a2 k H
  | args => func Tryz.prog ext1 ann (k + 1) 186 args H
theorem w186_ok : ShOk Tryz.prog ext1 ann 186 w186 := by
  intro n args H
  unfold w186
  split
  · exact d186 (by kernel_rfl) n _ _ _ H
  · rfl
noncomputable def w187 : ShF := fun cl args => fun k H => match args with
  | [a0, a1] => s187 cl a0 a1 k H
  | args => func Tryz.prog ext1 ann (k + 1) 187 args H
theorem w187_ok : ShOk Tryz.prog ext1 ann 187 w187 := by
  intro n args H
  unfold w187
  split
  · exact d187 (by kernel_rfl) n _ _ H
  · rfl
noncomputable def w188 : ShF := fun cl args => fun k H => match args with
  | [a0, a1, a2, a3] => s188 cl a0 a1 a2 a3 k H
  | args => func Tryz.prog ext1 ann (k + 1) 188 args H
theorem w188_ok : ShOk Tryz.prog ext1 ann 188 w188 := by
  intro n args H
  unfold w188
  split
  · exact d188 (by kernel_rfl) n _ _ _ _ H
  · rfl
noncomputable def w189 : ShF := fun cl args => fun k H => match args with
  | [a0] => s189 cl a0 k H
  | args => func Tryz.prog ext1 ann (k + 1) 189 args H
theorem w189_ok : ShOk Tryz.prog ext1 ann 189 w189 := by
  intro n args H
  unfold w189
  split
  · exact d189 (by kernel_rfl) n _ H
  · rfl
noncomputable def w190 : ShF := fun cl args => fun k H => match args with
  | [a0] => s190 cl a0 k H
  | args => func Tryz.prog ext1 ann (k + 1) 190 args H
theorem w190_ok : ShOk Tryz.prog ext1 ann 190 w190 := by
  intro n args H
  unfold w190
  split
  · exact d190 (by kernel_rfl) n _ H
  · rfl
noncomputable def w191 : ShF := fun cl args => fun k H => match args with
  | [a0, a1, a2] => s191 cl a0 a1 a2 k H
  | args => func Tryz.prog ext1 ann (k + 1) 191 args H
theorem w191_ok : ShOk Tryz.prog ext1 ann 191 w191 := by
  intro n args H
  unfold w191
  split
  · exact d191 (by kernel_rfl) n _ _ _ H
  · rfl
noncomputable def w192 : ShF := fun cl args => fun k H => match args with
  | [a0, a1, a2, a3, a4] => s192 cl a0 a1 a2 a3 a4 k H
  | args => func Tryz.prog ext1 ann (k + 1) 192 args H
theorem w192_ok : ShOk Tryz.prog ext1 ann 192 w192 := by
  intro n args H
  unfold w192
  split
  · exact d192 (by kernel_rfl) n _ _ _ _ _ H
  · rfl
noncomputable def w193 : ShF := fun cl args => fun k H => match args with
  | [a0] => s193 cl a0 k H
  | args => func Tryz.prog ext1 ann (k + 1) 193 args H
theorem w193_ok : ShOk Tryz.prog ext1 ann 193 w193 := by
  intro n args H
  unfold w193
  split
  · exact d193 (by kernel_rfl) n _ H
  · rfl
noncomputable def w198 : ShF := fun cl args => fun k H => match args with
  | [a0, a1] => s198 cl a0 a1 k H
  | args => func Tryz.prog ext1 ann (k + 1) 198 args H
theorem w198_ok : ShOk Tryz.prog ext1 ann 198 w198 := by
  intro n args H
  unfold w198
  split
  · exact d198 (by kernel_rfl) n _ _ H
  · rfl
noncomputable def w199 : ShF := fun cl args => fun k H => match args with
  | [a0, a1] => s199 cl a0 a1 k H
  | args => func Tryz.prog ext1 ann (k + 1) 199 args H
theorem w199_ok : ShOk Tryz.prog ext1 ann 199 w199 := by
  intro n args H
  unfold w199
  split
  · exact d199 (by kernel_rfl) n _ _ H
  · rfl
noncomputable def w200 : ShF := fun cl args => fun k H => match args with
  | [a0, a1, a2, a3] => s200 cl a0 a1 a2 a3 k H
  | args => func Tryz.prog ext1 ann (k + 1) 200 args H
theorem w200_ok : ShOk Tryz.prog ext1 ann 200 w200 := by
  intro n args H
  unfold w200
  split
  · exact d200 (by kernel_rfl) n _ _ _ _ H
  · rfl
noncomputable def w203 : ShF := fun cl args => fun k H => match args with
  | [a0, a1] => s203 cl a0 a1 k H
  | args => func Tryz.prog ext1 ann (k + 1) 203 args H
theorem w203_ok : ShOk Tryz.prog ext1 ann 203 w203 := by
  intro n args H
  unfold w203
  split
  · exact d203 (by kernel_rfl) n _ _ H
  · rfl
noncomputable def w204 : ShF := fun cl args => fun k H => match args with
  | [a0] => s204 cl a0 k H
  | args => func Tryz.prog ext1 ann (k + 1) 204 args H
theorem w204_ok : ShOk Tryz.prog ext1 ann 204 w204 := by
  intro n args H
  unfold w204
  split
  · exact d204 (by kernel_rfl) n _ H
  · rfl
noncomputable def w205 : ShF := fun cl args => fun k H => match args with
  | [a0] => s205 cl a0 k H
  | args => func Tryz.prog ext1 ann (k + 1) 205 args H
theorem w205_ok : ShOk Tryz.prog ext1 ann 205 w205 := by
  intro n args H
  unfold w205
  split
  · exact d205 (by kernel_rfl) n _ H
  · rfl
noncomputable def w206 : ShF := fun cl args => fun k H => match args with
  | [a0, a1] => s206 cl a0 a1 k H
  | args => func Tryz.prog ext1 ann (k + 1) 206 args H
theorem w206_ok : ShOk Tryz.prog ext1 ann 206 w206 := by
  intro n args H
  unfold w206
  split
  · exact d206 (by kernel_rfl) n _ _ H
  · rfl
noncomputable def w211 : ShF := fun cl args => fun k H => match args with
  | [a0, a1] => s211 cl a0 a1 k H
  | args => func Tryz.prog ext1 ann (k + 1) 211 args H
theorem w211_ok : ShOk Tryz.prog ext1 ann 211 w211 := by
  intro n args H
  unfold w211
  split
  · exact d211 (by kernel_rfl) n _ _ H
  · rfl
noncomputable def w212 : ShF := fun cl args => fun k H => match args with
  | [a0] => s212 cl a0 k H
  | args => func Tryz.prog ext1 ann (k + 1) 212 args H
theorem w212_ok : ShOk Tryz.prog ext1 ann 212 w212 := by
  intro n args H
  unfold w212
  split
  · exact d212 (by kernel_rfl) n _ H
  · rfl
noncomputable def w213 : ShF := fun cl args => fun k H => match args with
  | [a0, a1] => s213 cl a0 a1 k H
  | args => func Tryz.prog ext1 ann (k + 1) 213 args H
theorem w213_ok : ShOk Tryz.prog ext1 ann 213 w213 := by
  intro n args H
  unfold w213
  split
  · exact d213 (by kernel_rfl) n _ _ H
  · rfl
noncomputable def w214 : ShF := fun cl args => fun k H => match args with
  | [a0] => s214 cl a0 k H
  | args => func Tryz.prog ext1 ann (k + 1) 214 args H
theorem w214_ok : ShOk Tryz.prog ext1 ann 214 w214 := by
  intro n args H
  unfold w214
  split
  · exact d214 (by kernel_rfl) n _ H
  · rfl
noncomputable def w223 : ShF := fun cl args => fun k H => match args with
  | [a0] => s223 cl a0 k H
  | args => func Tryz.prog ext1 ann (k + 1) 223 args H
theorem w223_ok : ShOk Tryz.prog ext1 ann 223 w223 := by
  intro n args H
  unfold w223
  split
  · exact d223 (by kernel_rfl) n _ H
  · rfl
noncomputable def w224 : ShF := fun cl args => fun k H => match args with
  | [a0, a1] => s224 cl a0 a1 k H
  | args => func Tryz.prog ext1 ann (k + 1) 224 args H
theorem w224_ok : ShOk Tryz.prog ext1 ann 224 w224 := by
  intro n args H
  unfold w224
  split
  · exact d224 (by kernel_rfl) n _ _ H
  · rfl
noncomputable def w225 : ShF := fun cl args => fun k H => match args with
  | [a0] => s225 cl a0 k H
  | args => func Tryz.prog ext1 ann (k + 1) 225 args H
theorem w225_ok : ShOk Tryz.prog ext1 ann 225 w225 := by
  intro n args H
  unfold w225
  split
  · exact d225 (by kernel_rfl) n _ H
  · rfl
noncomputable def w235 : ShF := fun cl args => fun k H => match args with
  | [a0] => s235 cl a0 k H
  | args => func Tryz.prog ext1 ann (k + 1) 235 args H
theorem w235_ok : ShOk Tryz.prog ext1 ann 235 w235 := by
  intro n args H
  unfold w235
  split
  · exact d235 (by kernel_rfl) n _ H
  · rfl
noncomputable def w236 : ShF := fun cl args => fun k H => match args with
  | [a0, a1] => s236 cl a0 a1 k H
  | args => func Tryz.prog ext1 ann (k + 1) 236 args H
theorem w236_ok : ShOk Tryz.prog ext1 ann 236 w236 := by
  intro n args H
  unfold w236
  split
  · exact d236 (by kernel_rfl) n _ _ H
  · rfl
noncomputable def w237 : ShF := fun cl args => fun k H => match args with
  | [a0, a1, a2] => s237 cl a0 a1 a2 k H
  | args => func Tryz.prog ext1 ann (k + 1) 237 args H
theorem w237_ok : ShOk Tryz.prog ext1 ann 237 w237 := by
  intro n args H
  unfold w237
  split
  · exact d237 (by kernel_rfl) n _ _ _ H
  · rfl
noncomputable def w238 : ShF := fun cl args => fun k H => match args with
  | [a0, a1] => s238 cl a0 a1 k H
  | args => func Tryz.prog ext1 ann (k + 1) 238 args H
theorem w238_ok : ShOk Tryz.prog ext1 ann 238 w238 := by
  intro n args H
  unfold w238
  split
  · exact d238 (by kernel_rfl) n _ _ H
  · rfl
noncomputable def w239 : ShF := fun cl args => fun k H => match args with
  | [a0] => s239 cl a0 k H
  | args => func Tryz.prog ext1 ann (k + 1) 239 args H
theorem w239_ok : ShOk Tryz.prog ext1 ann 239 w239 := by
  intro n args H
  unfold w239
  split
  · exact d239 (by kernel_rfl) n _ H
  · rfl
noncomputable def w240 : ShF := fun cl args => fun k H => match args with
  | [a0, a1] => s240 cl a0 a1 k H
  | args => func Tryz.prog ext1 ann (k + 1) 240 args H
theorem w240_ok : ShOk Tryz.prog ext1 ann 240 w240 := by
  intro n args H
  unfold w240
  split
  · exact d240 (by kernel_rfl) n _ _ H
  · rfl
noncomputable def w242 : ShF := fun cl args => fun k H => match args with
  | [a0, a1, a2] => s242 cl a0 a1 a2 k H
  | args => func Tryz.prog ext1 ann (k + 1) 242 args H
theorem w242_ok : ShOk Tryz.prog ext1 ann 242 w242 := by
  intro n args H
  unfold w242
  split
  · exact d242 (by kernel_rfl) n _ _ _ H
  · rfl
noncomputable def w243 : ShF := fun cl args => fun k H => match args with
  | [a0] => s243 cl a0 k H
  | args => func Tryz.prog ext1 ann (k + 1) 243 args H
theorem w243_ok : ShOk Tryz.prog ext1 ann 243 w243 := by
  intro n args H
  unfold w243
  split
  · exact d243 (by kernel_rfl) n _ H
  · rfl
noncomputable def w244 : ShF := fun cl args => fun k H => match args with
  | [a0, a1] => s244 cl a0 a1 k H
  | args => func Tryz.prog ext1 ann (k + 1) 244 args H
theorem w244_ok : ShOk Tryz.prog ext1 ann 244 w244 := by
  intro n args H
  unfold w244
  split
  · exact d244 (by kernel_rfl) n _ _ H
  · rfl
noncomputable def w245 : ShF := fun cl args => fun k H => match args with
  | [] => s245 cl k H
  | args => func Tryz.prog ext1 ann (k + 1) 245 args H
theorem w245_ok : ShOk Tryz.prog ext1 ann 245 w245 := by
  intro n args H
  unfold w245
  split
  · exact d245 (by kernel_rfl) n H
  · rfl
noncomputable def tab : BT := (.node (.node (.node (.node (.node (.node (.node (.node .leaf 3 w3 .leaf) 6 w6 .leaf) 8 w8 (.node .leaf 9 w9 .leaf)) 10 w10 (.node (.node (.node .leaf 11 w11 .leaf) 12 w12 .leaf) 13 w13 (.node .leaf 14 (fun _ args => mBenchFail args) .leaf))) 15 w15 (.node (.node (.node (.node .leaf 16 (fun _ args => mBenchSure args) .leaf) 17 w17 .leaf) 18 w18 (.node .leaf 19 w19 .leaf)) 20 w20 (.node (.node .leaf 21 w21 .leaf) 22 w22 (.node .leaf 23 w23 .leaf)))) 24 w24 (.node (.node (.node (.node (.node .leaf 25 w25 .leaf) 26 w26 .leaf) 27 w27 (.node .leaf 28 w28 .leaf)) 29 w29 (.node (.node .leaf 32 (fun _ args => mBenchNew args) .leaf) 33 w33 (.node .leaf 34 w34 .leaf))) 35 w35 (.node (.node (.node (.node .leaf 36 w36 .leaf) 37 w37 .leaf) 38 w38 (.node .leaf 39 w39 .leaf)) 40 w40 (.node (.node .leaf 41 w41 .leaf) 42 w42 (.node .leaf 43 w43 .leaf))))) 44 (fun _ args => mLineSet args) (.node (.node (.node (.node (.node (.node .leaf 45 w45 .leaf) 46 (fun _ args => mLineForget args) .leaf) 47 (fun _ args => mLineDirty args) (.node .leaf 48 w48 .leaf)) 51 (fun _ args => mLineGet args) (.node (.node .leaf 53 w53 .leaf) 54 w54 (.node .leaf 55 w55 .leaf))) 56 (fun _ args => mLineLearn args) (.node (.node (.node (.node .leaf 57 w57 .leaf) 58 w58 .leaf) 59 (fun _ args => mLineClean args) (.node .leaf 60 w60 .leaf)) 61 (fun _ args => mLineFirst args) (.node (.node .leaf 62 w62 .leaf) 63 w63 (.node .leaf 64 w64 .leaf)))) 65 w65 (.node (.node (.node (.node (.node .leaf 81 w81 .leaf) 83 w83 .leaf) 84 w84 (.node .leaf 85 (fun _ args => mBenchDevices args) .leaf)) 86 w86 (.node (.node .leaf 87 (fun _ args => mBenchSectors args) .leaf) 88 w88 (.node .leaf 89 w89 .leaf))) 90 w90 (.node (.node (.node (.node .leaf 91 w91 .leaf) 92 w92 .leaf) 93 w93 (.node .leaf 94 (fun _ args => mBenchWrite args) .leaf)) 95 w95 (.node (.node .leaf 96 w96 .leaf) 97 w97 (.node .leaf 98 (fun _ args => mBenchFlush args) .leaf)))))) 99 w99 (.node (.node (.node (.node (.node (.node (.node .leaf 100 w100 .leaf) 101 w101 .leaf) 102 w102 (.node .leaf 103 (fun _ args => mLineNew args) .leaf)) 105 w105 (.node (.node (.node .leaf 106 w106 .leaf) 107 w107 .leaf) 112 w112 (.node .leaf 113 w113 .leaf))) 114 w114 (.node (.node (.node (.node .leaf 115 w115 .leaf) 116 w116 .leaf) 117 w117 (.node .leaf 118 w118 .leaf)) 135 w135 (.node (.node .leaf 140 w140 .leaf) 142 w142 (.node .leaf 143 w143 .leaf)))) 144 (fun _ args => mBenchRead args) (.node (.node (.node (.node (.node .leaf 148 w148 .leaf) 150 w150 .leaf) 151 w151 (.node .leaf 152 w152 .leaf)) 153 w153 (.node (.node .leaf 154 w154 .leaf) 155 w155 (.node .leaf 156 w156 .leaf))) 157 w157 (.node (.node (.node (.node .leaf 158 w158 .leaf) 159 w159 .leaf) 160 w160 (.node .leaf 161 w161 .leaf)) 162 w162 (.node (.node .leaf 163 w163 .leaf) 164 w164 (.node .leaf 165 w165 .leaf))))) 180 w180 (.node (.node (.node (.node (.node (.node .leaf 181 w181 .leaf) 184 w184 .leaf) 185 w185 (.node .leaf 186 w186 .leaf)) 187 w187 (.node (.node .leaf 188 w188 .leaf) 189 w189 (.node .leaf 190 w190 .leaf))) 191 w191 (.node (.node (.node (.node .leaf 192 w192 .leaf) 193 w193 .leaf) 198 w198 (.node .leaf 199 w199 .leaf)) 200 w200 (.node (.node .leaf 203 w203 .leaf) 204 w204 (.node .leaf 205 w205 .leaf)))) 206 w206 (.node (.node (.node (.node (.node .leaf 211 w211 .leaf) 212 w212 .leaf) 213 w213 (.node .leaf 214 w214 .leaf)) 223 w223 (.node (.node .leaf 224 w224 .leaf) 225 w225 (.node .leaf 235 w235 .leaf))) 236 w236 (.node (.node (.node (.node .leaf 237 w237 .leaf) 238 w238 .leaf) 239 w239 (.node .leaf 240 w240 .leaf)) 242 w242 (.node (.node .leaf 243 w243 .leaf) 244 w244 (.node .leaf 245 w245 .leaf)))))))
theorem tab_ok : tab.All (ShOk Tryz.prog ext1 ann) := ⟨⟨⟨⟨⟨⟨⟨⟨trivial, w3_ok, trivial⟩, w6_ok, trivial⟩, w8_ok, ⟨trivial, w9_ok, trivial⟩⟩, w10_ok, ⟨⟨⟨trivial, w11_ok, trivial⟩, w12_ok, trivial⟩, w13_ok, ⟨trivial, (shOk_ext (by kernel_rfl)), trivial⟩⟩⟩, w15_ok, ⟨⟨⟨⟨trivial, (shOk_ext (by kernel_rfl)), trivial⟩, w17_ok, trivial⟩, w18_ok, ⟨trivial, w19_ok, trivial⟩⟩, w20_ok, ⟨⟨trivial, w21_ok, trivial⟩, w22_ok, ⟨trivial, w23_ok, trivial⟩⟩⟩⟩, w24_ok, ⟨⟨⟨⟨⟨trivial, w25_ok, trivial⟩, w26_ok, trivial⟩, w27_ok, ⟨trivial, w28_ok, trivial⟩⟩, w29_ok, ⟨⟨trivial, (shOk_ext (by kernel_rfl)), trivial⟩, w33_ok, ⟨trivial, w34_ok, trivial⟩⟩⟩, w35_ok, ⟨⟨⟨⟨trivial, w36_ok, trivial⟩, w37_ok, trivial⟩, w38_ok, ⟨trivial, w39_ok, trivial⟩⟩, w40_ok, ⟨⟨trivial, w41_ok, trivial⟩, w42_ok, ⟨trivial, w43_ok, trivial⟩⟩⟩⟩⟩, (shOk_ext (by kernel_rfl)), ⟨⟨⟨⟨⟨⟨trivial, w45_ok, trivial⟩, (shOk_ext (by kernel_rfl)), trivial⟩, (shOk_ext (by kernel_rfl)), ⟨trivial, w48_ok, trivial⟩⟩, (shOk_ext (by kernel_rfl)), ⟨⟨trivial, w53_ok, trivial⟩, w54_ok, ⟨trivial, w55_ok, trivial⟩⟩⟩, (shOk_ext (by kernel_rfl)), ⟨⟨⟨⟨trivial, w57_ok, trivial⟩, w58_ok, trivial⟩, (shOk_ext (by kernel_rfl)), ⟨trivial, w60_ok, trivial⟩⟩, (shOk_ext (by kernel_rfl)), ⟨⟨trivial, w62_ok, trivial⟩, w63_ok, ⟨trivial, w64_ok, trivial⟩⟩⟩⟩, w65_ok, ⟨⟨⟨⟨⟨trivial, w81_ok, trivial⟩, w83_ok, trivial⟩, w84_ok, ⟨trivial, (shOk_ext (by kernel_rfl)), trivial⟩⟩, w86_ok, ⟨⟨trivial, (shOk_ext (by kernel_rfl)), trivial⟩, w88_ok, ⟨trivial, w89_ok, trivial⟩⟩⟩, w90_ok, ⟨⟨⟨⟨trivial, w91_ok, trivial⟩, w92_ok, trivial⟩, w93_ok, ⟨trivial, (shOk_ext (by kernel_rfl)), trivial⟩⟩, w95_ok, ⟨⟨trivial, w96_ok, trivial⟩, w97_ok, ⟨trivial, (shOk_ext (by kernel_rfl)), trivial⟩⟩⟩⟩⟩⟩, w99_ok, ⟨⟨⟨⟨⟨⟨⟨trivial, w100_ok, trivial⟩, w101_ok, trivial⟩, w102_ok, ⟨trivial, (shOk_ext (by kernel_rfl)), trivial⟩⟩, w105_ok, ⟨⟨⟨trivial, w106_ok, trivial⟩, w107_ok, trivial⟩, w112_ok, ⟨trivial, w113_ok, trivial⟩⟩⟩, w114_ok, ⟨⟨⟨⟨trivial, w115_ok, trivial⟩, w116_ok, trivial⟩, w117_ok, ⟨trivial, w118_ok, trivial⟩⟩, w135_ok, ⟨⟨trivial, w140_ok, trivial⟩, w142_ok, ⟨trivial, w143_ok, trivial⟩⟩⟩⟩, (shOk_ext (by kernel_rfl)), ⟨⟨⟨⟨⟨trivial, w148_ok, trivial⟩, w150_ok, trivial⟩, w151_ok, ⟨trivial, w152_ok, trivial⟩⟩, w153_ok, ⟨⟨trivial, w154_ok, trivial⟩, w155_ok, ⟨trivial, w156_ok, trivial⟩⟩⟩, w157_ok, ⟨⟨⟨⟨trivial, w158_ok, trivial⟩, w159_ok, trivial⟩, w160_ok, ⟨trivial, w161_ok, trivial⟩⟩, w162_ok, ⟨⟨trivial, w163_ok, trivial⟩, w164_ok, ⟨trivial, w165_ok, trivial⟩⟩⟩⟩⟩, w180_ok, ⟨⟨⟨⟨⟨⟨trivial, w181_ok, trivial⟩, w184_ok, trivial⟩, w185_ok, ⟨trivial, w186_ok, trivial⟩⟩, w187_ok, ⟨⟨trivial, w188_ok, trivial⟩, w189_ok, ⟨trivial, w190_ok, trivial⟩⟩⟩, w191_ok, ⟨⟨⟨⟨trivial, w192_ok, trivial⟩, w193_ok, trivial⟩, w198_ok, ⟨trivial, w199_ok, trivial⟩⟩, w200_ok, ⟨⟨trivial, w203_ok, trivial⟩, w204_ok, ⟨trivial, w205_ok, trivial⟩⟩⟩⟩, w206_ok, ⟨⟨⟨⟨⟨trivial, w211_ok, trivial⟩, w212_ok, trivial⟩, w213_ok, ⟨trivial, w214_ok, trivial⟩⟩, w223_ok, ⟨⟨trivial, w224_ok, trivial⟩, w225_ok, ⟨trivial, w235_ok, trivial⟩⟩⟩, w236_ok, ⟨⟨⟨⟨trivial, w237_ok, trivial⟩, w238_ok, trivial⟩, w239_ok, ⟨trivial, w240_ok, trivial⟩⟩, w242_ok, ⟨⟨trivial, w243_ok, trivial⟩, w244_ok, ⟨trivial, w245_ok, trivial⟩⟩⟩⟩⟩⟩⟩
end Go.Am
