/-
  What the functions that the statements about references reach compute, part 1 of 6, for data of bounded size (each theorem states its bound).
-/import Derived.Test.YtcmocioniaggoaaGreatDoorWc
import Derived.Test.YtcmocioniaggoaaGreatDoorProg
import Derived.KernelRfl
import Derived.Sort.Walk0
import Derived.WalkKit
import Derived.Lib.Builder
import Derived.Lib.UnsafeStr
import Derived.Laws.Externs
import Derived.RegionTactic
import Derived.Lib.Bytealg
open Go.Proofs.Tryz
set_option linter.unusedSimpArgs false
set_option linter.unusedVariables false
namespace Go.Proofs
open Go.Vw
@[simp] theorem Tryz.ez_1 : esz prog 1 = some (1, 8) ∧ szOf prog 1 = some 1 ∧ tyk prog 1 = some (false, 1) ∧ zeroD prog 1 = some (.raw .nilFunc) := by and_intros <;> kernel_rfl
@[simp] theorem Tryz.u_2 : Program.underlying prog 2 = some (.int .i64) ∧ sliceE prog 2 = none ∧ esz prog 2 = some (1, 8) ∧ szOf prog 2 = some 1 ∧ tyk prog 2 = some (false, 1) ∧ zeroD prog 2 = some (.int .i64 0) := by and_intros <;> kernel_rfl
@[simp] theorem Tryz.u_3 : Program.underlying prog 3 = some (.int .i64) ∧ sliceE prog 3 = none ∧ esz prog 3 = some (1, 8) ∧ szOf prog 3 = some 1 ∧ tyk prog 3 = some (false, 1) ∧ zeroD prog 3 = some (.int .i64 0) := by and_intros <;> kernel_rfl
@[simp] theorem Tryz.u_4 : Program.underlying prog 4 = some .bool ∧ sliceE prog 4 = none ∧ esz prog 4 = some (1, 1) ∧ szOf prog 4 = some 1 ∧ tyk prog 4 = some (false, 1) := by and_intros <;> kernel_rfl
@[simp] theorem Tryz.zd_4 : zeroD prog 4 = some (.bool false) := by kernel_rfl
@[simp] theorem Tryz.u_5 : Program.underlying prog 5 = some (.int .u8) ∧ sliceE prog 5 = none ∧ esz prog 5 = some (1, 1) ∧ szOf prog 5 = some 1 ∧ tyk prog 5 = some (false, 1) ∧ zeroD prog 5 = some (.int .u8 0) := by and_intros <;> kernel_rfl
@[simp] theorem Tryz.u_9 : Program.underlying prog 9 = some .string ∧ sliceE prog 9 = none ∧ esz prog 9 = some (1, 16) := by and_intros <;> kernel_rfl
@[simp] theorem Tryz.sz_9 : szOf prog 9 = some 1 := by kernel_rfl
@[simp] theorem Tryz.tk_9 : tyk prog 9 = some (false, 1) ∧ zeroD prog 9 = some (.str []) := by and_intros <;> kernel_rfl
@[simp] theorem Tryz.u_12 : Program.underlying prog 12 = some (.int .u64) ∧ sliceE prog 12 = none ∧ esz prog 12 = some (1, 8) ∧ szOf prog 12 = some 1 ∧ tyk prog 12 = some (false, 1) ∧ zeroD prog 12 = some (.int .u64 0) := by and_intros <;> kernel_rfl
@[simp] theorem Tryz.ez_13 : esz prog 13 = some (2, 24) ∧ szOf prog 13 = some 2 ∧ tyk prog 13 = some (true, 2) ∧ zeroD prog 13 = some (.agg [.str [], .int .u64 0]) ∧ structD prog 13 = some [.str [], .int .u64 0] := by and_intros <;> kernel_rfl
@[simp] theorem Tryz.fo_13_0 : fieldOff prog 13 0 = some 0 := by kernel_rfl
@[simp] theorem Tryz.fo_13_1 : fieldOff prog 13 1 = some 1 := by kernel_rfl
@[simp] theorem Tryz.u_21 : Program.underlying prog 21 = some (.int .i32) ∧ sliceE prog 21 = none ∧ esz prog 21 = some (1, 4) ∧ szOf prog 21 = some 1 ∧ tyk prog 21 = some (false, 1) ∧ zeroD prog 21 = some (.int .i32 0) := by and_intros <;> kernel_rfl
@[simp] theorem Tryz.u_22 : Program.underlying prog 22 = some (.slice 81) ∧ sliceE prog 22 = some 81 ∧ esz prog 22 = some (1, 24) ∧ szOf prog 22 = some 1 ∧ tyk prog 22 = some (false, 1) ∧ zeroD prog 22 = some (.sl []) := by and_intros <;> kernel_rfl
@[simp] theorem Tryz.u_23 : Program.underlying prog 23 = some (.slice 159) ∧ sliceE prog 23 = some 159 ∧ esz prog 23 = some (1, 24) ∧ szOf prog 23 = some 1 ∧ tyk prog 23 = some (false, 1) ∧ zeroD prog 23 = some (.sl []) := by and_intros <;> kernel_rfl
@[simp] theorem Tryz.ez_25 : esz prog 25 = some (2, 48) ∧ szOf prog 25 = some 2 ∧ tyk prog 25 = some (true, 2) ∧ zeroD prog 25 = some (.agg [.sl [], .sl []]) ∧ structD prog 25 = some [.sl [], .sl []] := by and_intros <;> kernel_rfl
@[simp] theorem Tryz.fo_25_0 : fieldOff prog 25 0 = some 0 := by kernel_rfl
@[simp] theorem Tryz.fo_25_1 : fieldOff prog 25 1 = some 1 := by kernel_rfl
@[simp] theorem Tryz.u_26 : Program.underlying prog 26 = some (.slice 89) ∧ sliceE prog 26 = some 89 ∧ esz prog 26 = some (1, 24) ∧ szOf prog 26 = some 1 ∧ tyk prog 26 = some (false, 1) := by and_intros <;> kernel_rfl
@[simp] theorem Tryz.zd_26 : zeroD prog 26 = some (.sl []) := by kernel_rfl
@[simp] theorem Tryz.ez_28 : esz prog 28 = some (2, 40) ∧ szOf prog 28 = some 2 ∧ tyk prog 28 = some (true, 2) ∧ zeroD prog 28 = some (.agg [.str [], .sl []]) ∧ structD prog 28 = some [.str [], .sl []] := by and_intros <;> kernel_rfl
@[simp] theorem Tryz.fo_28_0 : fieldOff prog 28 0 = some 0 := by kernel_rfl
@[simp] theorem Tryz.fo_28_1 : fieldOff prog 28 1 = some 1 := by kernel_rfl
@[simp] theorem Tryz.u_30 : Program.underlying prog 30 = some (.slice 28) ∧ sliceE prog 30 = some 28 ∧ esz prog 30 = some (1, 24) ∧ szOf prog 30 = some 1 ∧ tyk prog 30 = some (false, 1) ∧ zeroD prog 30 = some (.sl []) := by and_intros <;> kernel_rfl
@[simp] theorem Tryz.ez_32 : esz prog 32 = some (1, 8) ∧ szOf prog 32 = some 1 ∧ tyk prog 32 = some (false, 1) ∧ zeroD prog 32 = some (.raw .nilFunc) := by and_intros <;> kernel_rfl
@[simp] theorem Tryz.u_33 : Program.underlying prog 33 = some (.slice 9) ∧ sliceE prog 33 = some 9 ∧ esz prog 33 = some (1, 24) ∧ szOf prog 33 = some 1 ∧ tyk prog 33 = some (false, 1) ∧ zeroD prog 33 = some (.sl []) := by and_intros <;> kernel_rfl
@[simp] theorem Tryz.u_36 : Program.underlying prog 36 = some (.slice 86) ∧ sliceE prog 36 = some 86 ∧ esz prog 36 = some (1, 24) ∧ szOf prog 36 = some 1 ∧ tyk prog 36 = some (false, 1) ∧ zeroD prog 36 = some (.sl []) := by and_intros <;> kernel_rfl
@[simp] theorem Tryz.u_40 : Program.underlying prog 40 = some (.pointer 125) ∧ esz prog 40 = some (1, 8) ∧ szOf prog 40 = some 1 ∧ tyk prog 40 = some (false, 1) ∧ zeroD prog 40 = some (.nilp) := by and_intros <;> kernel_rfl
@[simp] theorem Tryz.u_41 : Program.underlying prog 41 = some (.pointer 140) ∧ esz prog 41 = some (1, 8) ∧ szOf prog 41 = some 1 ∧ tyk prog 41 = some (false, 1) ∧ zeroD prog 41 = some (.nilp) := by and_intros <;> kernel_rfl
@[simp] theorem Tryz.ez_43 : esz prog 43 = some (1, 8) ∧ szOf prog 43 = some 1 ∧ tyk prog 43 = some (false, 1) ∧ zeroD prog 43 = some (.raw .nilFunc) := by and_intros <;> kernel_rfl
@[simp] theorem Tryz.ez_44 : esz prog 44 = some (1, 8) ∧ szOf prog 44 = some 1 ∧ tyk prog 44 = some (false, 1) ∧ zeroD prog 44 = some (.raw .nilFunc) := by and_intros <;> kernel_rfl
@[simp] theorem Tryz.u_45 : Program.underlying prog 45 = some (.slice 75) ∧ sliceE prog 45 = some 75 ∧ esz prog 45 = some (1, 24) ∧ szOf prog 45 = some 1 ∧ tyk prog 45 = some (false, 1) ∧ zeroD prog 45 = some (.sl []) := by and_intros <;> kernel_rfl
@[simp] theorem Tryz.ez_48 : esz prog 48 = some (1, 8) ∧ szOf prog 48 = some 1 ∧ tyk prog 48 = some (false, 1) ∧ zeroD prog 48 = some (.raw .nilFunc) := by and_intros <;> kernel_rfl
@[simp] theorem Tryz.ez_50 : esz prog 50 = some (1, 8) ∧ szOf prog 50 = some 1 ∧ tyk prog 50 = some (false, 1) ∧ zeroD prog 50 = some (.raw .nilFunc) := by and_intros <;> kernel_rfl
@[simp] theorem Tryz.u_51 : Program.underlying prog 51 = some (.int .i64) ∧ sliceE prog 51 = none ∧ esz prog 51 = some (1, 8) ∧ szOf prog 51 = some 1 ∧ tyk prog 51 = some (false, 1) ∧ zeroD prog 51 = some (.int .i64 0) := by and_intros <;> kernel_rfl
@[simp] theorem Tryz.ez_57 : esz prog 57 = some (1, 8) ∧ szOf prog 57 = some 1 ∧ tyk prog 57 = some (false, 1) ∧ zeroD prog 57 = some (.raw .nilFunc) := by and_intros <;> kernel_rfl
@[simp] theorem Tryz.ez_61 : esz prog 61 = some (1, 8) ∧ szOf prog 61 = some 1 ∧ tyk prog 61 = some (false, 1) ∧ zeroD prog 61 = some (.raw .nilFunc) := by and_intros <;> kernel_rfl
@[simp] theorem Tryz.ez_64 : esz prog 64 = some (1, 8) ∧ szOf prog 64 = some 1 ∧ tyk prog 64 = some (false, 1) ∧ zeroD prog 64 = some (.raw .nilFunc) := by and_intros <;> kernel_rfl
@[simp] theorem Tryz.ez_75 : esz prog 75 = some (2, 32) ∧ szOf prog 75 = some 2 ∧ tyk prog 75 = some (true, 2) ∧ zeroD prog 75 = some (.agg [.str [], .str []]) ∧ structD prog 75 = some [.str [], .str []] := by and_intros <;> kernel_rfl
@[simp] theorem Tryz.fo_75_0 : fieldOff prog 75 0 = some 0 := by kernel_rfl
@[simp] theorem Tryz.fo_75_1 : fieldOff prog 75 1 = some 1 := by kernel_rfl
@[simp] theorem Tryz.u_79 : Program.underlying prog 79 = some (.int .i64) ∧ sliceE prog 79 = none ∧ esz prog 79 = some (1, 8) ∧ szOf prog 79 = some 1 ∧ tyk prog 79 = some (false, 1) ∧ zeroD prog 79 = some (.int .i64 0) := by and_intros <;> kernel_rfl
@[simp] theorem Tryz.ez_81 : esz prog 81 = some (3, 32) ∧ szOf prog 81 = some 3 ∧ tyk prog 81 = some (true, 3) := by and_intros <;> kernel_rfl
@[simp] theorem Tryz.zd_81 : zeroD prog 81 = some (.agg [.str [], .int .i64 0, .bool false]) := by kernel_rfl
@[simp] theorem Tryz.sd_81 : structD prog 81 = some [.str [], .int .i64 0, .bool false] := by kernel_rfl
@[simp] theorem Tryz.fo_81_0 : fieldOff prog 81 0 = some 0 := by kernel_rfl
@[simp] theorem Tryz.fo_81_1 : fieldOff prog 81 1 = some 1 := by kernel_rfl
@[simp] theorem Tryz.fo_81_2 : fieldOff prog 81 2 = some 2 := by kernel_rfl
@[simp] theorem Tryz.u_84 : Program.underlying prog 84 = some (.int .i64) ∧ sliceE prog 84 = none ∧ esz prog 84 = some (1, 8) ∧ szOf prog 84 = some 1 ∧ tyk prog 84 = some (false, 1) ∧ zeroD prog 84 = some (.int .i64 0) := by and_intros <;> kernel_rfl
@[simp] theorem Tryz.ez_86 : esz prog 86 = some (3, 48) ∧ szOf prog 86 = some 3 ∧ tyk prog 86 = some (true, 3) ∧ zeroD prog 86 = some (.agg [.int .i64 0, .str [], .sl []]) ∧ structD prog 86 = some [.int .i64 0, .str [], .sl []] := by and_intros <;> kernel_rfl
@[simp] theorem Tryz.fo_86_0 : fieldOff prog 86 0 = some 0 := by kernel_rfl
@[simp] theorem Tryz.fo_86_1 : fieldOff prog 86 1 = some 1 := by kernel_rfl
@[simp] theorem Tryz.fo_86_2 : fieldOff prog 86 2 = some 2 := by kernel_rfl
@[simp] theorem Tryz.ez_89 : esz prog 89 = some (2, 40) := by kernel_rfl
@[simp] theorem Tryz.sz_89 : szOf prog 89 = some 2 := by kernel_rfl
@[simp] theorem Tryz.tk_89 : tyk prog 89 = some (true, 2) ∧ zeroD prog 89 = some (.agg [.str [], .sl []]) ∧ structD prog 89 = some [.str [], .sl []] := by and_intros <;> kernel_rfl
@[simp] theorem Tryz.fo_89_0 : fieldOff prog 89 0 = some 0 := by kernel_rfl
@[simp] theorem Tryz.fo_89_1 : fieldOff prog 89 1 = some 1 := by kernel_rfl
@[simp] theorem Tryz.ez_90 : esz prog 90 = some (1, 8) ∧ szOf prog 90 = some 1 ∧ tyk prog 90 = some (false, 1) ∧ zeroD prog 90 = some (.raw .nilFunc) := by and_intros <;> kernel_rfl
@[simp] theorem Tryz.ez_92 : esz prog 92 = some (1, 8) ∧ szOf prog 92 = some 1 ∧ tyk prog 92 = some (false, 1) ∧ zeroD prog 92 = some (.raw .nilFunc) := by and_intros <;> kernel_rfl
@[simp] theorem Tryz.ez_97 : esz prog 97 = some (1, 8) ∧ szOf prog 97 = some 1 ∧ tyk prog 97 = some (false, 1) ∧ zeroD prog 97 = some (.raw .nilFunc) := by and_intros <;> kernel_rfl
@[simp] theorem Tryz.u_103 : Program.underlying prog 103 = some (.pointer 106) ∧ esz prog 103 = some (1, 8) ∧ szOf prog 103 = some 1 ∧ tyk prog 103 = some (false, 1) ∧ zeroD prog 103 = some (.nilp) := by and_intros <;> kernel_rfl
@[simp] theorem Tryz.ez_104 : esz prog 104 = some (1, 8) ∧ szOf prog 104 = some 1 ∧ tyk prog 104 = some (false, 1) ∧ zeroD prog 104 = some (.raw (.map none)) := by and_intros <;> kernel_rfl
@[simp] theorem Tryz.ez_106 : esz prog 106 = some (3, 40) ∧ szOf prog 106 = some 3 ∧ tyk prog 106 = some (true, 3) ∧ zeroD prog 106 = some (.agg [.nilp, .raw (.map none), .sl []]) ∧ structD prog 106 = some [.nilp, .raw (.map none), .sl []] := by and_intros <;> kernel_rfl
@[simp] theorem Tryz.fo_106_0 : fieldOff prog 106 0 = some 0 := by kernel_rfl
@[simp] theorem Tryz.fo_106_1 : fieldOff prog 106 1 = some 1 := by kernel_rfl
@[simp] theorem Tryz.fo_106_2 : fieldOff prog 106 2 = some 2 := by kernel_rfl
@[simp] theorem Tryz.ez_107 : esz prog 107 = some (1, 8) ∧ szOf prog 107 = some 1 ∧ tyk prog 107 = some (false, 1) ∧ zeroD prog 107 = some (.raw .nilFunc) := by and_intros <;> kernel_rfl
@[simp] theorem Tryz.ez_109 : esz prog 109 = some (1, 8) ∧ szOf prog 109 = some 1 ∧ tyk prog 109 = some (false, 1) ∧ zeroD prog 109 = some (.raw .nilFunc) := by and_intros <;> kernel_rfl
@[simp] theorem Tryz.u_122 : Program.underlying prog 122 = some (.array 8 51) ∧ esz prog 122 = some (8, 64) ∧ szOf prog 122 = some 8 ∧ tyk prog 122 = some (true, 8) ∧ zeroD prog 122 = some (.agg [.int .i64 0, .int .i64 0, .int .i64 0, .int .i64 0, .int .i64 0, .int .i64 0, .int .i64 0, .int .i64 0]) := by and_intros <;> kernel_rfl
@[simp] theorem Tryz.ez_123 : esz prog 123 = some (1, 8) ∧ szOf prog 123 = some 1 ∧ tyk prog 123 = some (false, 1) ∧ zeroD prog 123 = some (.raw (.map none)) := by and_intros <;> kernel_rfl
@[simp] theorem Tryz.ez_125 : esz prog 125 = some (1, 8) ∧ szOf prog 125 = some 1 ∧ tyk prog 125 = some (true, 1) ∧ zeroD prog 125 = some (.agg [.raw (.map none)]) ∧ structD prog 125 = some [.raw (.map none)] := by and_intros <;> kernel_rfl
@[simp] theorem Tryz.fo_125_0 : fieldOff prog 125 0 = some 0 := by kernel_rfl
@[simp] theorem Tryz.ez_128 : esz prog 128 = some (1, 8) ∧ szOf prog 128 = some 1 ∧ tyk prog 128 = some (false, 1) ∧ zeroD prog 128 = some (.raw .nilFunc) := by and_intros <;> kernel_rfl
@[simp] theorem Tryz.ez_129 : esz prog 129 = some (1, 8) ∧ szOf prog 129 = some 1 ∧ tyk prog 129 = some (false, 1) ∧ zeroD prog 129 = some (.raw .nilFunc) := by and_intros <;> kernel_rfl
@[simp] theorem Tryz.ez_132 : esz prog 132 = some (1, 8) ∧ szOf prog 132 = some 1 ∧ tyk prog 132 = some (false, 1) ∧ zeroD prog 132 = some (.raw .nilFunc) := by and_intros <;> kernel_rfl
@[simp] theorem Tryz.u_137 : Program.underlying prog 137 = some (.int .u64) ∧ sliceE prog 137 = none ∧ esz prog 137 = some (1, 8) ∧ szOf prog 137 = some 1 ∧ tyk prog 137 = some (false, 1) ∧ zeroD prog 137 = some (.int .u64 0) := by and_intros <;> kernel_rfl
@[simp] theorem Tryz.ez_140 : esz prog 140 = some (3, 56) ∧ szOf prog 140 = some 3 ∧ tyk prog 140 = some (true, 3) ∧ zeroD prog 140 = some (.agg [.bool false, .sl [], .sl []]) ∧ structD prog 140 = some [.bool false, .sl [], .sl []] := by and_intros <;> kernel_rfl
@[simp] theorem Tryz.fo_140_0 : fieldOff prog 140 0 = some 0 := by kernel_rfl
@[simp] theorem Tryz.fo_140_1 : fieldOff prog 140 1 = some 1 := by kernel_rfl
@[simp] theorem Tryz.fo_140_2 : fieldOff prog 140 2 = some 2 := by kernel_rfl
@[simp] theorem Tryz.ez_147 : esz prog 147 = some (1, 8) ∧ szOf prog 147 = some 1 ∧ tyk prog 147 = some (false, 1) ∧ zeroD prog 147 = some (.raw .nilFunc) := by and_intros <;> kernel_rfl
@[simp] theorem Tryz.u_150 : Program.underlying prog 150 = some (.slice 5) ∧ sliceE prog 150 = some 5 ∧ esz prog 150 = some (1, 24) ∧ szOf prog 150 = some 1 ∧ tyk prog 150 = some (false, 1) ∧ zeroD prog 150 = some (.sl []) := by and_intros <;> kernel_rfl
@[simp] theorem Tryz.ez_154 : esz prog 154 = some (1, 8) ∧ szOf prog 154 = some 1 ∧ tyk prog 154 = some (false, 1) ∧ zeroD prog 154 = some (.raw .nilFunc) := by and_intros <;> kernel_rfl
@[simp] theorem Tryz.ez_159 : esz prog 159 = some (4, 80) ∧ szOf prog 159 = some 4 ∧ tyk prog 159 = some (true, 4) := by and_intros <;> kernel_rfl
@[simp] theorem Tryz.zd_159 : zeroD prog 159 = some (.agg [.str [], .str [], .sl [], .sl []]) := by kernel_rfl
@[simp] theorem Tryz.sd_159 : structD prog 159 = some [.str [], .str [], .sl [], .sl []] := by kernel_rfl
@[simp] theorem Tryz.fo_159_0 : fieldOff prog 159 0 = some 0 := by kernel_rfl
@[simp] theorem Tryz.fo_159_1 : fieldOff prog 159 1 = some 1 := by kernel_rfl
@[simp] theorem Tryz.fo_159_2 : fieldOff prog 159 2 = some 2 := by kernel_rfl
@[simp] theorem Tryz.fo_159_3 : fieldOff prog 159 3 = some 3 := by kernel_rfl
@[simp] theorem Tryz.ez_162 : esz prog 162 = some (1, 8) ∧ szOf prog 162 = some 1 ∧ tyk prog 162 = some (false, 1) ∧ zeroD prog 162 = some (.raw (.map none)) := by and_intros <;> kernel_rfl
@[simp] theorem Tryz.ez_163 : esz prog 163 = some (1, 8) ∧ szOf prog 163 = some 1 ∧ tyk prog 163 = some (false, 1) ∧ zeroD prog 163 = some (.raw (.map none)) := by and_intros <;> kernel_rfl
@[simp] theorem Tryz.ez_165 : esz prog 165 = some (2, 16) ∧ szOf prog 165 = some 2 ∧ tyk prog 165 = some (true, 2) ∧ zeroD prog 165 = some (.agg [.raw (.map none), .raw (.map none)]) ∧ structD prog 165 = some [.raw (.map none), .raw (.map none)] := by and_intros <;> kernel_rfl
@[simp] theorem Tryz.fo_165_0 : fieldOff prog 165 0 = some 0 := by kernel_rfl
@[simp] theorem Tryz.fo_165_1 : fieldOff prog 165 1 = some 1 := by kernel_rfl
@[simp] theorem Tryz.u_176 : Program.underlying prog 176 = some (.int .u32) ∧ sliceE prog 176 = none ∧ esz prog 176 = some (1, 4) ∧ szOf prog 176 = some 1 ∧ tyk prog 176 = some (false, 1) ∧ zeroD prog 176 = some (.int .u32 0) := by and_intros <;> kernel_rfl
@[simp] theorem Tryz.u_178 : Program.underlying prog 178 = some (.int .u64) ∧ sliceE prog 178 = none ∧ esz prog 178 = some (1, 8) ∧ szOf prog 178 = some 1 ∧ tyk prog 178 = some (false, 1) ∧ zeroD prog 178 = some (.int .u64 0) := by and_intros <;> kernel_rfl
@[simp] theorem Tryz.u_181 : Program.underlying prog 181 = some (.pointer 183) ∧ esz prog 181 = some (1, 8) ∧ szOf prog 181 = some 1 ∧ tyk prog 181 = some (false, 1) ∧ zeroD prog 181 = some (.nilp) := by and_intros <;> kernel_rfl
@[simp] theorem Tryz.ez_183 : esz prog 183 = some (2, 32) ∧ szOf prog 183 = some 2 ∧ tyk prog 183 = some (true, 2) ∧ zeroD prog 183 = some (.agg [.nilp, .sl []]) ∧ structD prog 183 = some [.nilp, .sl []] := by and_intros <;> kernel_rfl
@[simp] theorem Tryz.fo_183_0 : fieldOff prog 183 0 = some 0 := by kernel_rfl
@[simp] theorem Tryz.fo_183_1 : fieldOff prog 183 1 = some 1 := by kernel_rfl
@[simp] theorem Tryz.u_198 : Program.underlying prog 198 = some (.slice 3) ∧ sliceE prog 198 = some 3 ∧ esz prog 198 = some (1, 24) ∧ szOf prog 198 = some 1 ∧ tyk prog 198 = some (false, 1) ∧ zeroD prog 198 = some (.sl []) := by and_intros <;> kernel_rfl
@[simp] theorem Tryz.u_212 : Program.underlying prog 212 = some (.pointer 3) ∧ esz prog 212 = some (1, 8) ∧ szOf prog 212 = some 1 ∧ tyk prog 212 = some (false, 1) ∧ zeroD prog 212 = some (.nilp) := by and_intros <;> kernel_rfl
@[simp] theorem Tryz.u_214 : Program.underlying prog 214 = some (.pointer 5) ∧ esz prog 214 = some (1, 8) ∧ szOf prog 214 = some 1 ∧ tyk prog 214 = some (false, 1) ∧ zeroD prog 214 = some (.nilp) := by and_intros <;> kernel_rfl
@[simp] theorem Tryz.eqs_75 : eqsOk prog 75 = true := by kernel_rfl
@[simp] theorem Tryz.lf_75 (a0 b0 : Str) (a1 b1 : Str) : leafOk prog (Program.fieldsOf prog 75).toList 0 [.str a0, .str a1] [.str b0, .str b1] = true := by kernel_rfl
@[simp] theorem Tryz.eqs_81 : eqsOk prog 81 = true := by kernel_rfl
@[simp] theorem Tryz.lf_81 (a0 b0 : Str) (a1 b1 : Int) (a2 b2 : Bool) : leafOk prog (Program.fieldsOf prog 81).toList 0 [.str a0, .int .i64 a1, .bool a2] [.str b0, .int .i64 b1, .bool b2] = true := by kernel_rfl
end Go.Proofs
namespace Go.Proofs.Tz
open Go.Vw
theorem nbl {a b : Nat} (h : Nat.ble a b = true) : a ≤ b := Nat.le_of_ble_eq_true h
theorem ttl {α : Type} {i : Nat} {l : List α} (h : l.length ≤ i) : l.take i = l := List.take_of_length_le h
theorem ai {a b : Prop} (h : a) (k : b) : a ∧ b := ⟨h, k⟩
theorem gmm {α : Type} {l : List α} {n : Nat} (h : n < l.length) : l[n] ∈ l := List.getElem_mem h
theorem fv {f : FuncId} {fn : Func} {c : Code} {args : List AV} {t : Nat} {r : AV} (F : Nat → Bool) (hf : prog.funcs[f]? = some fn) (hk : (!(fn.name == "runtime.NumGoroutine") && okDst F fn.ntmps c) = true) (hb : fn.body = some c) (hres : fn.results = #[.tmp t]) (ha : Nat.ble args.length fn.ntmps = true) (harg : (args.all isArg) = true) (hone : oneOwn args = true) (h : vwp prog F c (EndV t r) (initS args)) : Ctr prog f args r :=
  fn_of_vwp F (by kernel_rfl) hf (by simpa using (Bool.and_eq_true_iff.1 hk).1) hb hres (Nat.le_of_ble_eq_true ha) (Bool.and_eq_true_iff.1 hk).2 harg hone h
set_option maxRecDepth 100000
set_option maxHeartbeats 4000000
def Again (N k : Nat) (I : Nat → St → Prop) (τ : St) : Prop := ∃ m', m' < N - k ∧ ∃ k', k' ≤ N ∧ m' = N - k' ∧ I k' τ
theorem again {N k : Nat} {I : Nat → St → Prop} {τ : St} (hk : k < N) (h : I (k + 1) τ) : Again N k I τ := ⟨N - (k + 1), by omega, k + 1, hk, rfl, h⟩
theorem loopN {body : (Exit → St → Prop) → St → Prop} {Q : Exit → St → Prop} {σ : St} (N : Nat) (I : Nat → St → Prop) (h0 : I 0 σ)
    (hr : ∀ k τ, k ≤ N → I k τ → body (thenV (Again N k I) Q) τ) : LoopK body Q σ :=
  ⟨fun m τ => ∃ k, k ≤ N ∧ m = N - k ∧ I k τ, N, ⟨0, Nat.zero_le _, rfl, h0⟩, by
    rintro m τ ⟨k, hk, rfl, hI⟩; exact hr k τ hk hI⟩
theorem take_s {α : Type} {l : List α} {k : Nat} (h : k < l.length) : l.take (k + 1) = l.take k ++ [l[k]] := by
  rw [List.take_succ_eq_append_getElem h]
def strs (l : List Str) : D := .sl (l.map .str)
def u8 (c : UInt8) : D := .int .u8 c.toNat
def isLetter (c : UInt8) : Bool := decide (97 ≤ (c.toNat : Int)) && decide ((c.toNat : Int) ≤ 122) || decide (65 ≤ (c.toNat : Int)) && decide ((c.toNat : Int) ≤ 90)
def isDigit (c : UInt8) : Bool := decide (48 ≤ (c.toNat : Int)) && decide ((c.toNat : Int) ≤ 57)
theorem letter_fn (c : UInt8) : Ctr prog 137 [.d (u8 c)] (.d (.bool (isLetter c))) := by
  refine fv (fun _ => false) func137 (by kernel_rfl) rfl rfl rfl rfl rfl ?_; by_cases h1 : 97 ≤ (c.toNat : Int) <;> by_cases h2 : (c.toNat : Int) ≤ 122 <;> by_cases h3 : 65 ≤ (c.toNat : Int) <;> simp -implicitDefEqProofs [u8, isLetter, h1, h2, h3]
theorem digit_fn (c : UInt8) : Ctr prog 138 [.d (u8 c)] (.d (.bool (isDigit c))) := by
  refine fv (fun _ => false) func138 (by kernel_rfl) rfl rfl rfl rfl rfl ?_; by_cases h1 : 48 ≤ (c.toNat : Int) <;> simp [u8, isDigit, h1]
def lowc (c : UInt8) : UInt8 := if 65 ≤ (c.toNat : Int) ∧ (c.toNat : Int) ≤ 90 then c + 32 else c
def lower (s : Str) : Str := s.map lowc
theorem lowc_toNat (c : UInt8) (h1 : 65 ≤ (c.toNat : Int)) (h2 : (c.toNat : Int) ≤ 90) : ((lowc c).toNat : Int) = c.toNat + 97 - 65 := by
  rw [lowc, if_pos ⟨h1, h2⟩, UInt8.toNat_add]; have : (32 : UInt8).toNat = 32 := rfl; omega
theorem bytes_u8 (s : Str) : s.map u8 = bytesD s := rfl
theorem lower_len (s : Str) : (lower s).length = s.length := by simp [lower]
theorem lower_take {s : Str} {k : Nat} (h : k < List.length s) : (lower (s.take (k + 1))).map u8 = (lower (s.take k)).map u8 ++ [u8 (lowc s[k])] := by
  rw [take_s h]; simp only [lower, List.map_append, List.map_cons, List.map_nil]
theorem lower_fn (s : Str) (hs : List.length s < 1000000) : Ctr prog 79 [.d (.str s)] (.d (.str (lower s))) := by
  refine fv (fun i => decide (i < 1000000)) func79 (by kernel_rfl) rfl rfl rfl rfl rfl ?_; simp -implicitDefEqProofs; refine loopN (List.length s) (fun k τ => τ 0 = .d (.str s) ∧ τ 4 = .d (.int .i64 k) ∧ τ 3 = .own true 5 ((lower (s.take k)).map u8)) (by simp [lower]) ?_; rintro k τ hk ⟨h0, h4, h3⟩; by_cases hlt : k < List.length s
  · by_cases h1 : 65 ≤ (s[k].toNat : Int)
    · by_cases h2 : (s[k].toNat : Int) ≤ 90
      · simp -implicitDefEqProofs [h0, h3, h4, hlt, h1, h2, lower_len]; refine ⟨by omega, by omega, by omega, by omega, again hlt ⟨by simp [h0], by simp, ?_⟩⟩; simp -implicitDefEqProofs [lower_take hlt, u8, lowc_toNat _ h1 h2]
      · simp -implicitDefEqProofs [h0, h3, h4, hlt, h1, h2, lower_len]; refine ⟨by omega, by omega, again hlt ⟨by simp [h0], by simp, ?_⟩⟩; simp -implicitDefEqProofs [lower_take hlt, u8, lowc, h2]
    · simp -implicitDefEqProofs [h0, h3, h4, hlt, h1, lower_len]; refine ⟨by omega, by omega, again hlt ⟨by simp [h0], by simp, ?_⟩⟩; simp -implicitDefEqProofs [lower_take hlt, u8, lowc, h1]
  · simp -implicitDefEqProofs [h0, h3, h4, hlt, bytes_u8]; rw [ttl (by omega)]
def nameC (c : UInt8) : Bool := isLetter c || isDigit c || decide ((c.toNat : Int) = 45)
def nameB (s : Str) : Bool := decide (1 ≤ s.length) && decide (s.length ≤ 64) && (s.head?.any isLetter) && s.all nameC
def cleanC (c : UInt8) : Bool := decide (32 ≤ (c.toNat : Int)) && decide ((c.toNat : Int) ≤ 126)
def cleanB (s : Str) : Bool := decide (1 ≤ s.length) && decide (s.length ≤ 256) && s.head? != some 32 && s.getLast? != some 32 && s.all cleanC
theorem all_take {s : Str} {p : UInt8 → Bool} {k : Nat} (h : k < List.length s) (ha : ∀ x ∈ s.take k, p x = true) (hp : p s[k] = true) : ∀ x ∈ s.take (k + 1), p x = true := by
  rw [take_s h]; intro x hx; rcases List.mem_append.1 hx with hx | hx
  · exact ha x hx
  · rw [List.mem_singleton.1 hx]; exact hp
theorem all_not {s : Str} {p : UInt8 → Bool} {k : Nat} (h : k < List.length s) (hp : p s[k] = false) : s.all p = false := by
  rw [List.all_eq_false]; exact ⟨_, gmm h, by simp [hp]⟩
theorem name_fn (s : Str) : Ctr prog 86 [.d (.str s)] (.d (.bool (nameB s))) := by
  refine fv (fun _ => false) func86 (by kernel_rfl) rfl rfl rfl rfl rfl ?_; by_cases hs : s = []
  · simp -implicitDefEqProofs [nameB, hs]
  obtain ⟨c, t, hct⟩ : ∃ c t, s = c :: t := List.exists_cons_of_ne_nil hs; have hpos : 0 < List.length s := by rw [hct]; simp
  have h1 : ¬ ((List.length s : Int) < 1) := (by omega); have hc0 : s[0] = c := (by simp [hct]); have hh : s.head? = some c := (by simp [hct]); by_cases h2 : 64 < (List.length s : Int)
  · have : ¬ List.length s ≤ 64 := (by omega); simp -implicitDefEqProofs [nameB, h1, h2, this]
  have h2' : List.length s ≤ 64 := (by omega); have h1' : 1 ≤ List.length s := hpos; simp -implicitDefEqProofs [h1, h2, hpos, hc0]; refine callK (letter_fn c) ?_; by_cases hc : isLetter c = true
  · simp -implicitDefEqProofs [hc]; refine loopN (List.length s) (fun k τ => τ 0 = .d (.str s) ∧ τ 3 = .d (.int .i64 k) ∧ ∀ x ∈ s.take k, nameC x = true) (by simp) ?_; rintro k τ hk ⟨h0, h3, ha⟩; by_cases hlt : k < List.length s
    · simp -implicitDefEqProofs [h0, h3, hlt]; refine callK (letter_fn s[k]) ?_; by_cases e1 : isLetter s[k] = true
      · simp -implicitDefEqProofs [e1, h0, h3, hlt]; refine ⟨by omega, again hlt ⟨by simp [h0], by simp, ?_⟩⟩; exact all_take hlt ha (by simp [nameC, e1])
      · simp -implicitDefEqProofs [e1, h0, h3, hlt]; refine callK (digit_fn s[k]) ?_; by_cases e2 : isDigit s[k] = true
        · simp -implicitDefEqProofs [e2, h0, h3, hlt]; refine ⟨by omega, again hlt ⟨by simp [h0], by simp, ?_⟩⟩; exact all_take hlt ha (by simp [nameC, e2])
        · by_cases e3 : (s[k].toNat : Int) = 45
          · simp -implicitDefEqProofs [e2, e3, h0, h3, hlt]; refine ⟨by omega, again hlt ⟨by simp [h0], by simp, ?_⟩⟩; exact all_take hlt ha (by simp [nameC, e3])
          · simp -implicitDefEqProofs [e2, e3, h0, h3, hlt]; simp -implicitDefEqProofs [nameB, all_not hlt (show nameC s[k] = false by simp [nameC, e1, e2, e3])]
    · simp -implicitDefEqProofs [h0, h3, hlt]; rw [ttl (by omega)] at ha; simp -implicitDefEqProofs [nameB, h1', h2', hh, hc]; exact ha
  · simp -implicitDefEqProofs [hc, nameB, hh]
end Go.Proofs.Tz
namespace Go.Proofs.Tz
open Go.Vw Go.Lib
theorem bl (x y : Str) : Op.bytesLess x y = decide (x < y) := bytesLess_eq x y
theorem bl_t {x y : Str} : Op.bytesLess x y = true ↔ x < y := by rw [bl]; simp
theorem bl_f {x y : Str} : Op.bytesLess x y = false ↔ ¬ x < y := by rw [bl]; simp
theorem s_irr (x : Str) : ¬ x < x := List.lt_irrefl x
theorem s_trans {x y z : Str} (h1 : x < y) (h2 : y < z) : x < z := List.lt_trans h1 h2
theorem s_tri {x y : Str} (h1 : ¬ x < y) (h2 : ¬ y < x) : x = y := List.le_antisymm (List.not_lt.1 h2) (List.not_lt.1 h1)
end Go.Proofs.Tz
namespace Go.Proofs.Tz
open Go.Vw Go.RowKit Go.Proofs
theorem bld_size : (prog.info? 183).map (·.size) = some 2 := by kernel_rfl
theorem bld_lies : liesAt prog prog.depth 183 (2 / prog.cellsOf 183) 0 183 1 = true := by kernel_rfl
set_option maxRecDepth 100000 in
set_option maxHeartbeats 1000000 in
theorem cc_used (b : Nat) (w : World) (h0 : w.cell? ⟨b, 0, none⟩ = some (.pointer (some ⟨b, 0, none⟩))) :
    Calls prog 198 #[.pointer (some ⟨b, 0, none⟩)] w fun e w' => e = .returned (.tuple #[]) ∧ w' = w := by
  obtain ⟨j, hj, _⟩ := Option.map_eq_some_iff.1 bld_size
  go_enter func198, Tryz.ntmps198
  go_wp2
  rw [Lib.run_neq_ptr_same w _ Tryz.underlying181 hj]
  go_wp2
  go_end0
  exact ⟨rfl, rfl⟩
set_option maxRecDepth 100000 in
set_option maxHeartbeats 1000000 in
theorem cc_fresh (b : Nat) (w : World) (h0 : w.cell? ⟨b, 0, none⟩ = some (.pointer none)) (hsh : w.shape? b = some (183, 2)) (hfz : w.frozen? ⟨b, 0, none⟩ = false) :
    Calls prog 198 #[.pointer (some ⟨b, 0, none⟩)] w fun e w' => e = .returned (.tuple #[]) ∧ w' = w.setCell ⟨b, 0, none⟩ (.pointer (some ⟨b, 0, none⟩)) := by
  obtain ⟨j, hj, hjs⟩ := Option.map_eq_some_iff.1 bld_size
  go_enter func198, Tryz.ntmps198
  go_wp2
  rw [Lib.run_to_unsafe w ⟨b, 0, none⟩ Tryz.underlying181 Tryz.underlying231 hj (by rw [hjs]; decide) hsh (Nat.zero_lt_succ 1)]; simp only [Result.andThen]; rw [Oper.upon_value]
  go_wp2
  rw [run_callFunc_extern func219 (by kernel_rfl) (by kernel_rfl) (by kernel_rfl) (e := Extern.AbiNoEscape.same) (by kernel_rfl)]; rw [Lib.run_noEscape]; simp only [Result.andThen]; rw [Oper.upon_value]
  go_wp2
  rw [Lib.run_from_unsafe w ⟨b, 0, none⟩ Tryz.underlying231 Tryz.underlying181 hj hsh bld_lies]; simp only [Result.andThen]; rw [Oper.upon_value]
  go_wp2
  go_end0
  exact ⟨rfl, rfl⟩
abbrev va (b : Nat) : Value := .pointer (some ⟨b, 0, none⟩)
theorem bld_cells {w : World} {L : Nat → Nat → Prop} {b : Nat} {p : D} {hd : Value} (hp : p = .nilp ∨ p = .raw (va b))
    (h : BoxT w L (some b) 183 (.agg [p, .raw hd]) (va b)) : ∃ pv, w.heap[b]? = some (.cells #[pv, hd] 183 (0, 0)) ∧ (∀ o, ¬ L b o) ∧ hd.oneCell' = true ∧ vIsAgg hd = false ∧ ((p = .nilp ∧ pv = .pointer none) ∨ (p = .raw (va b) ∧ pv = va b)) := by
  obtain ⟨g, C, h1, h2, h3, h4, h5⟩ := h; obtain rfl : b = g := by simpa using h1
  simp only [Rep, RepL] at h4; obtain ⟨css, ⟨c, cs, rfl, hc, c2, cs2, rfl, ⟨rfl, h7, h8⟩, rfl⟩, h6⟩ := h4; rcases hp with rfl | rfl
  · simp only [Rep] at hc; subst hc; have : C = #[.pointer none, hd] := by apply Array.ext'; simpa using h6
    subst this; exact ⟨_, h3, h5, h7, h8, .inl ⟨rfl, rfl⟩⟩
  · simp only [Rep] at hc; obtain ⟨rfl, _, _⟩ := hc; have : C = #[va b, hd] := by apply Array.ext'; simpa using h6
    subst this; exact ⟨_, h3, h5, h7, h8, .inr ⟨rfl, rfl⟩⟩
theorem bld_laid {w : World} {L : Nat → Nat → Prop} {b : Nat} {hd : Value} (h1 : w.heap[b]? = some (.cells #[va b, hd] 183 (0, 0))) (h2 : ∀ o, ¬ L b o) (h3 : hd.oneCell' = true) (h4 : vIsAgg hd = false) :
    RH prog w L (.hb (va b) 183 (.agg [.raw (va b), .raw hd])) := by
  refine ⟨rfl, b, _, rfl, rfl, h1, ?_, h2⟩; simp only [Rep, RepL]; exact ⟨[[va b], [hd]], ⟨_, _, rfl, ⟨rfl, rfl, rfl⟩, _, _, rfl, ⟨rfl, h3, h4⟩, rfl⟩, rfl⟩
theorem copyCheck_fn {b : Nat} {p : D} (hp : p = .nilp ∨ p = .raw (va b)) {hd : Value} :
    CtrG prog 198 [.d (.raw (va b))] [.hb (va b) 183 (.agg [p, .raw hd])] (fun r hs' => r = .tup [] ∧ hs' = [.hb (va b) 183 (.agg [.raw (va b), .raw hd])]) := by
  refine ⟨enters_of func198 (by kernel_rfl) rfl, fun w L vals hlok hgl hv hh _ => ?_⟩; obtain ⟨v, us, rfl, hv1, hv2⟩ := hv; obtain rfl : us = [] := hv2; obtain rfl : v = va b := RepV.raw_inv hv1; have hb : BoxT w L (some b) 183 (.agg [p, .raw hd]) (va b) := (hh (.hb (va b) 183 (.agg [p, .raw hd])) (by simp)).2; obtain ⟨pv, e1, e2, e3, e4, e5⟩ := bld_cells hp hb; have hlt : b < w.heap.size := (Array.getElem?_eq_some_iff.1 e1).1; rcases e5 with ⟨rfl, rfl⟩ | ⟨rfl, rfl⟩
  · refine (cc_fresh b w (by rw [Lib.cell_of_heap e1]; rfl) (by simp [World.shape?, e1]) (Lib.frozen_of_heap e1 0)).mono ?_; rintro e w' ⟨rfl, rfl⟩; have hsz : (w.setCell ⟨b, 0, none⟩ (va b)).heap.size = w.heap.size := (by simp [World.setCell]); refine ⟨_, L, none, .tup [], _, rfl, ⟨rfl, rfl, rfl, Nat.le_of_eq hsz.symm, fun k hk hn => Below.heap_setCell w _ _ k (fun e => hn (by simp [hblk, e])), Nat.le_refl _⟩, fun g q hq => by rw [hsz]; exact hlok g q hq, fun _ _ _ _ => Iff.rfl, fun g hg => ?_, ?_, ⟨[], rfl, rfl⟩, fun x hx => ?_, rfl, rfl⟩
    · simp [hblk] at hg; subst hg; exact ⟨by rw [hsz]; exact hlt, .inr (by simp [hblk])⟩
    · simp [apartB, hblk]
    · simp at hx; subst hx; refine bld_laid ?_ e2 e3 e4; simp [World.setCell, Array.getElem?_modify, e1]
  · refine (cc_used b w (by rw [Lib.cell_of_heap e1]; rfl)).mono ?_; rintro e w' ⟨rfl, rfl⟩; refine ⟨_, L, none, .tup [], _, rfl, GrownS.refl _ _, hlok, fun _ _ _ _ => Iff.rfl, fun g hg => ?_, ?_, ⟨[], rfl, rfl⟩, fun x hx => ?_, rfl, rfl⟩
    · simp [hblk] at hg; subst hg; exact ⟨hlt, .inr (by simp [hblk])⟩
    · simp [apartB, hblk]
    · simp at hx; subst hx; exact bld_laid e1 e2 e3 e4
theorem byte_info : (prog.info? 5).map (·.size) = some 1 := by kernel_rfl
theorem byte_cells : prog.cellsOf 5 = 1 := by kernel_rfl
theorem bytes_cells {w : World} {L : Nat → Nat → Prop} : ∀ {s : Str} {css : List (List Value)}, RepL w L (bytesD s) css → css.flatten = s.map fun c => Value.int .u8 (c.toNat : Int)
  | [], css, h => by simp only [bytesD, List.map_nil, RepL] at h; subst h; rfl
  | c :: s, css, h => by
    simp only [bytesD, List.map_cons, RepL, Rep] at h; obtain ⟨c1, cs, rfl, rfl, h2⟩ := h; simp [bytes_cells (s := s) h2]
set_option maxRecDepth 100000 in
set_option maxHeartbeats 1000000 in
theorem bs_row {b g cap : Nat} {p : Value} {l : List UInt8} (w : World) (h0 : l ≠ []) (hbk : w.heap[b]? = some (.cells #[p, .slice (some ⟨g, 0, none⟩) l.length cap] 183 (0, 0))) {cur : Array Value} (hg : w.heap[g]? = some (.cells cur 5 (0, 0)))
    (hnc : l.length ≤ cap) (hcm : cap ≤ maxLen) (hcs : cap ≤ cur.size) (htk : ∀ j x, l[j]? = some x → w.cell? ((⟨g, 0, none⟩ : Addr).add j) = some (.int .u8 x.toNat)) :
    Calls prog 162 #[.pointer (some ⟨b, 0, none⟩)] w fun e w' => e = .returned (.string ⟨l.toArray⟩) ∧ w' = w.drew.freeze ⟨g, 0, none⟩ l.length := by
  have hl0 : l.length ≠ 0 := (by simpa using h0); have c1 : w.drew.cell? ⟨b, 1, none⟩ = some (.slice (some ⟨g, 0, none⟩) l.length cap) := by
    have : w.drew.heap[b]? = some (.cells #[p, .slice (some ⟨g, 0, none⟩) l.length cap] 183 (0, 0)) := hbk; rw [Lib.cell_of_heap this]; rfl
  have hSD : (Builtin.unsafeSliceData_ #[150] 214 #[.slice (some ⟨g, 0, none⟩) l.length cap]).run prog w.drew = .ok (.pointer (some ⟨g, 0, none⟩)) w.drew :=
    Lib.run_unsafeSliceData_row _ _ _ _ _ _ (by omega)
  have hUS : (Builtin.unsafeString_ #[214, 3] 9 #[.pointer (some ⟨g, 0, none⟩), .int .i64 l.length]).run prog w.drew = .ok (.string ⟨l.toArray⟩) (w.drew.freeze ⟨g, 0, none⟩ l.length) := by
    refine Lib.run_unsafeString_row w.drew 214 3 9 5 Tryz.underlying214 byte_cells g cur.size (by have hg' : w.drew.heap[g]? = some (.cells cur 5 (0, 0)) := hg; simp [World.shape?, hg']) l h0 (by omega) (by unfold maxLen at hcm; omega) ?_; exact htk
  go_enter func162, Tryz.ntmps162
  go_wp2
  go_region
  all_goals (go_wp2; go_ret; exact ⟨rfl, rfl⟩)
theorem bs_none (W : World) (q : Option Addr) : (Builtin.unsafeString_ #[214, 3] 9 #[.pointer q, .int .i64 0]).run prog W = .ok (.string .empty) W := Lib.run_unsafeString_none W _ _ _ q
set_option maxRecDepth 100000 in
set_option maxHeartbeats 1000000 in
theorem bs_nil {b : Nat} {p : Value} (w : World) (hbk : w.heap[b]? = some (.cells #[p, .slice none 0 0] 183 (0, 0))) :
    Calls prog 162 #[.pointer (some ⟨b, 0, none⟩)] w fun e w' => e = .returned (.string ⟨#[]⟩) ∧ w' = w.drew := by
  have hUS := bs_none; have c1 : w.drew.cell? ⟨b, 1, none⟩ = some (.slice none 0 0) := by
    have : w.drew.heap[b]? = some (.cells #[p, .slice none 0 0] 183 (0, 0)) := hbk; rw [Lib.cell_of_heap this]; rfl
  have hSD : (Builtin.unsafeSliceData_ #[150] 214 #[.slice none 0 0]).run prog w.drew = .ok (.pointer none) w.drew := rfl
  go_enter func162, Tryz.ntmps162
  go_wp2
  go_region
  all_goals (go_wp2; go_ret; exact ⟨rfl, rfl⟩)
set_option maxRecDepth 100000 in
set_option maxHeartbeats 1000000 in
theorem bs_room {b g cap : Nat} {p : Value} (w : World) (hc0 : cap ≠ 0) (hbk : w.heap[b]? = some (.cells #[p, .slice (some ⟨g, 0, none⟩) 0 cap] 183 (0, 0))) :
    Calls prog 162 #[.pointer (some ⟨b, 0, none⟩)] w fun e w' => e = .returned (.string ⟨#[]⟩) ∧ w' = w.drew := by
  have hUS := bs_none; have c1 : w.drew.cell? ⟨b, 1, none⟩ = some (.slice (some ⟨g, 0, none⟩) 0 cap) := by
    have : w.drew.heap[b]? = some (.cells #[p, .slice (some ⟨g, 0, none⟩) 0 cap] 183 (0, 0)) := hbk; rw [Lib.cell_of_heap this]; rfl
  have hSD : (Builtin.unsafeSliceData_ #[150] 214 #[.slice (some ⟨g, 0, none⟩) 0 cap]).run prog w.drew = .ok (.pointer (some ⟨g, 0, none⟩)) w.drew :=
    Lib.run_unsafeSliceData_row _ _ _ _ _ _ hc0
  clear hc0
  go_enter func162, Tryz.ntmps162
  go_wp2
  go_region
  all_goals (go_wp2; go_ret; exact ⟨rfl, rfl⟩)
set_option maxRecDepth 100000 in
set_option maxHeartbeats 1000000 in
theorem bs_noroom {b g : Nat} {p : Value} {cur : Array Value} (w : World) (hbk : w.heap[b]? = some (.cells #[p, .slice (some ⟨g, 0, none⟩) 0 0] 183 (0, 0))) (hg : w.heap[g]? = some (.cells cur 5 (0, 0))) :
    Calls prog 162 #[.pointer (some ⟨b, 0, none⟩)] w fun e w' => e = .returned (.string ⟨#[]⟩) ∧ (w' = w.drew.alloc (.view ⟨g, 0, none⟩ 5) ∨ w' = (w.alloc (.view ⟨g, 0, none⟩ 5)).drew) := by
  have hUS := bs_none; have hlt : b < w.heap.size := (Array.getElem?_eq_some_iff.1 hbk).1; have c1 : w.drew.cell? ⟨b, 1, none⟩ = some (.slice (some ⟨g, 0, none⟩) 0 0) := by
    have : w.drew.heap[b]? = some (.cells #[p, .slice (some ⟨g, 0, none⟩) 0 0] 183 (0, 0)) := hbk; rw [Lib.cell_of_heap this]; rfl
  have hSD : (Builtin.unsafeSliceData_ #[150] 214 #[.slice (some ⟨g, 0, none⟩) 0 0]).run prog w.drew = .ok (.pointer (some ⟨w.drew.heap.size, 0, none⟩)) (w.drew.alloc (.view ⟨g, 0, none⟩ 5)) :=
    Lib.run_unsafeSliceData_zero w.drew _ _ 5 Tryz.underlying214 ⟨g, 0, none⟩ 0 (5, cur.size) (by have hg' : w.drew.heap[g]? = some (.cells cur 5 (0, 0)) := hg; simp [World.shape?, hg'])
  have c2 : (w.drew.alloc (.view ⟨g, 0, none⟩ 5)).cell? ⟨b, 1, none⟩ = some (.slice (some ⟨g, 0, none⟩) 0 0) := by
    have : (w.drew.alloc (.view ⟨g, 0, none⟩ 5)).heap[b]? = _ := (Lib.alloc_old w.drew _ b hlt).trans hbk; rw [Lib.cell_of_heap this]; rfl
  have c3 : (w.alloc (.view ⟨g, 0, none⟩ 5)).drew.cell? ⟨b, 1, none⟩ = some (.slice (some ⟨g, 0, none⟩) 0 0) := c2; have c0 : w.cell? ⟨b, 1, none⟩ = some (.slice (some ⟨g, 0, none⟩) 0 0) := c1
  go_enter func162, Tryz.ntmps162
  go_wp2
  go_region
  all_goals (go_wp2; go_ret; exact ⟨rfl, .inl rfl⟩)
abbrev bld (b : Nat) (p : D) (hd : Value) (s : Str) : List AV := [.hb (va b) 183 (.agg [p, .raw hd]), .hs hd 5 (bytesD s)]
theorem bytesD_length (s : Str) : (bytesD s).length = s.length := by simp [bytesD]
theorem heap_freeze (w : World) (a : Addr) (n k : Nat) (h : k ≠ a.block) : (w.freeze a n).heap[k]? = w.heap[k]? := by
  unfold World.freeze; split
  · rfl
  · simp only []; rw [Array.getElem?_modify, if_neg (fun e => h e.symm)]
theorem size_freeze (w : World) (a : Addr) (n : Nat) : (w.freeze a n).heap.size = w.heap.size := by
  unfold World.freeze; split
  · rfl
  · simp
theorem size_alloc (w : World) (o : Obj) : (w.alloc o).heap.size = w.heap.size + 1 := by unfold World.alloc; simp
theorem freeze_parts (w : World) (a : Addr) (n : Nat) : (w.freeze a n).os = w.os ∧ (w.freeze a n).tape = w.tape ∧ (w.freeze a n).output = w.output := by
  unfold World.freeze; split <;> exact ⟨rfl, rfl, rfl⟩
theorem string_fn {b : Nat} {p : D} (hp : p = .nilp ∨ p = .raw (va b)) {hd : Value} {s : Str} :
    CtrG prog 162 [.d (.raw (va b))] (bld b p hd s) (fun r hs' => r = .d (.str s) ∧ hs' = []) := by
  refine ⟨enters_of func162 (by kernel_rfl) rfl, fun w L vals hlok hgl hv hh hap => ?_⟩; obtain ⟨v, us, rfl, hv1, hv2⟩ := hv; obtain rfl : us = [] := hv2; obtain rfl : v = va b := RepV.raw_inv hv1; have hb : BoxT w L (some b) 183 (.agg [p, .raw hd]) (va b) := (hh (.hb (va b) 183 (.agg [p, .raw hd])) (by simp)).2; obtain ⟨pv, e1, e2, e3, e4, e5⟩ := bld_cells hp hb; have hs : OwnR prog w L hd.ownBlock true 5 (bytesD s) hd := (hh (.hs hd 5 (bytesD s)) (by simp)).2; obtain ⟨css, sz, f1, f2, f3, f4, f5⟩ := hs; obtain rfl : sz = 1 := by
    have : ety 5 = 5 := rfl; rw [this, byte_info] at f1; simpa using f1.symm
  have hcs := bytes_cells f2; have done : ∀ (w' : World), GrownS w w' (fun k => some k ∈ (bld b p hd s).map hblk) → ∀ st : Str, st = s → Ending.returned (.string ⟨st.toArray⟩) = Ending.returned (.string ⟨s.toArray⟩) ∧
      ∃ v L' og r hs', Ending.returned (.string ⟨s.toArray⟩) = Ending.returned v ∧ GrownS w w' (fun k => some k ∈ (bld b p hd s).map hblk) ∧ (∀ b q, L' b q → b < w'.heap.size) ∧ (∀ b' q, b' < w.heap.size → some b' ∉ (bld b p hd s).map hblk → (L' b' q ↔ L b' q)) ∧
      (∀ g, some g ∈ og :: hs'.map hblk → g < w'.heap.size ∧ (w.heap.size ≤ g ∨ some g ∈ (bld b p hd s).map hblk)) ∧ apartB (og :: hs'.map hblk) ∧ RC prog w' L' og r v ∧ (∀ x ∈ hs', RH prog w' L' x) ∧ (r = .d (.str s) ∧ hs' = []) := by
    intro w' hg st hst; refine ⟨by rw [hst], _, L, none, .d (.str s), [], rfl, hg, fun b q hq => Nat.lt_of_lt_of_le (hlok b q hq) hg.size, fun _ _ _ _ => Iff.rfl, fun g hgm => by simp at hgm, by simp [apartB], RepV.str, by simp, rfl, rfl⟩
  rcases f4.2 with ⟨rfl, hn⟩ | ⟨g, cap, cur, hv, hh', hnc, hcm, hsz, ht⟩
  · have hs0 : s = [] := (by simpa [bytesD] using hn); subst hs0; refine (bs_nil w e1).mono ?_; rintro e w' ⟨rfl, rfl⟩; exact (done w.drew ⟨rfl, rfl, rfl, Nat.le_refl _, fun _ _ _ => rfl, Nat.le_succ _⟩ [] rfl).2
  · subst hv; rw [bytesD_length] at *; have hblk1 : (bld b p (.slice (some ⟨g, 0, none⟩) s.length cap) s).map hblk = [some b, some g] := (by simp [hblk, Value.ownBlock]); by_cases h0 : s = []
    · subst h0; by_cases hc0 : cap = 0
      · subst hc0; refine (bs_noroom w e1 hh').mono ?_; rintro e w' ⟨rfl, hw⟩; refine (done w' ?_ [] rfl).2; rcases hw with rfl | rfl
        · exact ⟨rfl, rfl, rfl, by rw [size_alloc]; exact Nat.le_succ _, fun k hk _ => Lib.alloc_old w.drew _ k hk, Nat.le_succ _⟩
        · exact ⟨rfl, rfl, rfl, by show _ ≤ (w.alloc _).heap.size; rw [size_alloc]; exact Nat.le_succ _, fun k hk _ => Lib.alloc_old w _ k hk, Nat.le_succ _⟩
      · refine (bs_room w hc0 e1).mono ?_; rintro e w' ⟨rfl, rfl⟩; exact (done w.drew ⟨rfl, rfl, rfl, Nat.le_refl _, fun _ _ _ => rfl, Nat.le_succ _⟩ [] rfl).2
    · refine (bs_row w h0 e1 hh' hnc hcm (by omega) (fun j x hx => ?_)).mono ?_
      · have := rowOK.cells f4 (g := g) rfl j (.int .u8 x.toNat) (by rw [hcs, List.getElem?_map, hx]; rfl); exact this
      · rintro e w' ⟨rfl, rfl⟩; refine (done (w.drew.freeze ⟨g, 0, none⟩ s.length) ⟨(freeze_parts _ _ _).1, (freeze_parts _ _ _).2.1, (freeze_parts _ _ _).2.2, by rw [size_freeze]; exact Nat.le_refl _, fun k hk hn => ?_, by rw [freeze_drawn]; exact Nat.le_succ _⟩ s rfl).2; rw [heap_freeze _ _ _ _ (fun e => hn (by rw [hblk1]; simp [e]))]; rfl
theorem givB {P : Program} {g : FuncId} {args : List AV} {σ : St} {d : Nat} {K : St → Prop} (ks : List Nat) (b : Nat) {hs : List AV} {Post : AV → List AV → Prop} (h : CtrG P g args hs Post) (h1 : ks.map σ = hs) (h2 : hs.all isH = true) (h3 : ks.Nodup)
    (hk : ∀ r hs', Post r hs' → K (putH (put (takeH σ ks) d r) ks b hs')) : GivK P g args σ d K :=
  ⟨ks, b, Post, fun k hk => by
    have : σ k ∈ hs := by rw [← h1]; exact List.mem_map.2 ⟨k, hk, rfl⟩
    exact List.all_eq_true.1 h2 _ this, h3, by rw [h1]; exact h, hk⟩
theorem rawFd {P : Program} {s f : Nat} {u : Value} {σ : St} {C : AV → Prop} (j : Nat) {e : TypeId} {ds : List D} (hj : σ j = .hb u e (.agg ds)) (h0 : 1000000 ≤ j) (h1 : f < ds.length) (h2 : fieldOff P s f = some (widths (ds.take f))) (h : C (.adr j [f])) : RawFd P s f u σ C :=
  ⟨j, e, ds, h0, hj, h1, h2, h⟩
theorem appSK {e : TypeId} {t : Str} {l : List D} {u : Value} {σ : St} {d : Nat} {K : St → Prop} (j : Nat) (hj : σ j = .hs u e l) (h2 : l.length + List.length t ≤ 140737488355328)
    (hk : ∀ A c, K (put (put σ j (.hs (.slice A (l ++ bytesD t).length c) e (l ++ bytesD t))) d (.d (.raw (.slice A (l ++ bytesD t).length c))))) : AppSK e t u σ d K := ⟨j, l, .inl hj, h2, hk⟩
@[simp] theorem cval_nilIface : cval Value.nilIface = .undef := rfl
theorem writeByte_fn {b : Nat} {p : D} (hp : p = .nilp ∨ p = .raw (va b)) {hd : Value} {s : Str} (c : UInt8) (hl : s.length + 1 ≤ 140737488355328) :
    CtrG prog 158 [.d (.raw (va b)), .d (.int .u8 c.toNat)] (bld b p hd s) (fun r hs' => ∃ hd', hs' = bld b (.raw (va b)) hd' (s ++ [c])) := by
  refine fn_of_vwpGN (fun i => i == 5000006) (by kernel_rfl) (rs := [.tmp 4]) func158 (by kernel_rfl) rfl rfl (by simp) (nbl rfl) (by kernel_rfl) rfl ?_; simp -implicitDefEqProofs [initG]; refine givB [1000000] 1000000 (copyCheck_fn (hd := hd) hp) (by simp [initG]) rfl (by simp) ?_; rintro r hs' ⟨rfl, rfl⟩; simp -implicitDefEqProofs [initG, takeH, putH]; refine rawFd 1000000 (by simp; exact ⟨rfl, rfl⟩) (by omega) (by simp) (by kernel_rfl) ?_; simp -implicitDefEqProofs [initG]; refine appK (l := bytesD s) 1000001 (by simp [initG]) (by simp) (by simp [bytesD]; omega) (by simp [bytesD]; omega) (fun A c2 => ?_); simp -implicitDefEqProofs [initG]; refine rawFd 1000000 (by simp; exact ⟨rfl, rfl⟩) (by omega) (by simp) (by kernel_rfl) ?_; simp -implicitDefEqProofs [initG]; refine ⟨[.undef], [1000000, 1000001], by simp, by simp [isH], by simp [resDs, resD], .slice A ((bytesD s).length + 1) c2, by simp [bytesD]⟩
theorem writeString_fn {b : Nat} {p : D} (hp : p = .nilp ∨ p = .raw (va b)) {hd : Value} {s : Str} (t : Str) (hl : s.length + t.length ≤ 140737488355328) :
    CtrG prog 159 [.d (.raw (va b)), .d (.str t)] (bld b p hd s) (fun r hs' => ∃ hd', hs' = bld b (.raw (va b)) hd' (s ++ t)) := by
  refine fn_of_vwpGN (fun i => i == 5000007) (by kernel_rfl) (rs := [.tmp 4, .tmp 5]) func159 (by kernel_rfl) rfl rfl (by simp) (nbl rfl) (by kernel_rfl) rfl ?_; simp -implicitDefEqProofs [initG]; refine givB [1000000] 1000000 (copyCheck_fn (hd := hd) hp) (by simp [initG]) rfl (by simp) ?_; rintro r hs' ⟨rfl, rfl⟩; simp -implicitDefEqProofs [initG, takeH, putH]; refine rawFd 1000000 (by simp; exact ⟨rfl, rfl⟩) (by omega) (by simp) (by kernel_rfl) ?_; simp -implicitDefEqProofs [initG]; refine appSK (l := bytesD s) 1000001 (by simp [initG]) (by simp [bytesD]; omega) (fun A c2 => ?_); simp -implicitDefEqProofs [initG]; refine rawFd 1000000 (by simp; exact ⟨rfl, rfl⟩) (by omega) (by simp) (by kernel_rfl) ?_; simp -implicitDefEqProofs [initG]; refine ⟨[.undef, .undef], [1000000, 1000001], by simp, by simp [isH], by simp [resDs, resD], .slice A ((bytesD s).length + (bytesD t).length) c2, by simp [bytesD]⟩
theorem Ctr.same {P : Program} {f : FuncId} {xs : List D} {r : D} {vs : List Value} {v : Value} (hE : Enters P f) (h : ∀ w, Calls P f vs.toArray w fun e w' => e = .returned v ∧ w' = w)
    (hx : ∀ w L og vals, RCs P w L og (xs.map .d) vals → vals = vs) (hr : ∀ w L, RepV w L r v) : Ctr P f (xs.map .d) (.d r) := by
  refine ⟨hE, fun w L og vals hlok hgl hog hv => ?_⟩; rw [hx w L og vals hv]; refine (h w).mono ?_; rintro e w' ⟨rfl, rfl⟩; exact ⟨_, L, none, rfl, GrownS.refl _ _, hlok, fun _ _ _ _ => Iff.rfl, by simp, hr _ _⟩
abbrev ixB (s : Str) (c : UInt8) : Int := Go.Lib.indexByte s c
theorem u8_int (c : UInt8) (k : Nat) (hk : k < 256) : ((c.toNat : Int) = k) ↔ c = UInt8.ofNat k := by
  constructor
  · intro h; have : c.toNat = k := (by omega); rw [← this, UInt8.ofNat_toNat]
  · rintro rfl; simp [UInt8.toNat_ofNat', Nat.mod_eq_of_lt hk]
set_option maxRecDepth 100000
abbrev hexDs : Str := [48, 49, 50, 51, 52, 53, 54, 55, 56, 57, 65, 66, 67, 68, 69, 70]
theorem newK2 {P : Program} {e : TypeId} {z : D} {σ : St} {d : Nat} {K : St → Prop} (j k : Nat) (e' : TypeId) (h1 : σ k = .undef) (h2 : (P.info? (ety e')).isSome = true) (h3 : σ j = .undef) (hjk : j ≠ k)
    (hK : ∀ g, K (put (put (put σ k (.hs (.slice none 0 0) e' [])) j (.hb (va g) e z)) d (.d (.raw (va g))))) : NewK P e z σ d K :=
  ⟨j, some (k, e'), ⟨h1, h2⟩, by simp [nilN, hjk, h3], hK⟩
theorem zTX61 : zeroTX prog true 8 183 = .agg [.nilp, .raw (.slice none 0 0)] := by kernel_rfl
def BldAt (τ : St) (b : Nat) (s : Str) : Prop := ∃ p hd, (p = .nilp ∨ p = .raw (va b)) ∧ τ 1000000 = .hb (va b) 183 (.agg [p, .raw hd]) ∧ τ 1000001 = .hs hd 5 (bytesD s)
abbrev hexV (c : UInt8) : Int := ixB hexDs c
def hx (h l : UInt8) : UInt8 := UInt8.ofNat (16 * (hexV h).toNat + (hexV l).toNat)
theorem again' {N k k' : Nat} {I : Nat → St → Prop} {τ : St} (hk : k < k') (hk' : k' ≤ N) (h : I k' τ) : Again N k I τ := ⟨N - k', by omega, k', hk', rfl, h⟩
theorem drop_c {α : Type} {l : List α} {k : Nat} (h : k < l.length) : l.drop k = l[k] :: l.drop (k + 1) := List.drop_eq_getElem_cons h
def joinB (c : UInt8) : List Str → Str
  | [] => []
  | [p] => p
  | p :: q :: ps => p ++ c :: joinB c (q :: ps)
def AllB {α : Type} (p : α → Bool) (l : List α) : Prop := ∀ x ∈ l, p x = true
theorem AllB.nil {α : Type} {p : α → Bool} : AllB p [] := fun _ h => by simp at h
theorem AllB.all {α : Type} {p : α → Bool} {l : List α} (h : AllB p l) : l.all p = true := List.all_eq_true.2 h
end Go.Proofs.Tz
namespace Go.Proofs.Tz
open Go.Vw
set_option maxRecDepth 100000
theorem clean_fn (s : Str) : Ctr prog 106 [.d (.str s)] (.d (.bool (cleanB s))) := by
  refine fv (fun _ => false) func106 (by kernel_rfl) rfl rfl rfl rfl rfl ?_; by_cases hs : s = []
  · simp -implicitDefEqProofs [cleanB, hs]
  have hpos : 0 < List.length s := by
    cases s with
    | nil => exact absurd rfl hs
    | cons => simp
  have h1 : ¬ ((List.length s : Int) < 1) := (by omega); have hh : s.head? = some s[0] := (by simp [List.head?_eq_getElem?, hpos]); have hl : s.getLast? = some s[List.length s - 1] := by rw [List.getLast?_eq_getElem?, List.getElem?_eq_getElem (by omega)]
  have hi : 0 ≤ (List.length s : Int) - 1 := (by omega); have hi2 : ((List.length s : Int) - 1).toNat = List.length s - 1 := (by omega); have hi3 : List.length s - 1 < List.length s := (by omega); have hi4 : -9223372036854775808 ≤ (List.length s : Int) - 1 := (by omega); by_cases h2 : 256 < (List.length s : Int)
  · have : ¬ List.length s ≤ 256 := (by omega); simp -implicitDefEqProofs [cleanB, h1, h2, this]
  have h2' : List.length s ≤ 256 := (by omega); have h1' : 1 ≤ List.length s := hpos; have hi5 : (List.length s : Int) - 1 ≤ 9223372036854775807 := (by omega); by_cases ha : (s[0].toNat : Int) = 32
  · have : s[0] = 32 := by apply UInt8.toNat_inj.1; rw [show (32 : UInt8).toNat = 32 from rfl]; omega
    simp -implicitDefEqProofs [cleanB, h1, h2, hpos, ha, hh, this]
  have ha' : ¬ s[0] = 32 := fun e => ha (by rw [e]; rfl)
  by_cases hb : (s[List.length s - 1].toNat : Int) = 32
  · have : s[List.length s - 1] = 32 := by apply UInt8.toNat_inj.1; rw [show (32 : UInt8).toNat = 32 from rfl]; omega
    simp -implicitDefEqProofs [cleanB, h1, h2, hpos, ha, hh, hl, hb, hi, hi2, hi3, hi4, hi5, this]
    all_goals omega
  have hb' : ¬ s[List.length s - 1] = 32 := fun e => hb (by rw [e]; rfl)
  simp -implicitDefEqProofs [h1, h2, hpos, ha, hb, hi, hi2, hi3, hi4, hi5]; refine ⟨by omega, ?_⟩; refine loopN (List.length s) (fun k τ => τ 0 = .d (.str s) ∧ τ 3 = .d (.int .i64 k) ∧ ∀ x ∈ s.take k, cleanC x = true) (by simp) ?_; rintro k τ hk ⟨h0, h3, hall⟩; by_cases hlt : k < List.length s
  · by_cases e1 : (s[k].toNat : Int) < 32
    · have e1' : ¬ 32 ≤ (s[k].toNat : Int) := (by omega); simp -implicitDefEqProofs [h0, h3, hlt, e1]; simp -implicitDefEqProofs [cleanB, all_not hlt (show cleanC s[k] = false by simp [cleanC, e1'])]
    · by_cases e2 : 126 < (s[k].toNat : Int)
      · have e2' : ¬ (s[k].toNat : Int) ≤ 126 := (by omega); simp -implicitDefEqProofs [h0, h3, hlt, e1, e2]; simp -implicitDefEqProofs [cleanB, all_not hlt (show cleanC s[k] = false by simp [cleanC, e2'])]
      · have e1' : 32 ≤ (s[k].toNat : Int) := (by omega); have e2' : (s[k].toNat : Int) ≤ 126 := (by omega); simp -implicitDefEqProofs [h0, h3, hlt, e1, e2]; refine ⟨by omega, again hlt ⟨by simp [h0], by simp, ?_⟩⟩; exact all_take hlt hall (by simp [cleanC, e1', e2'])
  · simp -implicitDefEqProofs [h0, h3, hlt]; rw [ttl (by omega)] at hall; simp -implicitDefEqProofs [cleanB, h1', h2', hh, hl, ha', hb']; exact hall
theorem same_fn (l m : List Str) (hl : l.length < 1000000) (hm : m.length < 1000000) : Ctr prog 11 [.d (strs l), .d (strs m)] (.d (.bool (decide (l = m)))) := by
  refine fv (fun _ => false) func11 (by kernel_rfl) rfl rfl rfl rfl rfl ?_; by_cases hlm : l.length = m.length
  · simp -implicitDefEqProofs [strs, hlm]; refine loopN m.length (fun k τ => τ 0 = .d (strs l) ∧ τ 1 = .d (strs m) ∧ τ 5 = .d (.int .i64 k) ∧ l.take k = m.take k) (by simp [strs]) ?_; rintro k τ hk ⟨h0, h1, h5, ht⟩; by_cases hlt : k < m.length
    · have hlt' : k < l.length := (by omega); by_cases he : l[k] = m[k]
      · simp -implicitDefEqProofs [h0, h1, h5, strs, hlm, hlt, hlt', he]; refine ⟨by omega, again hlt ⟨by simp [h0, strs], by simp [h1, strs], by simp, ?_⟩⟩; rw [take_s hlt, take_s hlt', ht, he]
      · simp -implicitDefEqProofs [h0, h1, h5, strs, hlm, hlt, hlt', he]; rintro rfl; exact he rfl
    · simp -implicitDefEqProofs [h0, h1, h5, strs, hlm, hlt]; rw [ttl (by omega), ttl (by omega)] at ht
      first | exact ⟨by omega, ht⟩ | exact ht
  · have hlm' : ¬ (l.length : Int) = m.length := (by omega); simp -implicitDefEqProofs [strs, hlm']; rintro rfl; exact hlm rfl
def insS (s : Str) (r : Bool × List Str) (x : Str) : Bool × List Str :=
  (r.1 || !Op.bytesLess x s, r.2 ++ (if r.1 = false ∧ Op.bytesLess x s = false then [s] else []) ++ (if x = s then [] else [x]))
def insF (s : Str) (l : List Str) : Bool × List Str := l.foldl (insS s) (false, [])
def ins (l : List Str) (s : Str) : List Str := (insF s l).2 ++ (if (insF s l).1 then [] else [s])
theorem insF_take {s : Str} {l : List Str} {k : Nat} (h : k < l.length) : insF s (l.take (k + 1)) = insS s (insF s (l.take k)) l[k] := by
  rw [take_s h]; simp only [insF, List.foldl_append, List.foldl_cons, List.foldl_nil]
theorem insF_len (s : Str) : ∀ (l : List Str) (r : Bool × List Str), (l.foldl (insS s) r).2.length ≤ r.2.length + 2 * l.length
  | [], r => by simp
  | x :: l, r => by
    have := insF_len s l (insS s r x); simp only [List.foldl_cons, List.length_cons]; have h2 : (insS s r x).2.length ≤ r.2.length + 2 := by
      simp only [insS, List.length_append]; split <;> split <;> simp <;> omega
    all_goals omega
theorem insF_len' (s : Str) (l : List Str) : (insF s l).2.length ≤ 2 * l.length := by simpa [insF] using insF_len s l (false, [])
theorem ins_fn (l : List Str) (s : Str) (hl : l.length < 1000000) : Ctr prog 52 [.d (strs l), .d (.str s)] (.own true 9 ((ins l s).map .str)) := by
  refine fv (fun i => decide (i < 1000000)) func52 (by kernel_rfl) rfl rfl rfl rfl rfl ?_; simp -implicitDefEqProofs; refine loopN l.length (fun k τ => τ 0 = .d (strs l) ∧ τ 1 = .d (.str s) ∧ τ 6 = .d (.bool (insF s (l.take k)).1) ∧ τ 5 = .own true 9 ((insF s (l.take k)).2.map .str) ∧ τ 7 = .d (.int .i64 k)) (by simp [insF]) ?_; rintro k τ hk ⟨h0, h1, h6, h5, h7⟩; have hlen := insF_len' s (l.take k); rw [List.length_take, Nat.min_eq_left hk] at hlen; have ht := fun h => insF_take (s := s) (l := l) (k := k) h
  generalize hr : insF s (l.take k) = r at *; obtain ⟨d, out⟩ := r; simp only at hlen h6 h5; by_cases hlt : k < l.length
  · have ht := ht hlt; cases d with
    | true =>
      by_cases he : l[k] = s
      · simp -implicitDefEqProofs [h0, h1, h6, h5, h7, strs, hlt, he]; refine ⟨by omega, again hlt ⟨by simp [h0, strs], by simp [h1], ?_, ?_, by simp⟩⟩
        · rw [ht]; simp [h6, insS]
        · rw [ht]; simp [h5, insS, he]
      · simp -implicitDefEqProofs [h0, h1, h6, h5, h7, strs, hlt, he]; refine ⟨by omega, by omega, by omega, again hlt ⟨by simp [h0, strs], by simp [h1], ?_, ?_, by simp⟩⟩
        · rw [ht]; simp [h6, insS]
        · rw [ht]; simp [h5, insS, he]
    | false =>
      by_cases hb : Op.bytesLess l[k] s = true
      · by_cases he : l[k] = s
        · have hb' : Op.bytesLess s s = true := by rw [he] at hb; exact hb
          simp -implicitDefEqProofs [h0, h1, h6, h5, h7, strs, hlt, he, hb']; refine ⟨by omega, again hlt ⟨by simp [h0, strs], by simp [h1], ?_, ?_, by simp⟩⟩
          · rw [ht]; simp [h6, insS, he, hb']
          · rw [ht]; simp [h5, insS, he, hb']
        · simp -implicitDefEqProofs [h0, h1, h6, h5, h7, strs, hlt, he, hb]; refine ⟨by omega, by omega, by omega, again hlt ⟨by simp [h0, strs], by simp [h1], ?_, ?_, by simp⟩⟩
          · rw [ht]; simp [h6, insS, he, hb]
          · rw [ht]; simp [h5, insS, he, hb]
      · by_cases he : l[k] = s
        · have hb' : Op.bytesLess s s = false := by rw [he] at hb; simpa using hb
          simp -implicitDefEqProofs [h0, h1, h6, h5, h7, strs, hlt, he, hb']; refine ⟨by omega, by omega, by omega, again hlt ⟨by simp [h0, strs], by simp [h1], ?_, ?_, by simp⟩⟩
          · rw [ht]; simp [h6, insS, he, hb']
          · rw [ht]; simp [h5, insS, he, hb']
        · simp -implicitDefEqProofs [h0, h1, h6, h5, h7, strs, hlt, he, hb]; refine ⟨by omega, by omega, by omega, by omega, by omega, again hlt ⟨by simp [h0, strs], by simp [h1], ?_, ?_, by simp⟩⟩
          · rw [ht]; simp [h6, insS, he, hb]
          · rw [ht]; simp [h5, insS, he, hb]
  · rw [ttl (by omega)] at hr; cases d with
    | true =>
      simp -implicitDefEqProofs [h0, h1, h6, h5, h7, strs, hlt, ins, hr]
      all_goals omega
    | false =>
      simp -implicitDefEqProofs [h0, h1, h6, h5, h7, strs, hlt, ins, hr]
      all_goals omega
abbrev Att := Str × List Str
def att (a : Att) : D := .agg [.str a.1, strs a.2]
def atts (l : List Att) : D := .sl (l.map att)
def Fits (l : List Att) : Prop := l.length < 1000000 ∧ ∀ a ∈ l, List.length a.1 < 1000000 ∧ a.2.length < 1000000
def chkV (old : List Str) : List Str → List Str → Int
  | _, [] => 0
  | b, v :: l => if cleanB v = false then 4 else if v ∈ old ∨ v ∈ b then 7 else chkV old (b ++ [v]) l
theorem upper_fn (c : UInt8) : Ctr prog 134 [.d (u8 c)] (.d (.bool (decide (65 ≤ (c.toNat : Int)) && decide ((c.toNat : Int) ≤ 90)))) := by
  refine fv (fun _ => false) func134 (by kernel_rfl) rfl rfl rfl rfl rfl ?_; by_cases h1 : 65 ≤ (c.toNat : Int) <;> simp [u8, h1]
theorem fletter_fn (c : UInt8) : Ctr prog 132 [.d (u8 c)] (.d (.bool (isLetter c))) := by
  refine fv (fun _ => false) func132 (by kernel_rfl) rfl rfl rfl rfl rfl ?_; simp -implicitDefEqProofs; refine callK (upper_fn c) ?_; by_cases h1 : 97 ≤ (c.toNat : Int) <;> by_cases h2 : (c.toNat : Int) ≤ 122 <;> by_cases h3 : 65 ≤ (c.toNat : Int) <;> by_cases h4 : (c.toNat : Int) ≤ 90 <;> simp -implicitDefEqProofs [u8, isLetter, h1, h2, h3, h4]
theorem fdigit_fn (c : UInt8) : Ctr prog 133 [.d (u8 c)] (.d (.bool (isDigit c))) := by
  refine fv (fun _ => false) func133 (by kernel_rfl) rfl rfl rfl rfl rfl ?_; by_cases h1 : 48 ≤ (c.toNat : Int) <;> simp [u8, isDigit, h1]
theorem allowed_fn (c : UInt8) : Ctr prog 131 [.d (u8 c)] (.d (.bool (nameC c))) := by
  refine fv (fun _ => false) func131 (by kernel_rfl) rfl rfl rfl rfl rfl ?_; simp -implicitDefEqProofs [u8]; refine callK (fletter_fn c) ?_; by_cases h1 : isLetter c = true
  · simp -implicitDefEqProofs [h1, nameC]
  · simp -implicitDefEqProofs [h1]; refine callK (fdigit_fn c) ?_; by_cases h2 : isDigit c = true <;> by_cases h3 : (c.toNat : Int) = 45 <;> simp [h1, h2, h3, nameC]
theorem lowc_not {c : UInt8} (h : ¬ (65 ≤ (c.toNat : Int) ∧ (c.toNat : Int) ≤ 90)) : lowc c = c := if_neg h
def halfL (s : Str) (k : Nat) : List D := ((lower (s.take k)) ++ s.drop k).map u8
theorem halfL_len (s : Str) (k : Nat) (h : k ≤ List.length s) : (halfL s k).length = List.length s := by simp [halfL, lower]; omega
theorem halfL_get (s : Str) (k : Nat) (h : k < List.length s) : (halfL s k)[k]? = some (u8 s[k]) := by
  have hl : (lower (s.take k)).length = k := by simp [lower]; omega
  simp only [halfL, List.getElem?_map]; rw [List.getElem?_append_right (by omega), hl, Nat.sub_self]; simp [h]
theorem halfL_set (s : Str) (k : Nat) (h : k < List.length s) : (halfL s k).set k (u8 (lowc s[k])) = halfL s (k + 1) := by
  have hl : (lower (s.take k)).length = k := by simp [lower]; omega
  simp only [halfL, ← List.map_set]; rw [List.set_append_right _ _ (by omega), hl, Nat.sub_self, List.drop_eq_getElem_cons h, List.set_cons_zero, take_s h]; simp only [lower, List.map_append, List.map_cons, List.map_nil, List.append_assoc, List.singleton_append]
theorem foldLower_fn (s : Str) (hs : List.length s < 1000000) : Ctr prog 83 [.d (.str s)] (.d (.str (lower s))) := by
  refine fv (fun i => decide (i < 1000000)) func83 (by kernel_rfl) rfl rfl rfl rfl rfl ?_; simp -implicitDefEqProofs; refine ⟨by omega, ?_⟩; refine loopN (List.length s) (fun k τ => τ 9 = .d (.int .i64 k) ∧ τ 8 = .d (.int .i64 (List.length s)) ∧ τ 3 = .own true 100005 (halfL s k)) (by simp [halfL, lower, bytesD, u8]) ?_; rintro k τ hk ⟨h9, h8, h3⟩; have hlen := halfL_len s k hk; by_cases hlt : k < List.length s
  · have hg := halfL_get s k hlt; have hset := halfL_set s k hlt; generalize halfL s k = M at *; have hlt2 : k < M.length := (by omega); have hg2 : M[k] = u8 s[k] := (List.getElem?_eq_some_iff.1 hg).2; simp -implicitDefEqProofs [h9, h8, h3, hlt, hlt2, hg2, u8]; refine callK (upper_fn _) ?_; by_cases h1 : 65 ≤ (s[k].toNat : Int) ∧ (s[k].toNat : Int) ≤ 90
    · simp -implicitDefEqProofs [h9, h8, h3, hlt, hlt2, hg2, u8, h1.1, h1.2]; have e : u8 (lowc s[k]) = .int .u8 ((s[k].toNat : Int) + 32) := by
        simp only [u8, lowc_toNat _ h1.1 h1.2]; congr 1; omega
      rw [e] at hset; exact ⟨by omega, by omega, again hlt ⟨by simp, by simp [h8], by simp [hset]⟩⟩
    · have hb : (decide (65 ≤ (s[k].toNat : Int)) && decide ((s[k].toNat : Int) ≤ 90)) = false := (by simpa using h1); simp -implicitDefEqProofs [h9, h8, h3, hlt, hlt2, hg2, u8, hb]; rw [lowc_not h1, ← hg2, List.set_getElem_self] at hset; exact ⟨by omega, again hlt ⟨by simp, by simp [h8], by simp [h3, hset]⟩⟩
  · simp -implicitDefEqProofs [h9, h8, h3, hlt]; have e : halfL s k = bytesD (lower s) := by
      have : k = List.length s := (by omega); subst this; simp [halfL, bytesD, u8]
    simp -implicitDefEqProofs [e, h3]
theorem u8ne {x c : UInt8} (h : ¬ x = c) : ¬ ((x.toNat : Int) = c.toNat) := fun e => h (UInt8.toNat_inj.1 (by omega))
def trimLB (c : UInt8) (s : Str) : Str := s.dropWhile fun x => decide (x = c)
def trimRB (c : UInt8) (s : Str) : Str := (s.reverse.dropWhile fun x => decide (x = c)).reverse
theorem trimL_fn (s : Str) (c : UInt8) : Ctr prog 199 [.d (.str s), .d (u8 c)] (.d (.str (trimLB c s))) := by
  refine fv (fun _ => false) func199 (by kernel_rfl) rfl rfl rfl rfl rfl ?_; simp -implicitDefEqProofs [u8]; refine loopK (fun n τ => ∃ t : Str, n = t.length ∧ τ 0 = .d (.str t) ∧ τ 1 = .d (.int .u8 c.toNat) ∧ trimLB c t = trimLB c s) s.length ⟨s, rfl, by simp, by simp, rfl⟩ ?_; rintro n τ ⟨t, rfl, h0, h1, ht⟩; cases t with
  | nil =>
    simp -implicitDefEqProofs [h0, h1]; rw [← ht]; rfl
  | cons x t =>
    by_cases hx : x = c
    · subst hx; simp -implicitDefEqProofs [h0, h1]; exact ⟨_, by omega, t, rfl, rfl, by rw [← ht, trimLB, trimLB, List.dropWhile_cons, if_pos (by simp)]⟩
    · have := u8ne hx; simp -implicitDefEqProofs [h0, h1, this]; rw [← ht, trimLB, List.dropWhile_cons, if_neg (by simp [hx])]
theorem trimRB_last {c : UInt8} {t : Str} (h : 0 < List.length t) : trimRB c t = if t[List.length t - 1] = c then trimRB c (t.take (List.length t - 1)) else t := by
  have e : t = t.take (List.length t - 1) ++ [t[List.length t - 1]] := by
    have := take_s (l := t) (k := List.length t - 1) (by omega); rw [show List.length t - 1 + 1 = List.length t by omega, List.take_length] at this; exact this
  conv => lhs; rw [e]
  rw [trimRB, List.reverse_append, List.reverse_singleton, List.singleton_append, List.dropWhile_cons]; by_cases hx : t[List.length t - 1] = c
  · rw [if_pos (by simpa using hx), if_pos hx, trimRB]
  · rw [if_neg (by simpa using hx), if_neg hx, List.reverse_cons, List.reverse_reverse]; exact e.symm
theorem trimR_fn (s : Str) (c : UInt8) (hs : List.length s < 1000000) : Ctr prog 200 [.d (.str s), .d (u8 c)] (.d (.str (trimRB c s))) := by
  refine fv (fun _ => false) func200 (by kernel_rfl) rfl rfl rfl rfl rfl ?_; simp -implicitDefEqProofs [u8]; refine loopK (fun n τ => ∃ t : Str, n = t.length ∧ τ 0 = .d (.str t) ∧ τ 1 = .d (.int .u8 c.toNat) ∧ List.length t < 1000000 ∧ trimRB c t = trimRB c s) s.length ⟨s, rfl, by simp, by simp, hs, rfl⟩ ?_; rintro n τ ⟨t, rfl, h0, h1, hl, ht⟩; by_cases hpos : 0 < List.length t
  · have hi : 0 ≤ (List.length t : Int) - 1 := (by omega); have hi2 : ((List.length t : Int) - 1).toNat = List.length t - 1 := (by omega); have hi3 : List.length t - 1 < List.length t := (by omega); have hi4 : -9223372036854775808 ≤ (List.length t : Int) - 1 := (by omega); have hi5 : (List.length t : Int) - 1 ≤ 9223372036854775807 := (by omega); have hi6 : 1 ≤ (List.length t : Int) := (by omega); have hz : ¬ t = [] := fun e => by subst e; simp at hpos
    rw [trimRB_last hpos] at ht; by_cases hx : t[List.length t - 1] = c
    · rw [if_pos hx] at ht; simp -implicitDefEqProofs [h0, h1, hpos, hi, hi2, hi3, hi4, hi5, hi6, hx, hz]; exact ⟨List.length t - 1, by omega, t.take (List.length t - 1), by rw [List.length_take]; omega, rfl, by rw [List.length_take]; omega, ht⟩
    · have := u8ne hx; rw [if_neg hx] at ht; simp -implicitDefEqProofs [h0, h1, hpos, hi, hi2, hi3, hi4, hi5, hi6, this, hz]; exact ht
  · obtain rfl : t = [] := List.eq_nil_of_length_eq_zero (by omega); simp -implicitDefEqProofs [h0, h1]; rw [← ht]; rfl
def trimB (s : Str) : Str := trimLB 32 (trimRB 32 s)
theorem trim102_fn (s : Str) (hs : List.length s < 1000000) : Ctr prog 163 [.d (.str s), .d (.str [32])] (.d (.str (trimB s))) := by
  refine fv (fun _ => false) func163 (by kernel_rfl) rfl rfl rfl rfl rfl ?_; by_cases hz : s = []
  · subst hz; simp -implicitDefEqProofs; try rfl
  simp -implicitDefEqProofs [hz]; have h1 : Ctr prog 200 [.d (.str s), .d (.int .u8 32)] (.d (.str (trimRB 32 s))) := trimR_fn s 32 hs; have h2 : Ctr prog 199 [.d (.str (trimRB 32 s)), .d (.int .u8 32)] (.d (.str (trimB s))) := trimL_fn (trimRB 32 s) 32; refine callP h1 ?_; simp -implicitDefEqProofs [hz]; refine callP h2 ?_; simp -implicitDefEqProofs [hz]
theorem trim_fn (s : Str) (hs : List.length s < 1000000) : Ctr prog 105 [.d (.str s)] (.d (.str (trimB s))) := by
  refine fv (fun _ => false) func105 (by kernel_rfl) rfl rfl rfl rfl rfl ?_; simp -implicitDefEqProofs; refine callK (trim102_fn s hs) ?_; simp -implicitDefEqProofs
def cleanF (s : Str) : Bool := s.all cleanC && decide (s ≠ []) && decide (List.length s ≤ 256) && decide (trimB s = s)
theorem dec_lo {s : Str} {k : Nat} (h : k < List.length s) (hc : s[k].toNat < 128) : Go.Utf8.decode ⟨s.toArray⟩ k = (s[k].toNat, 1) := by
  have hb : k < (⟨s.toArray⟩ : ByteArray).size := (by simpa [ByteArray.size] using h); have e : (⟨s.toArray⟩ : ByteArray)[k]'hb = s[k] := rfl; have := decode_ascii ⟨s.toArray⟩ k hb (by rw [e]; exact hc); rw [e] at this; exact this
theorem dec_hi {s : Str} {k : Nat} (h : k < List.length s) (hc : 128 ≤ s[k].toNat) : 128 ≤ (Go.Utf8.decode ⟨s.toArray⟩ k).1 := by
  have hb : k < (⟨s.toArray⟩ : ByteArray).size := (by simpa [ByteArray.size] using h); have e : (⟨s.toArray⟩ : ByteArray)[k]'hb = s[k] := rfl; exact (decode_high ⟨s.toArray⟩ k hb (by rw [e]; exact hc)).1
theorem trimLB_len (c : UInt8) (s : Str) : List.length (trimLB c s) ≤ List.length s := (List.dropWhile_sublist _).length_le
theorem trimRB_len (c : UInt8) (s : Str) : List.length (trimRB c s) ≤ List.length s := by
  have := (List.dropWhile_sublist (fun x : UInt8 => decide (x = c)) (l := s.reverse)).length_le; simpa [trimRB] using this
theorem trimB_iff {s : Str} (h : 0 < List.length s) : trimB s = s ↔ s[0] ≠ 32 ∧ s[List.length s - 1] ≠ 32 := by
  constructor
  · intro e; have h1 := trimLB_len 32 (trimRB 32 s); have h2 := trimRB_len 32 s; have h3 : List.length (trimB s) = List.length s := by rw [e]
    rw [trimB] at h3; have hr : s[List.length s - 1] ≠ 32 := by
      intro h4; rw [trimRB_last h, if_pos h4] at h3 h1; have h5 := trimRB_len 32 (s.take (List.length s - 1)); rw [List.length_take] at h5; omega
    refine ⟨fun h4 => ?_, hr⟩; rw [trimB, trimRB_last h, if_neg hr] at e; cases s with
    | nil => simp at h
    | cons x t =>
      simp only [List.getElem_cons_zero] at h4; rw [trimLB, List.dropWhile_cons, if_pos (by simp [h4])] at e; have := trimLB_len 32 t; rw [trimLB, e, List.length_cons] at this; omega
  · rintro ⟨h1, h2⟩; rw [trimB, trimRB_last h, if_neg h2]; cases s with
    | nil => rfl
    | cons x t => rw [trimLB, List.dropWhile_cons, if_neg (by simpa using h1)]
theorem cleanF_eq (s : Str) : cleanF s = cleanB s := by
  by_cases h : 0 < List.length s
  · have hne : s ≠ [] := fun e => by subst e; simp at h
    have hh : s.head? = some s[0] := (by simp [List.head?_eq_getElem?, h]); have hl : s.getLast? = some s[List.length s - 1] := by rw [List.getLast?_eq_getElem?, List.getElem?_eq_getElem (by omega)]
    rw [Bool.eq_iff_iff]; simp only [cleanF, cleanB, Bool.and_eq_true, decide_eq_true_eq, trimB_iff h, hh, hl, bne_iff_ne, ne_eq, Option.some.injEq]; have : 1 ≤ List.length s := h; constructor
    · rintro ⟨⟨⟨a, b⟩, c⟩, d, e⟩; exact ⟨⟨⟨⟨this, c⟩, d⟩, e⟩, a⟩
    · rintro ⟨⟨⟨⟨_, c⟩, d⟩, e⟩, a⟩; exact ⟨⟨⟨a, hne⟩, c⟩, d, e⟩
  · obtain rfl : s = [] := List.eq_nil_of_length_eq_zero (by omega); rfl
theorem fclean_fn (s : Str) (hs : List.length s < 1000000) : Ctr prog 57 [.d (.str s)] (.d (.bool (cleanF s))) := by
  refine fv (fun _ => false) func57 (by kernel_rfl) rfl rfl rfl rfl rfl ?_; simp -implicitDefEqProofs; refine loopN (List.length s) (fun k τ => τ 0 = .d (.str s) ∧ τ 6 = .iter s k ∧ ∀ x ∈ s.take k, cleanC x = true) (by simp) ?_; rintro k τ hk ⟨h0, h6, hall⟩; by_cases hlt : k < List.length s
  · by_cases ha : s[k].toNat < 128
    · have hd := dec_lo hlt ha; by_cases e1 : (s[k].toNat : Int) < 32
      · have e1' : ¬ 32 ≤ (s[k].toNat : Int) := (by omega); simp -implicitDefEqProofs [h0, h6, hlt, hd, e1]; simp [cleanF, all_not hlt (show cleanC s[k] = false by simp [cleanC, e1'])]
      · by_cases e2 : 126 < (s[k].toNat : Int)
        · have e2' : ¬ (s[k].toNat : Int) ≤ 126 := (by omega); simp -implicitDefEqProofs [h0, h6, hlt, hd, e1, e2]; simp [cleanF, all_not hlt (show cleanC s[k] = false by simp [cleanC, e2'])]
        · have e1' : 32 ≤ (s[k].toNat : Int) := (by omega); have e2' : (s[k].toNat : Int) ≤ 126 := (by omega); simp -implicitDefEqProofs [h0, h6, hlt, hd, e1, e2]; exact again hlt ⟨by simp [h0], by simp, all_take hlt hall (by simp [cleanC, e1', e2'])⟩
    · have hd := dec_hi hlt (by omega); have e1 : ¬ ((Go.Utf8.decode ⟨s.toArray⟩ k).1 : Int) < 32 := (by omega); have e2 : 126 < ((Go.Utf8.decode ⟨s.toArray⟩ k).1 : Int) := (by omega); have e2' : ¬ (s[k].toNat : Int) ≤ 126 := (by omega); simp -implicitDefEqProofs [h0, h6, hlt, e1, e2]; simp [cleanF, all_not hlt (show cleanC s[k] = false by simp [cleanC, e2'])]
  · rw [ttl (by omega)] at hall; have hall' : s.all cleanC = true := List.all_eq_true.2 hall; by_cases hz : s = []
    · subst hz; simp -implicitDefEqProofs [h0, h6, cleanF]
    · by_cases h2 : (List.length s : Int) ≤ 256
      · have h2' : List.length s ≤ 256 := (by omega); simp -implicitDefEqProofs [h0, h6, hlt, hz, h2]; refine callK (trim_fn s hs) ?_; simp -implicitDefEqProofs [h0, h6, hlt, hz, h2, cleanF, hall', h2']
      · have h2' : ¬ List.length s ≤ 256 := (by omega); simp -implicitDefEqProofs [h0, h6, hlt, hz, h2, cleanF, h2']
end Go.Proofs.Tz
namespace Go.Proofs.Tz
open Go.Vw Go.RowKit Go.Proofs
def specB (c : UInt8) : Bool := decide (c = 44) || decide (c = 61) || decide (c = 43) || decide (c = 92)
def nextU (c : UInt8) : Str → Nat
  | [] => 0
  | [x] => if x = c then 0 else 1
  | x :: y :: r => if x = c then 0 else if x = 92 then 2 + nextU c r else 1 + nextU c (y :: r)
theorem nextU_le (c : UInt8) : ∀ (s : Str), nextU c s ≤ s.length
  | [] => by simp [nextU]
  | [x] => by simp only [nextU]; split <;> simp
  | x :: y :: r => by
    have h1 := nextU_le c r; have h2 := nextU_le c (y :: r); simp only [nextU]; simp only [List.length_cons] at h2 ⊢; split
    · omega
    · split <;> omega
def piecesF : Nat → Str → List Str
  | 0, s => [s]
  | n + 1, s => if nextU 44 s < s.length then s.take (nextU 44 s) :: piecesF n (s.drop (nextU 44 s + 1)) else [s]
def piecesU (s : Str) : List Str := piecesF s.length s
theorem piecesF_eq : ∀ (n m : Nat) (s : Str), s.length ≤ n → s.length ≤ m → piecesF n s = piecesF m s
  | 0, 0, _, _, _ => rfl
  | 0, m + 1, s, h, _ => by
    have : s = [] := List.length_eq_zero_iff.1 (by omega); subst this; simp [piecesF]
  | n + 1, 0, s, _, h => by
    have : s = [] := List.length_eq_zero_iff.1 (by omega); subst this; simp [piecesF]
  | n + 1, m + 1, s, h1, h2 => by
    simp only [piecesF]; split
    · rw [piecesF_eq n m _ (by simp only [List.length_drop]; omega) (by simp only [List.length_drop]; omega)]
    · rfl
theorem piecesU_at {s : Str} (h : nextU 44 s < s.length) : piecesU s = s.take (nextU 44 s) :: piecesU (s.drop (nextU 44 s + 1)) := by
  obtain ⟨n, hn⟩ : ∃ n, s.length = n + 1 := ⟨s.length - 1, by omega⟩; rw [piecesU, hn, piecesF, if_pos h, piecesU, piecesF_eq n _ _ (by simp only [List.length_drop]; omega) (Nat.le_refl _)]
theorem piecesU_end {s : Str} (h : ¬ nextU 44 s < s.length) : piecesU s = [s] := by
  rw [piecesU]; cases s.length with
  | zero => rfl
  | succ n => rw [piecesF, if_neg h]
def valueU : Str → Option Str
  | [] => some []
  | [x] => if x = 92 then none else if specB x = true then none else some [x]
  | x :: y :: r => if x = 92 then (if specB y = true then (valueU r).map (y :: ·) else none) else if specB x = true then none else (valueU (y :: r)).map (x :: ·)
def valueR : Str → Option Str
  | [] => some []
  | [x] => if x = 92 then none else if x = 61 ∨ x = 43 then none else some [x]
  | x :: y :: r => if x = 92 then (if specB y = true then (valueR r).map (y :: ·) else none) else if x = 61 ∨ x = 43 then none else (valueR (y :: r)).map (x :: ·)
def NoU (c : UInt8) : Str → Prop
  | [] => True
  | [x] => x ≠ c
  | x :: y :: r => x ≠ c ∧ if x = 92 then NoU c r else NoU c (y :: r)
theorem valueR_eq : ∀ (s : Str), NoU 44 s → valueR s = valueU s
  | [], _ => rfl
  | [x], h => by
    simp only [NoU] at h; simp only [valueR, valueU]; by_cases h1 : x = 92
    · simp [h1]
    · simp [h1, specB, h]
  | x :: y :: r, h => by
    simp only [NoU] at h; have i1 := fun e => valueR_eq r e
    have i2 := fun e => valueR_eq (y :: r) e
    simp only [valueR, valueU]; by_cases h1 : x = 92
    · rw [if_pos h1] at h; simp [h1, i1 h.2]
    · rw [if_neg h1] at h; simp [h1, specB, h.1, i2 h.2]
theorem NoU.take {c : UInt8} : ∀ {s : Str} (n : Nat), NoU c s → NoU c (s.take n)
  | [], n, h => by simpa using h
  | [x], 0, h => by simp [NoU]
  | [x], n + 1, h => by simpa using h
  | x :: y :: r, 0, h => by simp [NoU]
  | x :: y :: r, 1, h => by simp only [NoU] at h; simp [NoU, h.1]
  | x :: y :: r, n + 2, h => by
    simp only [NoU] at h; have e : List.take (n + 2) (x :: y :: r) = x :: y :: List.take n r := rfl; rw [e]; refine ⟨h.1, ?_⟩; by_cases h1 : x = 92
    · rw [if_pos h1] at h ⊢; exact NoU.take n h.2
    · rw [if_neg h1] at h ⊢; exact NoU.take (n + 1) h.2
theorem NoU.tail {c x : UInt8} {s : Str} (h : NoU c (x :: s)) (hx : x ≠ 92) : NoU c s := by
  cases s with
  | nil => simp [NoU]
  | cons y r => simp only [NoU, if_neg hx] at h; exact h.2
theorem NoU.trimL {c : UInt8} : ∀ {s : Str}, NoU c s → NoU c (trimLB 32 s)
  | [], h => h
  | x :: s, h => by
    rw [trimLB, List.dropWhile_cons]; split
    · rename_i hx
      have hx' : x = 32 := (by simpa using hx); exact NoU.trimL (h.tail (by rw [hx']; decide))
    · exact h
theorem trimRB_take (c : UInt8) (s : Str) : ∃ n, trimRB c s = s.take n := by
  obtain ⟨t, ht⟩ := List.dropWhile_suffix (l := s.reverse) (fun x => decide (x = c)); refine ⟨(trimRB c s).length, ?_⟩; have : trimRB c s ++ t.reverse = s := by
    rw [trimRB, ← List.reverse_append, ht, List.reverse_reverse]
  have h2 := congrArg (List.take (trimRB c s).length) this; rw [List.take_left' rfl] at h2; exact h2
theorem NoU.trim {c : UInt8} {s : Str} (h : NoU c s) : NoU c (trimB s) := by
  rw [trimB]; obtain ⟨n, hn⟩ := trimRB_take 32 s; rw [hn]; exact (h.take n).trimL
theorem NoU.after {c d : UInt8} (hd : d ≠ 92) : ∀ {s : Str}, NoU c s → NoU c (s.drop (nextU d s + 1))
  | [], h => by simpa using h
  | [x], h => by simp only [nextU]; split <;> simp [NoU]
  | x :: y :: r, h => by
    simp only [nextU]; by_cases h1 : x = d
    · rw [if_pos h1]; exact h.tail (by rw [h1]; exact hd)
    · rw [if_neg h1]; simp only [NoU] at h; by_cases h2 : x = 92
      · rw [if_pos h2] at h ⊢; have e : 2 + nextU d r + 1 = (nextU d r + 1) + 2 := (by omega); rw [e]; exact NoU.after hd h.2
      · rw [if_neg h2] at h ⊢; have e : 1 + nextU d (y :: r) + 1 = (nextU d (y :: r) + 1) + 1 := (by omega); rw [e]; exact NoU.after hd h.2
theorem NoU.before {c : UInt8} : ∀ {s : Str}, NoU c (s.take (nextU c s))
  | [] => by simp [NoU]
  | [x] => by
    simp only [nextU]; split
    · simp [NoU]
    · rename_i h; simpa [NoU] using h
  | x :: y :: r => by
    simp only [nextU]; by_cases h1 : x = c
    · simp [h1, NoU]
    · rw [if_neg h1]; by_cases h2 : x = 92
      · rw [if_pos h2]; have e : 2 + nextU c r = nextU c r + 2 := (by omega); rw [e]; refine ⟨h1, ?_⟩; rw [if_pos h2]; exact NoU.before
      · rw [if_neg h2]; have ih := NoU.before (c := c) (s := y :: r); have e : 1 + nextU c (y :: r) = nextU c (y :: r) + 1 := (by omega); rw [e, List.take_succ_cons]; generalize List.take (nextU c (y :: r)) (y :: r) = t at *; cases t with
        | nil => exact h1
        | cons z t => exact ⟨h1, by rw [if_neg h2]; exact ih⟩
theorem pieces_no : ∀ (n : Nat) (s : Str), s.length ≤ n → ∀ p ∈ piecesU s, NoU 44 p := by
  intro n
  induction n with
  | zero =>
    intro s hn p hp; have : s = [] := List.length_eq_zero_iff.1 (by omega); subst this; rw [piecesU_end (by simp)] at hp; simp at hp; subst hp; simp [NoU]
  | succ n ih =>
    intro s hn p hp; by_cases h : nextU 44 s < s.length
    · rw [piecesU_at h] at hp; rcases List.mem_cons.1 hp with rfl | hp
      · exact NoU.before
      · exact ih _ (by simp only [List.length_drop]; omega) p hp
    · rw [piecesU_end h] at hp; have : p = s := (by simpa using hp); subst this; have h2 := NoU.before (c := 44) (s := p)
      rwa [ttl (by omega)] at h2
abbrev Pair := Str × Str
def pairD (p : Pair) : D := .agg [.str p.1, .str p.2]
def pairs (l : List Pair) : D := .sl (l.map pairD)
def compU (s : Str) : Pair × Int :=
  if nextU 61 s < s.length then
    (match valueU (trimB (s.drop (nextU 61 s + 1))) with
     | none => (([], []), 4)
     | some v => if nameB (trimB (s.take (nextU 61 s))) = false then (([], []), 5) else if cleanB v = false then (([], []), 8) else ((trimB (s.take (nextU 61 s)), v), 0))
  else (([], []), 4)
def compsU (out : List Pair) : List Str → List Pair × Int
  | [] => if 8 < out.length then ([], 3) else (out, 0)
  | p :: ps => if (compU p).2 = 0 then compsU (out ++ [(compU p).1]) ps else ([], (compU p).2)
def parseU (s : Str) : List Pair × Int := if s = [] then ([], 0) else compsU [] (piecesU s)
def sqz (prev : UInt8) : Str → Str
  | [] => []
  | x :: r => if x = 32 ∧ prev = 32 then sqz x r else x :: sqz x r
def foldS (s : Str) : Str := sqz 0 (lower (trimB s))
def escV (s : Str) : Str := s.flatMap fun c => if specB c = true then [92, c] else [c]
def fmtC (p : Pair) : Str := lower p.1 ++ 61 :: escV (foldS p.2)
def pairE (p : Pair) : Int := if nameB p.1 = false then 5 else if cleanB p.2 = false then 8 else 0
def pairsE : List Pair → Int
  | [] => 0
  | p :: l => if pairE p = 0 then pairsE l else pairE p
def checkU (l : List Pair) : Int := if pairsE l = 0 then (if 8 < l.length then 3 else 0) else pairsE l
def formatU (l : List Pair) : Str × Int := if checkU l = 0 then (joinB 44 (l.map fmtC), 0) else ([], checkU l)
def normU (s : Str) : Option (List Pair) := if (parseU s).2 = 0 ∧ formatU (parseU s).1 = (s, 0) then some (parseU s).1 else none
def validU (s : Str) : Bool := (normU s).isSome
def CU : Str → Prop
  | [] => True
  | [x] => x ≠ 92 ∧ x ≠ 44
  | x :: y :: r => x ≠ 44 ∧ if x = 92 then CU r else CU (y :: r)
theorem CU.next : ∀ {p : Str}, CU p → ∀ (r : Str), nextU 44 (p ++ 44 :: r) = p.length
  | [], _, r => by cases r <;> simp [nextU]
  | [x], h, r => by
    simp only [CU] at h; have i := CU.next (p := []) trivial r; simp only [List.nil_append] at i; simp [nextU, h.1, h.2, i]
  | x :: y :: t, h, r => by
    simp only [CU] at h; by_cases h2 : x = 92
    · rw [if_pos h2] at h; have i := CU.next h.2 r; simp only [List.cons_append, nextU, if_neg h.1, if_pos h2, i, List.length_cons]; omega
    · rw [if_neg h2] at h; have i := CU.next h.2 r; simp only [List.cons_append] at i; simp only [List.cons_append, nextU, if_neg h.1, if_neg h2, i, List.length_cons]; omega
theorem CU.all : ∀ {p : Str}, CU p → nextU 44 p = p.length
  | [], _ => by simp [nextU]
  | [x], h => by simp only [CU] at h; simp [nextU, h.2]
  | x :: y :: t, h => by
    simp only [CU] at h; by_cases h2 : x = 92
    · rw [if_pos h2] at h; have i := CU.all h.2; simp only [nextU, if_neg h.1, if_pos h2, i, List.length_cons]; omega
    · rw [if_neg h2] at h; have i := CU.all h.2; simp only [nextU, if_neg h.1, if_neg h2, i, List.length_cons]; omega
theorem CU.cons {x : UInt8} {s : Str} (h1 : x ≠ 92) (h2 : x ≠ 44) (h : CU s) : CU (x :: s) := by
  cases s with
  | nil => exact ⟨h1, h2⟩
  | cons y r => exact ⟨h2, by rw [if_neg h1]; exact h⟩
theorem CU.esc {y : UInt8} {s : Str} (h : CU s) : CU (92 :: y :: s) := ⟨by decide, by rw [if_pos rfl]; exact h⟩
theorem CU.escV : ∀ (s : Str), CU (escV s)
  | [] => trivial
  | c :: s => by
    have ih := CU.escV s; have e : Tz.escV (c :: s) = (if specB c = true then [92, c] else [c]) ++ Tz.escV s := (by simp [Tz.escV]); rw [e]; by_cases h : specB c = true
    · rw [if_pos h]; exact ih.esc
    · rw [if_neg h]; refine ih.cons ?_ ?_
      · rintro rfl; exact h (by decide)
      · rintro rfl; exact h (by decide)
theorem CU.pre : ∀ {a : Str} {b : Str}, (∀ x ∈ a, x ≠ 92 ∧ x ≠ 44) → CU b → CU (a ++ b)
  | [], b, _, h => h
  | x :: a, b, hx, h => CU.cons (hx x (by simp)).1 (hx x (by simp)).2 (CU.pre (fun y hy => hx y (by simp [hy])) h)
theorem nameC_ok {c : UInt8} (h : nameC c = true) : c ≠ 92 ∧ c ≠ 44 ∧ c ≠ 61 := by
  refine ⟨?_, ?_, ?_⟩ <;> (rintro rfl; revert h; decide)
theorem lowc_name {c : UInt8} (h : nameC c = true) : nameC (lowc c) = true := by
  by_cases h1 : 65 ≤ (c.toNat : Int) ∧ (c.toNat : Int) ≤ 90
  · have := lowc_toNat c h1.1 h1.2; simp only [nameC, isLetter, Bool.or_eq_true, Bool.and_eq_true, decide_eq_true_eq]
    left; left; left
    omega
  · rw [lowc, if_neg h1]; exact h
theorem fmtC_cu {p : Pair} (h : nameB p.1 = true) : CU (fmtC p) := by
  refine CU.pre (fun x hx => ?_) ((CU.escV _).cons (by decide) (by decide)); simp only [lower, List.mem_map] at hx; obtain ⟨c, hc, rfl⟩ := hx; simp only [nameB, Bool.and_eq_true, List.all_eq_true] at h; have := nameC_ok (lowc_name (h.2 c hc)); exact ⟨this.1, this.2.1⟩
theorem fmtC_ne (p : Pair) : fmtC p ≠ [] := by simp [fmtC]
theorem pieces_join : ∀ {l : List Str}, l ≠ [] → (∀ p ∈ l, CU p) → piecesU (joinB 44 l) = l
  | [], h, _ => absurd rfl h
  | [p], _, h => by
    simp only [joinB]; exact piecesU_end (by rw [(h p (by simp)).all]; omega)
  | p :: q :: l, _, h => by
    have hp := h p (by simp); have ih := pieces_join (l := q :: l) (by simp) (fun x hx => h x (by simp at hx ⊢; right; exact hx)); have e : joinB 44 (p :: q :: l) = p ++ 44 :: joinB 44 (q :: l) := rfl; have hn := hp.next (joinB 44 (q :: l)); rw [e, piecesU_at (by rw [hn]; simp), hn]; have e1 : List.take p.length (p ++ 44 :: joinB 44 (q :: l)) = p := (by simp); have e2 : List.drop (p.length + 1) (p ++ 44 :: joinB 44 (q :: l)) = joinB 44 (q :: l) := by rw [← List.drop_drop]; simp
    rw [e1, e2, ih]
theorem joinB_ne {l : List Str} (h : l ≠ []) (hn : ∀ p ∈ l, p ≠ []) : joinB 44 l ≠ [] := by
  match l, h with
  | [p], _ => exact hn p (by simp)
  | p :: q :: l, _ => simp [joinB]
def NP (p : Pair) : Prop := compU (fmtC p) = (p, 0)
theorem compU_ok {s : Str} {p : Pair} (h : compU s = (p, 0)) : nameB p.1 = true ∧ cleanB p.2 = true := by
  unfold compU at h; split at h
  · split at h
    · simp at h
    · split at h
      · simp at h
      · split at h
        · simp at h
        · rename_i h1 h2
          simp only [Prod.mk.injEq, and_true] at h; obtain ⟨rfl⟩ := h; exact ⟨by simpa using h1, by simpa using h2⟩
  · simp at h
theorem NP.pairE {p : Pair} (h : NP p) : pairE p = 0 := by
  have := compU_ok h; simp [Tz.pairE, this.1, this.2]
theorem pairsE_zero {l : List Pair} : pairsE l = 0 ↔ ∀ p ∈ l, pairE p = 0 := by
  induction l with
  | nil => simp [pairsE]
  | cons p l ih =>
    simp only [pairsE, List.mem_cons, forall_eq_or_imp]; by_cases h : pairE p = 0
    · simp [h, ih]
    · simp [h]
theorem compsU_all : ∀ {ps : List Str} {qs out : List Pair}, ps.length = qs.length → (∀ i (h1 : i < ps.length) (h2 : i < qs.length), compU ps[i] = (qs[i], 0)) → compsU out ps = if 8 < (out ++ qs).length then ([], 3) else (out ++ qs, 0)
  | [], [], out, _, _ => by simp [compsU]
  | p :: ps, q :: qs, out, hl, h => by
    have h0 := h 0 (by simp) (by simp); simp only [List.getElem_cons_zero] at h0; have ih := compsU_all (ps := ps) (qs := qs) (out := out ++ [q]) (by simpa using hl) (fun i h1 h2 => by
      have := h (i + 1) (by simpa using h1) (by simpa using h2); simpa using this)
    simp only [compsU, h0, if_true, ih, List.append_assoc, List.singleton_append]
  | [], _ :: _, _, hl, _ => by simp at hl
  | _ :: _, [], _, hl, _ => by simp at hl
theorem compsU_inv : ∀ {ps : List Str} {out r : List Pair}, compsU out ps = (r, 0) → ∃ qs, r = out ++ qs ∧ ps.length = qs.length ∧ r.length ≤ 8 ∧ ∀ i (h1 : i < ps.length) (h2 : i < qs.length), compU ps[i] = (qs[i], 0)
  | [], out, r, h => by
    simp only [compsU] at h; split at h
    · simp at h
    · rename_i h8
      simp only [Prod.mk.injEq, and_true] at h; subst h; exact ⟨[], by simp, rfl, by omega, fun i h1 => by simp at h1⟩
  | p :: ps, out, r, h => by
    simp only [compsU] at h; split at h
    · rename_i h0
      obtain ⟨qs, hr, hl, h8, hq⟩ := compsU_inv h; refine ⟨(compU p).1 :: qs, by rw [hr]; simp, by simp [hl], h8, fun i h1 h2 => ?_⟩; cases i with
      | zero => simp only [List.getElem_cons_zero]; rw [← h0]
      | succ i => simpa using hq i (by simpa using h1) (by simpa using h2)
    · rename_i h0
      simp only [Prod.mk.injEq] at h; exact absurd h.2 h0
theorem normU_of {l : List Pair} (hn : ∀ p ∈ l, NP p) (h8 : l.length ≤ 8) : formatU l = (joinB 44 (l.map fmtC), 0) ∧ normU (joinB 44 (l.map fmtC)) = some l := by
  have hE : pairsE l = 0 := pairsE_zero.2 fun p hp => (hn p hp).pairE
  have hf : formatU l = (joinB 44 (l.map fmtC), 0) := by
    have hc : checkU l = 0 := by rw [checkU, if_pos hE, if_neg (by omega)]
    rw [formatU, if_pos hc]
  have hp : parseU (joinB 44 (l.map fmtC)) = (l, 0) := by
    unfold parseU; by_cases h : l = []
    · subst h; rfl
    · rw [if_neg (joinB_ne (by simpa using h) (by simp only [List.mem_map]; rintro _ ⟨p, _, rfl⟩; exact fmtC_ne p)), pieces_join (by simpa using h) (by simp only [List.mem_map]; rintro _ ⟨p, hp, rfl⟩; exact fmtC_cu (compU_ok (hn p hp)).1)]; rw [compsU_all (qs := l) (by simp) (fun i h1 h2 => by rw [List.getElem_map]; exact hn l[i] (gmm h2))]; simp only [List.nil_append]; rw [if_neg (by omega)]
  exact ⟨hf, by rw [normU, hp, if_pos ⟨rfl, hf⟩]⟩
theorem normU_inv {s : Str} {l : List Pair} (h : normU s = some l) : (∀ p ∈ l, NP p) ∧ l.length ≤ 8 ∧ s = joinB 44 (l.map fmtC) ∧ parseU s = (l, 0) ∧ formatU l = (s, 0) := by
  unfold normU at h; split at h
  · rename_i hh
    obtain ⟨h0, hf⟩ := hh; simp only [Option.some.injEq] at h; subst h; have hs : s = joinB 44 ((parseU s).1.map fmtC) := by
      unfold formatU at hf; split at hf
      · simp only [Prod.mk.injEq, and_true] at hf; exact hf.symm
      · rename_i hc
        simp only [Prod.mk.injEq] at hf; exact absurd hf.2 hc
    have hchk : pairsE (parseU s).1 = 0 ∧ (parseU s).1.length ≤ 8 := by
      unfold formatU at hf; split at hf
      · rename_i hc
        unfold checkU at hc; split at hc
        · rename_i he
          split at hc
          · simp at hc
          · exact ⟨he, by omega⟩
        · rename_i he; exact absurd hc he
      · rename_i hc
        simp only [Prod.mk.injEq] at hf; exact absurd hf.2 hc
    have hP : parseU s = ((parseU s).1, 0) := by rw [← h0]
    refine ⟨fun p hp => ?_, hchk.2, hs, hP, hf⟩; generalize hl : (parseU s).1 = l at *; by_cases hnil : l = []
    · subst hnil; simp at hp
    · have hnm : ∀ q ∈ l, nameB q.1 = true := fun q hq => by
        have := (pairsE_zero.1 hchk.1) q hq; unfold pairE at this; split at this
        · simp at this
        · rename_i h1; simpa using h1
      have hsn : s ≠ [] := by
        rw [hs]; exact joinB_ne (by simpa using hnil) (by simp only [List.mem_map]; rintro _ ⟨p, _, rfl⟩; exact fmtC_ne p)
      have hpc : piecesU s = l.map fmtC := by
        rw [hs]; exact pieces_join (by simpa using hnil) (by simp only [List.mem_map]; rintro _ ⟨q, hq, rfl⟩; exact fmtC_cu (hnm q hq))
      rw [parseU, if_neg hsn, hpc] at hP; obtain ⟨qs, hr, hlen, _, hq⟩ := compsU_inv hP; simp only [List.nil_append] at hr; subst hr; obtain ⟨i, hi, rfl⟩ := List.getElem_of_mem hp; have := hq i (by simpa using hi) hi; rw [List.getElem_map] at this; exact this
  · cases h
theorem normU_inj {s t : Str} {l : List Pair} (h1 : normU s = some l) (h2 : normU t = some l) : s = t := by rw [(normU_inv h1).2.2.1, (normU_inv h2).2.2.1]
theorem normU_app {s t : Str} {l m : List Pair} (h1 : normU s = some l) (h2 : normU t = some m) {n : List Pair} (hn : ∀ p ∈ n, p ∈ l ∨ p ∈ m) (h8 : n.length ≤ 8) : formatU n = (joinB 44 (n.map fmtC), 0) ∧ normU (joinB 44 (n.map fmtC)) = some n :=
  normU_of (fun p hp => by
    rcases hn p hp with h | h
    · exact (normU_inv h1).1 p h
    · exact (normU_inv h2).1 p h) h8
def underU (s base : Str) : Bool := match normU s, normU base with
  | some l, some m => decide (m.length ≤ l.length) && decide (l.drop (l.length - m.length) = m)
  | _, _ => false
theorem under_fmt {s base : Str} {l m : List Pair} (h1 : normU s = some l) (h2 : normU base = some m) (hle : m.length ≤ l.length) : (formatU (l.drop (l.length - m.length))).1 = base ↔ l.drop (l.length - m.length) = m := by
  have ha := normU_app h1 h1 (n := l.drop (l.length - m.length)) (fun p hp => .inl (List.mem_of_mem_drop hp)) (by have := (normU_inv h1).2.1; simp; omega); have hb := normU_inv h2; constructor
  · intro h; rw [ha.1] at h; simp only at h; have h3 := ha.2; rw [h, h2] at h3; exact (Option.some.inj h3).symm
  · intro h; rw [h, hb.2.2.2.2]
def depthU (s : Str) : Nat := ((normU s).getD []).length
end Go.Proofs.Tz