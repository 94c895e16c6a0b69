/-
  What the functions that the statements about merged states reach compute, part 1 of 6, for data of bounded size (each theorem states its bound).
-/import Derived.Test.YtnknfnfinhagoaaGreatDoorWc
import Derived.Test.YtnknfnfinhagoaaGreatDoorProg
import Derived.KernelRfl
import Derived.WalkKit
import Derived.Lib.Builder
import Derived.Lib.UnsafeStr
import Derived.Laws.Externs
import Derived.RegionTactic
import Derived.Lib.Bytealg
import Derived.Lib.Join
open List
open Go.Proofs.Tryz
set_option linter.unusedSimpArgs false
set_option linter.unusedVariables false
namespace Go.Proofs
open Go.Vw
@[simp] theorem Tryz.ez_1 : esz prog 1 = some (1, 8) ∧ D2 prog 1 = some 1 ∧ tyk prog 1 = some (false, 1) ∧ D4 prog 1 = some (.raw .nilFunc) := by and_intros <;> kernel_rfl
@[simp] theorem Tryz.u_2 : Program.underlying prog 2 = some (.int .i64) ∧ H1 prog 2 = none ∧ esz prog 2 = some (1, 8) ∧ D2 prog 2 = some 1 ∧ tyk prog 2 = some (false, 1) ∧ D4 prog 2 = some (.int .i64 0) := by and_intros <;> kernel_rfl
@[simp] theorem Tryz.u_3 : Program.underlying prog 3 = some (.int .i64) ∧ H1 prog 3 = none ∧ esz prog 3 = some (1, 8) ∧ D2 prog 3 = some 1 ∧ tyk prog 3 = some (false, 1) ∧ D4 prog 3 = some (.int .i64 0) := by and_intros <;> kernel_rfl
@[simp] theorem Tryz.u_4 : Program.underlying prog 4 = some .bool ∧ H1 prog 4 = none ∧ esz prog 4 = some (1, 1) ∧ D2 prog 4 = some 1 ∧ tyk prog 4 = some (false, 1) := by and_intros <;> kernel_rfl
@[simp] theorem Tryz.zd_4 : D4 prog 4 = some (.bool false) := by kernel_rfl
@[simp] theorem Tryz.u_5 : Program.underlying prog 5 = some (.int .u8) ∧ H1 prog 5 = none ∧ esz prog 5 = some (1, 1) ∧ D2 prog 5 = some 1 ∧ tyk prog 5 = some (false, 1) ∧ D4 prog 5 = some (.int .u8 0) := by and_intros <;> kernel_rfl
@[simp] theorem Tryz.u_9 : Program.underlying prog 9 = some .string ∧ H1 prog 9 = none ∧ esz prog 9 = some (1, 16) := by and_intros <;> kernel_rfl
@[simp] theorem Tryz.sz_9 : D2 prog 9 = some 1 := by kernel_rfl
@[simp] theorem Tryz.tk_9 : tyk prog 9 = some (false, 1) := by kernel_rfl
@[simp] theorem Tryz.zd_9 : D4 prog 9 = some (.str []) := by kernel_rfl
@[simp] theorem Tryz.u_12 : Program.underlying prog 12 = some (.int .u64) ∧ H1 prog 12 = none ∧ esz prog 12 = some (1, 8) ∧ D2 prog 12 = some 1 ∧ tyk prog 12 = some (false, 1) ∧ D4 prog 12 = some (.int .u64 0) := by and_intros <;> kernel_rfl
@[simp] theorem Tryz.ez_13 : esz prog 13 = some (2, 24) ∧ D2 prog 13 = some 2 ∧ tyk prog 13 = some (true, 2) ∧ D4 prog 13 = some (.agg [.str [], .int .u64 0]) ∧ T7 prog 13 = some [.str [], .int .u64 0] := by and_intros <;> kernel_rfl
@[simp] theorem Tryz.fo_13_0 : E5 prog 13 0 = some 0 := by kernel_rfl
@[simp] theorem Tryz.fo_13_1 : E5 prog 13 1 = some 1 := by kernel_rfl
@[simp] theorem Tryz.u_21 : Program.underlying prog 21 = some (.int .i32) ∧ H1 prog 21 = none ∧ esz prog 21 = some (1, 4) ∧ D2 prog 21 = some 1 ∧ tyk prog 21 = some (false, 1) ∧ D4 prog 21 = some (.int .i32 0) := by and_intros <;> kernel_rfl
@[simp] theorem Tryz.u_22 : Program.underlying prog 22 = some (.slice 35) ∧ H1 prog 22 = some 35 ∧ esz prog 22 = some (1, 24) ∧ D2 prog 22 = some 1 ∧ tyk prog 22 = some (false, 1) ∧ D4 prog 22 = some (.sl []) := by and_intros <;> kernel_rfl
@[simp] theorem Tryz.u_25 : Program.underlying prog 25 = some (.pointer 65) ∧ esz prog 25 = some (1, 8) ∧ D2 prog 25 = some 1 ∧ tyk prog 25 = some (false, 1) ∧ D4 prog 25 = some (.nilp) := by and_intros <;> kernel_rfl
@[simp] theorem Tryz.u_29 : Program.underlying prog 29 = some (.int .i64) ∧ H1 prog 29 = none ∧ esz prog 29 = some (1, 8) ∧ D2 prog 29 = some 1 ∧ tyk prog 29 = some (false, 1) ∧ D4 prog 29 = some (.int .i64 0) := by and_intros <;> kernel_rfl
@[simp] theorem Tryz.ez_32 : esz prog 32 = some (3, 24) ∧ D2 prog 32 = some 3 ∧ tyk prog 32 = some (true, 3) ∧ D4 prog 32 = some (.agg [.int .i64 0, .int .i64 0, .int .i64 0]) ∧ T7 prog 32 = some [.int .i64 0, .int .i64 0, .int .i64 0] := by and_intros <;> kernel_rfl
@[simp] theorem Tryz.fo_32_0 : E5 prog 32 0 = some 0 := by kernel_rfl
@[simp] theorem Tryz.fo_32_1 : E5 prog 32 1 = some 1 := by kernel_rfl
@[simp] theorem Tryz.fo_32_2 : E5 prog 32 2 = some 2 := by kernel_rfl
@[simp] theorem Tryz.u_33 : Program.underlying prog 33 = some (.int .i64) ∧ H1 prog 33 = none ∧ esz prog 33 = some (1, 8) ∧ D2 prog 33 = some 1 ∧ tyk prog 33 = some (false, 1) ∧ D4 prog 33 = some (.int .i64 0) := by and_intros <;> kernel_rfl
@[simp] theorem Tryz.ez_35 : esz prog 35 = some (8, 96) ∧ D2 prog 35 = some 8 ∧ tyk prog 35 = some (true, 8) := by and_intros <;> kernel_rfl
@[simp] theorem Tryz.zd_35 : D4 prog 35 = some (.agg [.agg [.int .i64 0, .int .i64 0, .int .i64 0], .int .i64 0, .str [], .str [], .str [], .str []]) := by kernel_rfl
@[simp] theorem Tryz.sd_35 : T7 prog 35 = some [.agg [.int .i64 0, .int .i64 0, .int .i64 0], .int .i64 0, .str [], .str [], .str [], .str []] := by kernel_rfl
@[simp] theorem Tryz.fo_35_0 : E5 prog 35 0 = some 0 := by kernel_rfl
@[simp] theorem Tryz.fo_35_1 : E5 prog 35 1 = some 3 := by kernel_rfl
@[simp] theorem Tryz.fo_35_2 : E5 prog 35 2 = some 4 := by kernel_rfl
@[simp] theorem Tryz.fo_35_3 : E5 prog 35 3 = some 5 := by kernel_rfl
@[simp] theorem Tryz.fo_35_4 : E5 prog 35 4 = some 6 := by kernel_rfl
@[simp] theorem Tryz.fo_35_5 : E5 prog 35 5 = some 7 := by kernel_rfl
@[simp] theorem Tryz.u_43 : Program.underlying prog 43 = some (.slice 9) ∧ H1 prog 43 = some 9 ∧ esz prog 43 = some (1, 24) ∧ D2 prog 43 = some 1 ∧ tyk prog 43 = some (false, 1) ∧ D4 prog 43 = some (.sl []) := by and_intros <;> kernel_rfl
@[simp] theorem Tryz.ez_44 : esz prog 44 = some (1, 8) ∧ D2 prog 44 = some 1 ∧ tyk prog 44 = some (false, 1) ∧ D4 prog 44 = some (.raw .nilFunc) := by and_intros <;> kernel_rfl
@[simp] theorem Tryz.ez_45 : esz prog 45 = some (1, 8) ∧ D2 prog 45 = some 1 ∧ tyk prog 45 = some (false, 1) ∧ D4 prog 45 = some (.raw .nilFunc) := by and_intros <;> kernel_rfl
@[simp] theorem Tryz.u_46 : Program.underlying prog 46 = some (.slice 72) ∧ H1 prog 46 = some 72 ∧ esz prog 46 = some (1, 24) ∧ D2 prog 46 = some 1 ∧ tyk prog 46 = some (false, 1) ∧ D4 prog 46 = some (.sl []) := by and_intros <;> kernel_rfl
@[simp] theorem Tryz.ez_48 : esz prog 48 = some (2, 40) ∧ D2 prog 48 = some 2 ∧ tyk prog 48 = some (true, 2) ∧ D4 prog 48 = some (.agg [.str [], .sl []]) ∧ T7 prog 48 = some [.str [], .sl []] := by and_intros <;> kernel_rfl
@[simp] theorem Tryz.fo_48_0 : E5 prog 48 0 = some 0 := by kernel_rfl
@[simp] theorem Tryz.fo_48_1 : E5 prog 48 1 = some 1 := by kernel_rfl
@[simp] theorem Tryz.ez_50 : esz prog 50 = some (1, 8) ∧ D2 prog 50 = some 1 ∧ tyk prog 50 = some (false, 1) ∧ D4 prog 50 = some (.raw .nilFunc) := by and_intros <;> kernel_rfl
@[simp] theorem Tryz.u_56 : Program.underlying prog 56 = some (.slice 48) ∧ H1 prog 56 = some 48 ∧ esz prog 56 = some (1, 24) ∧ D2 prog 56 = some 1 ∧ tyk prog 56 = some (false, 1) ∧ D4 prog 56 = some (.sl []) := by and_intros <;> kernel_rfl
@[simp] theorem Tryz.ez_57 : esz prog 57 = some (1, 8) ∧ D2 prog 57 = some 1 ∧ tyk prog 57 = some (false, 1) ∧ D4 prog 57 = some (.raw .nilFunc) := by and_intros <;> kernel_rfl
@[simp] theorem Tryz.ez_61 : esz prog 61 = some (1, 8) ∧ D2 prog 61 = some 1 ∧ tyk prog 61 = some (false, 1) ∧ D4 prog 61 = some (.raw .nilFunc) := by and_intros <;> kernel_rfl
@[simp] theorem Tryz.ez_62 : esz prog 62 = some (1, 8) ∧ D2 prog 62 = some 1 ∧ tyk prog 62 = some (false, 1) ∧ D4 prog 62 = some (.raw (.map none)) := by and_intros <;> kernel_rfl
@[simp] theorem Tryz.ez_63 : esz prog 63 = some (1, 8) ∧ D2 prog 63 = some 1 ∧ tyk prog 63 = some (false, 1) ∧ D4 prog 63 = some (.raw (.map none)) := by and_intros <;> kernel_rfl
@[simp] theorem Tryz.ez_64 : esz prog 64 = some (2, 16) ∧ D2 prog 64 = some 2 ∧ tyk prog 64 = some (true, 2) ∧ D4 prog 64 = some (.agg [.raw (.map none), .raw (.map none)]) ∧ T7 prog 64 = some [.raw (.map none), .raw (.map none)] := by and_intros <;> kernel_rfl
@[simp] theorem Tryz.fo_64_0 : E5 prog 64 0 = some 0 := by kernel_rfl
@[simp] theorem Tryz.fo_64_1 : E5 prog 64 1 = some 1 := by kernel_rfl
@[simp] theorem Tryz.ez_65 : esz prog 65 = some (2, 16) ∧ D2 prog 65 = some 2 ∧ tyk prog 65 = some (true, 2) ∧ D4 prog 65 = some (.agg [.raw (.map none), .raw (.map none)]) ∧ T7 prog 65 = some [.raw (.map none), .raw (.map none)] := by and_intros <;> kernel_rfl
@[simp] theorem Tryz.fo_65_0 : E5 prog 65 0 = some 0 := by kernel_rfl
@[simp] theorem Tryz.fo_65_1 : E5 prog 65 1 = some 1 := by kernel_rfl
@[simp] theorem Tryz.u_66 : Program.underlying prog 66 = some (.slice 5) ∧ H1 prog 66 = some 5 ∧ esz prog 66 = some (1, 24) ∧ D2 prog 66 = some 1 ∧ tyk prog 66 = some (false, 1) ∧ D4 prog 66 = some (.sl []) := by and_intros <;> kernel_rfl
@[simp] theorem Tryz.ez_72 : esz prog 72 = some (2, 40) := by kernel_rfl
@[simp] theorem Tryz.sz_72 : D2 prog 72 = some 2 := by kernel_rfl
@[simp] theorem Tryz.tk_72 : tyk prog 72 = some (true, 2) ∧ D4 prog 72 = some (.agg [.str [], .sl []]) ∧ T7 prog 72 = some [.str [], .sl []] := by and_intros <;> kernel_rfl
@[simp] theorem Tryz.fo_72_0 : E5 prog 72 0 = some 0 := by kernel_rfl
@[simp] theorem Tryz.fo_72_1 : E5 prog 72 1 = some 1 := by kernel_rfl
@[simp] theorem Tryz.u_75 : Program.underlying prog 75 = some (.pointer 78) ∧ esz prog 75 = some (1, 8) ∧ D2 prog 75 = some 1 ∧ tyk prog 75 = some (false, 1) := by and_intros <;> kernel_rfl
@[simp] theorem Tryz.zd_75 : D4 prog 75 = some (.nilp) := by kernel_rfl
@[simp] theorem Tryz.ez_76 : esz prog 76 = some (1, 8) ∧ D2 prog 76 = some 1 ∧ tyk prog 76 = some (false, 1) ∧ D4 prog 76 = some (.raw (.map none)) := by and_intros <;> kernel_rfl
@[simp] theorem Tryz.ez_78 : esz prog 78 = some (11, 112) ∧ D2 prog 78 = some 11 ∧ tyk prog 78 = some (true, 11) ∧ D4 prog 78 = some (.agg [.bool false, .bool false, .agg [.agg [.int .i64 0, .int .i64 0, .int .i64 0], .int .i64 0, .str [], .str [], .str [], .str []], .raw (.map none)]) ∧ T7 prog 78 = some [.bool false, .bool false, .agg [.agg [.int .i64 0, .int .i64 0, .int .i64 0], .int .i64 0, .str [], .str [], .str [], .str []], .raw (.map none)] := by and_intros <;> kernel_rfl
@[simp] theorem Tryz.fo_78_0 : E5 prog 78 0 = some 0 := by kernel_rfl
@[simp] theorem Tryz.fo_78_1 : E5 prog 78 1 = some 1 := by kernel_rfl
@[simp] theorem Tryz.fo_78_2 : E5 prog 78 2 = some 2 := by kernel_rfl
@[simp] theorem Tryz.fo_78_3 : E5 prog 78 3 = some 10 := by kernel_rfl
@[simp] theorem Tryz.ez_80 : esz prog 80 = some (1, 8) ∧ D2 prog 80 = some 1 ∧ tyk prog 80 = some (false, 1) ∧ D4 prog 80 = some (.raw (.map none)) := by and_intros <;> kernel_rfl
@[simp] theorem Tryz.ez_89 : esz prog 89 = some (1, 8) ∧ D2 prog 89 = some 1 ∧ tyk prog 89 = some (false, 1) ∧ D4 prog 89 = some (.raw .nilFunc) := by and_intros <;> kernel_rfl
@[simp] theorem Tryz.ez_90 : esz prog 90 = some (1, 8) ∧ D2 prog 90 = some 1 ∧ tyk prog 90 = some (false, 1) ∧ D4 prog 90 = some (.raw .nilFunc) := by and_intros <;> kernel_rfl
@[simp] theorem Tryz.ez_92 : esz prog 92 = some (1, 8) ∧ D2 prog 92 = some 1 ∧ tyk prog 92 = some (false, 1) ∧ D4 prog 92 = some (.raw .nilFunc) := by and_intros <;> kernel_rfl
@[simp] theorem Tryz.ez_95 : esz prog 95 = some (1, 8) ∧ D2 prog 95 = some 1 ∧ tyk prog 95 = some (false, 1) ∧ D4 prog 95 = some (.raw (.map none)) := by and_intros <;> kernel_rfl
@[simp] theorem Tryz.ez_97 : esz prog 97 = some (1, 8) ∧ D2 prog 97 = some 1 ∧ tyk prog 97 = some (false, 1) ∧ D4 prog 97 = some (.raw .nilFunc) := by and_intros <;> kernel_rfl
@[simp] theorem Tryz.ez_100 : esz prog 100 = some (2, 32) ∧ D2 prog 100 = some 2 ∧ tyk prog 100 = some (true, 2) ∧ D4 prog 100 = some (.agg [.str [], .str []]) ∧ T7 prog 100 = some [.str [], .str []] := by and_intros <;> kernel_rfl
@[simp] theorem Tryz.fo_100_0 : E5 prog 100 0 = some 0 := by kernel_rfl
@[simp] theorem Tryz.fo_100_1 : E5 prog 100 1 = some 1 := by kernel_rfl
@[simp] theorem Tryz.ez_101 : esz prog 101 = some (2, 32) ∧ D2 prog 101 = some 2 ∧ tyk prog 101 = some (true, 2) ∧ D4 prog 101 = some (.agg [.str [], .str []]) ∧ T7 prog 101 = some [.str [], .str []] := by and_intros <;> kernel_rfl
@[simp] theorem Tryz.fo_101_0 : E5 prog 101 0 = some 0 := by kernel_rfl
@[simp] theorem Tryz.fo_101_1 : E5 prog 101 1 = some 1 := by kernel_rfl
@[simp] theorem Tryz.ez_106 : esz prog 106 = some (1, 8) ∧ D2 prog 106 = some 1 ∧ tyk prog 106 = some (false, 1) ∧ D4 prog 106 = some (.raw .nilFunc) := by and_intros <;> kernel_rfl
@[simp] theorem Tryz.u_117 : Program.underlying prog 117 = some (.slice 121) ∧ H1 prog 117 = some 121 ∧ esz prog 117 = some (1, 24) ∧ D2 prog 117 = some 1 ∧ tyk prog 117 = some (false, 1) ∧ D4 prog 117 = some (.sl []) := by and_intros <;> kernel_rfl
@[simp] theorem Tryz.ez_121 : esz prog 121 = some (2, 32) ∧ D2 prog 121 = some 2 ∧ tyk prog 121 = some (true, 2) ∧ D4 prog 121 = some (.agg [.str [], .str []]) ∧ T7 prog 121 = some [.str [], .str []] := by and_intros <;> kernel_rfl
@[simp] theorem Tryz.fo_121_0 : E5 prog 121 0 = some 0 := by kernel_rfl
@[simp] theorem Tryz.fo_121_1 : E5 prog 121 1 = some 1 := by kernel_rfl
@[simp] theorem Tryz.ez_122 : esz prog 122 = some (1, 8) ∧ D2 prog 122 = some 1 ∧ tyk prog 122 = some (false, 1) ∧ D4 prog 122 = some (.raw .nilFunc) := by and_intros <;> kernel_rfl
@[simp] theorem Tryz.ez_128 : esz prog 128 = some (1, 8) ∧ D2 prog 128 = some 1 ∧ tyk prog 128 = some (false, 1) ∧ D4 prog 128 = some (.raw .nilFunc) := by and_intros <;> kernel_rfl
@[simp] theorem Tryz.ez_129 : esz prog 129 = some (1, 8) ∧ D2 prog 129 = some 1 ∧ tyk prog 129 = some (false, 1) ∧ D4 prog 129 = some (.raw .nilFunc) := by and_intros <;> kernel_rfl
@[simp] theorem Tryz.u_132 : Program.underlying prog 132 = some (.int .u64) ∧ H1 prog 132 = none ∧ esz prog 132 = some (1, 8) ∧ D2 prog 132 = some 1 ∧ tyk prog 132 = some (false, 1) ∧ D4 prog 132 = some (.int .u64 0) := by and_intros <;> kernel_rfl
@[simp] theorem Tryz.ez_135 : esz prog 135 = some (1, 8) ∧ D2 prog 135 = some 1 ∧ tyk prog 135 = some (false, 1) ∧ D4 prog 135 = some (.raw .nilFunc) := by and_intros <;> kernel_rfl
@[simp] theorem Tryz.ez_136 : esz prog 136 = some (1, 8) ∧ D2 prog 136 = some 1 ∧ tyk prog 136 = some (false, 1) ∧ D4 prog 136 = some (.raw .nilFunc) := by and_intros <;> kernel_rfl
@[simp] theorem Tryz.ez_149 : esz prog 149 = some (1, 8) ∧ D2 prog 149 = some 1 ∧ tyk prog 149 = some (false, 1) ∧ D4 prog 149 = some (.raw .nilFunc) := by and_intros <;> kernel_rfl
@[simp] theorem Tryz.ez_153 : esz prog 153 = some (1, 8) ∧ D2 prog 153 = some 1 ∧ tyk prog 153 = some (false, 1) ∧ D4 prog 153 = some (.raw .nilFunc) := by and_intros <;> kernel_rfl
@[simp] theorem Tryz.u_154 : Program.underlying prog 154 = some (.slice 3) ∧ H1 prog 154 = some 3 ∧ esz prog 154 = some (1, 24) ∧ D2 prog 154 = some 1 ∧ tyk prog 154 = some (false, 1) ∧ D4 prog 154 = some (.sl []) := by and_intros <;> kernel_rfl
@[simp] theorem Tryz.u_166 : Program.underlying prog 166 = some (.int .u32) ∧ H1 prog 166 = none ∧ esz prog 166 = some (1, 4) ∧ D2 prog 166 = some 1 ∧ tyk prog 166 = some (false, 1) ∧ D4 prog 166 = some (.int .u32 0) := by and_intros <;> kernel_rfl
@[simp] theorem Tryz.u_168 : Program.underlying prog 168 = some (.int .u64) ∧ H1 prog 168 = none ∧ esz prog 168 = some (1, 8) ∧ D2 prog 168 = some 1 ∧ tyk prog 168 = some (false, 1) ∧ D4 prog 168 = some (.int .u64 0) := by and_intros <;> kernel_rfl
@[simp] theorem Tryz.ez_171 : esz prog 171 = some (1, 8) ∧ D2 prog 171 = some 1 ∧ tyk prog 171 = some (false, 1) ∧ D4 prog 171 = some (.raw .nilFunc) := by and_intros <;> kernel_rfl
@[simp] theorem Tryz.u_173 : Program.underlying prog 173 = some (.pointer 175) ∧ esz prog 173 = some (1, 8) ∧ D2 prog 173 = some 1 ∧ tyk prog 173 = some (false, 1) ∧ D4 prog 173 = some (.nilp) := by and_intros <;> kernel_rfl
@[simp] theorem Tryz.ez_175 : esz prog 175 = some (2, 32) ∧ D2 prog 175 = some 2 ∧ tyk prog 175 = some (true, 2) ∧ D4 prog 175 = some (.agg [.nilp, .sl []]) ∧ T7 prog 175 = some [.nilp, .sl []] := by and_intros <;> kernel_rfl
@[simp] theorem Tryz.fo_175_0 : E5 prog 175 0 = some 0 := by kernel_rfl
@[simp] theorem Tryz.fo_175_1 : E5 prog 175 1 = some 1 := by kernel_rfl
@[simp] theorem Tryz.u_201 : Program.underlying prog 201 = some (.pointer 3) ∧ esz prog 201 = some (1, 8) ∧ D2 prog 201 = some 1 ∧ tyk prog 201 = some (false, 1) ∧ D4 prog 201 = some (.nilp) := by and_intros <;> kernel_rfl
@[simp] theorem Tryz.u_205 : Program.underlying prog 205 = some (.pointer 5) ∧ esz prog 205 = some (1, 8) ∧ D2 prog 205 = some 1 ∧ tyk prog 205 = some (false, 1) ∧ D4 prog 205 = some (.nilp) := by and_intros <;> kernel_rfl
@[simp] theorem Tryz.eqs_32 : a1T prog 32 = true := by kernel_rfl
@[simp] theorem Tryz.kf_32 (a0 : Int) (a1 : Int) (a2 : Int) : V5 prog (Program.fieldsOf prog 32).toList 0 [.int .i64 a0, .int .i64 a1, .int .i64 a2] = true := by kernel_rfl
@[simp] theorem Tryz.lf_32 (a0 b0 : Int) (a1 b1 : Int) (a2 b2 : Int) : Q2 prog (Program.fieldsOf prog 32).toList 0 [.int .i64 a0, .int .i64 a1, .int .i64 a2] [.int .i64 b0, .int .i64 b1, .int .i64 b2] = true := by kernel_rfl
@[simp] theorem Tryz.eqs_35 : a1T prog 35 = true := by kernel_rfl
@[simp] theorem Tryz.kf_35 (a0_0 : Int) (a0_1 : Int) (a0_2 : Int) (a1 : Int) (a2 : Str) (a3 : Str) (a4 : Str) (a5 : Str) : V5 prog (Program.fieldsOf prog 35).toList 0 [.agg [.int .i64 a0_0, .int .i64 a0_1, .int .i64 a0_2], .int .i64 a1, .str a2, .str a3, .str a4, .str a5] = true := by kernel_rfl
@[simp] theorem Tryz.lf_35 (a0_0 b0_0 : Int) (a0_1 b0_1 : Int) (a0_2 b0_2 : Int) (a1 b1 : Int) (a2 b2 : Str) (a3 b3 : Str) (a4 b4 : Str) (a5 b5 : Str) : Q2 prog (Program.fieldsOf prog 35).toList 0 [.agg [.int .i64 a0_0, .int .i64 a0_1, .int .i64 a0_2], .int .i64 a1, .str a2, .str a3, .str a4, .str a5] [.agg [.int .i64 b0_0, .int .i64 b0_1, .int .i64 b0_2], .int .i64 b1, .str b2, .str b3, .str b4, .str b5] = true := by kernel_rfl
@[simp] theorem Tryz.eqs_101 : a1T prog 101 = true := by kernel_rfl
@[simp] theorem Tryz.kf_101 (a0 : Str) (a1 : Str) : V5 prog (Program.fieldsOf prog 101).toList 0 [.str a0, .str a1] = true := by kernel_rfl
@[simp] theorem Tryz.lf_101 (a0 b0 : Str) (a1 b1 : Str) : Q2 prog (Program.fieldsOf prog 101).toList 0 [.str a0, .str a1] [.str b0, .str b1] = true := by kernel_rfl
@[simp] theorem Tryz.eqs_121 : a1T prog 121 = true := by kernel_rfl
@[simp] theorem Tryz.kf_121 (a0 : Str) (a1 : Str) : V5 prog (Program.fieldsOf prog 121).toList 0 [.str a0, .str a1] = true := by kernel_rfl
@[simp] theorem Tryz.lf_121 (a0 b0 : Str) (a1 b1 : Str) : Q2 prog (Program.fieldsOf prog 121).toList 0 [.str a0, .str a1] [.str b0, .str b1] = true := by kernel_rfl
end Go.Proofs
namespace Go.Proofs.Tz
open Go.Vw Go.RowKit Go.Proofs
theorem nbl {a b : Nat} (h : Nat.ble a b = true) : a ≤ b := Nat.le_of_ble_eq_true h
theorem ttl {α : Type} {i : Nat} {l : List α} (h : l.length ≤ i) : l.take i = l := take_of_length_le h
theorem ai {a b : Prop} (h : a) (k : b) : a ∧ b := ⟨h, k⟩
theorem gmm {α : Type} {l : List α} {n : Nat} (h : n < l.length) : l[n] ∈ l := getElem_mem h
theorem fv {f : FuncId} {fn : Func} {c : Code} {args : List AV} {t : Nat} {r : AV} (F : Nat → Bool) (hf : prog.funcs[f]? = some fn) (hk : (!(fn.name == "runtime.NumGoroutine") && a0j F fn.ntmps c) = true) (hb : fn.body = some c) (hres : fn.results = #[.tmp t]) (ha : Nat.ble args.length fn.ntmps = true) (harg : (args.all a6X) = true) (hone : a2K args = true) (h : vwp prog F c (a8n t r) (a1N args)) : Ctr prog f args r :=
 c1q F (by kernel_rfl) hf (by simpa using (Bool.and_eq_true_iff.1 hk).1) hb hres (Nat.le_of_ble_eq_true ha) (Bool.and_eq_true_iff.1 hk).2 harg hone h
theorem b6a : (prog.info? 175).map (·.size) = some 2 := by kernel_rfl
theorem c3O : liesAt prog prog.depth 175 (2 / prog.cellsOf 175) 0 175 1 = true := by kernel_rfl
set_option maxRecDepth 100000 in
set_option maxHeartbeats 1000000 in
theorem c6f (b : Nat) (w : World) (h0 : w.cell? ⟨b, 0, none⟩ = some (.pointer (some ⟨b, 0, none⟩))) :
   Calls prog 206 #[.pointer (some ⟨b, 0, none⟩)] w fun e w' => e = .returned (.tuple #[]) ∧ w' = w := by
 obtain ⟨j, hj, _⟩ := Option.map_eq_some_iff.1 b6a
 go_enter func206, Tryz.ntmps206
 go_wp2
 rw [Lib.run_neq_ptr_same w _ Tryz.underlying173 hj]
 go_wp2
 go_end0
 exact ⟨rfl, rfl⟩
set_option maxRecDepth 100000 in
set_option maxHeartbeats 1000000 in
theorem b5e (b : Nat) (w : World) (h0 : w.cell? ⟨b, 0, none⟩ = some (.pointer none)) (hsh : w.shape? b = some (175, 2)) (hfz : w.frozen? ⟨b, 0, none⟩ = false) :
   Calls prog 206 #[.pointer (some ⟨b, 0, none⟩)] w fun e w' => e = .returned (.tuple #[]) ∧ w' = w.setCell ⟨b, 0, none⟩ (.pointer (some ⟨b, 0, none⟩)) := by
 obtain ⟨j, hj, hjs⟩ := Option.map_eq_some_iff.1 b6a
 go_enter func206, Tryz.ntmps206
 go_wp2
 rw [Lib.run_to_unsafe w ⟨b, 0, none⟩ Tryz.underlying173 Tryz.underlying226 hj (by rw [hjs]; decide) hsh (Nat.zero_lt_succ 1)]; simp only [Result.andThen]; rw [Oper.upon_value]
 go_wp2
 rw [run_callFunc_extern func240 (by kernel_rfl) (by kernel_rfl) (by kernel_rfl) (e := Extern.AbiNoEscape.same) (by kernel_rfl)]; rw [Lib.run_noEscape]; simp only [Result.andThen]; rw [Oper.upon_value]
 go_wp2
 rw [Lib.run_from_unsafe w ⟨b, 0, none⟩ Tryz.underlying226 Tryz.underlying173 hj hsh c3O]; simp only [Result.andThen]; rw [Oper.upon_value]
 go_wp2
 go_end0
 exact ⟨rfl, rfl⟩
abbrev va (b : Nat) : Value := .pointer (some ⟨b, 0, none⟩)
theorem a8L {w : World} {L : Nat → Nat → Prop} {b : Nat} {p : D} {hd : Value} (hp : p = .nilp ∨ p = .raw (va b))
   (h : Y4 w L (some b) 175 (.agg [p, .raw hd]) (va b)) : ∃ pv, w.heap[b]? = some (.cells #[pv, hd] 175 (0, 0)) ∧ (∀ o, ¬ L b o) ∧ hd.oneCell' = true ∧ I4 hd = false ∧ ((p = .nilp ∧ pv = .pointer none) ∨ (p = .raw (va b) ∧ pv = va b)) := by
 obtain ⟨g, C, h1, h2, h3, h4, h5⟩ := h; obtain rfl : b = g := by simpa using h1
 simp only [Rep, A6] at h4; obtain ⟨css, ⟨c, cs, rfl, hc, c2, cs2, rfl, ⟨rfl, h7, h8⟩, rfl⟩, h6⟩ := h4; rcases hp with rfl | rfl
 · simp only [Rep] at hc; subst hc; have : C = #[.pointer none, hd] := by apply Array.ext'; simpa using h6
   subst this; exact ⟨_, h3, h5, h7, h8, .inl ⟨rfl, rfl⟩⟩
 · simp only [Rep] at hc; obtain ⟨rfl, _, _⟩ := hc; have : C = #[va b, hd] := by apply Array.ext'; simpa using h6
   subst this; exact ⟨_, h3, h5, h7, h8, .inr ⟨rfl, rfl⟩⟩
theorem b0S {w : World} {L : Nat → Nat → Prop} {b : Nat} {hd : Value} (h1 : w.heap[b]? = some (.cells #[va b, hd] 175 (0, 0))) (h2 : ∀ o, ¬ L b o) (h3 : hd.oneCell' = true) (h4 : I4 hd = false) :
   RH prog w L (.hb (va b) 175 (.agg [.raw (va b), .raw hd])) := by
 refine ⟨rfl, b, _, rfl, rfl, h1, ?_, h2⟩; simp only [Rep, A6]; exact ⟨[[va b], [hd]], ⟨_, _, rfl, ⟨rfl, rfl, rfl⟩, _, _, rfl, ⟨rfl, h3, h4⟩, rfl⟩, rfl⟩
theorem a8w {b : Nat} {p : D} (hp : p = .nilp ∨ p = .raw (va b)) {hd : Value} :
   F5 prog 206 [.d (.raw (va b))] [.hb (va b) 175 (.agg [p, .raw hd])] (fun r hs' => r = .tup [] ∧ hs' = [.hb (va b) 175 (.agg [.raw (va b), .raw hd])]) := by
 refine ⟨enters_of func206 (by kernel_rfl) rfl, fun w L vals hlok hgl hv hh _ => ?_⟩; obtain ⟨v, us, rfl, hv1, hv2⟩ := hv; obtain rfl : us = [] := hv2; obtain rfl : v = va b := RepV.raw_inv hv1; have hb : Y4 w L (some b) 175 (.agg [p, .raw hd]) (va b) := (hh (.hb (va b) 175 (.agg [p, .raw hd])) (by simp)).2; obtain ⟨pv, e1, e2, e3, e4, e5⟩ := a8L hp hb; have hlt : b < w.heap.size := (Array.getElem?_eq_some_iff.1 e1).1; rcases e5 with ⟨rfl, rfl⟩ | ⟨rfl, rfl⟩
 · refine (b5e b w (by rw [Lib.cell_of_heap e1]; rfl) (by simp [World.shape?, e1]) (Lib.frozen_of_heap e1 0)).mono ?_; rintro e w' ⟨rfl, rfl⟩; have hsz : (w.setCell ⟨b, 0, none⟩ (va b)).heap.size = w.heap.size := (by simp [World.setCell]); refine ⟨_, L, none, .tup [], _, rfl, ⟨rfl, rfl, rfl, Nat.le_of_eq hsz.symm, fun k hk hn => Below.heap_setCell w _ _ k (fun e => hn (by simp [B7, e])), Nat.le_refl _⟩, fun g q hq => by rw [hsz]; exact hlok g q hq, fun _ _ _ _ => Iff.rfl, fun g hg => ?_, ?_, ⟨[], rfl, rfl⟩, fun x hx => ?_, rfl, rfl⟩
   · simp [B7] at hg; subst hg; exact ⟨by rw [hsz]; exact hlt, .inr (by simp [B7])⟩
   · simp [J7, B7]
   · simp at hx; subst hx; refine b0S ?_ e2 e3 e4; simp [World.setCell, Array.getElem?_modify, e1]
 · refine (c6f b w (by rw [Lib.cell_of_heap e1]; rfl)).mono ?_; rintro e w' ⟨rfl, rfl⟩; refine ⟨_, L, none, .tup [], _, rfl, E8.refl _ _, hlok, fun _ _ _ _ => Iff.rfl, fun g hg => ?_, ?_, ⟨[], rfl, rfl⟩, fun x hx => ?_, rfl, rfl⟩
   · simp [B7] at hg; subst hg; exact ⟨hlt, .inr (by simp [B7])⟩
   · simp [J7, B7]
   · simp at hx; subst hx; exact b0S e1 e2 e3 e4
theorem a8I : (prog.info? 5).map (·.size) = some 1 := by kernel_rfl
theorem b9X : prog.cellsOf 5 = 1 := by kernel_rfl
theorem b0a {w : World} {L : Nat → Nat → Prop} : ∀ {s : Str} {css : List (List Value)}, A6 w L (D5 s) css → css.flatten = s.map fun c => Value.int .u8 (c.toNat : Int)
 | [], css, h => by simp only [D5, map_nil, A6] at h; subst h; rfl
 | c :: s, css, h => by
   simp only [D5, map_cons, A6, Rep] at h; obtain ⟨c1, cs, rfl, rfl, h2⟩ := h; simp [b0a (s := s) h2]
set_option maxRecDepth 100000 in
set_option maxHeartbeats 1000000 in
theorem c7r {b g cap : Nat} {p : Value} {l : List UInt8} (w : World) (h0 : l ≠ []) (hbk : w.heap[b]? = some (.cells #[p, .slice (some ⟨g, 0, none⟩) l.length cap] 175 (0, 0))) {cur : Array Value} (hg : w.heap[g]? = some (.cells cur 5 (0, 0)))
   (hnc : l.length ≤ cap) (hcm : cap ≤ maxLen) (hcs : cap ≤ cur.size) (htk : ∀ j x, l[j]? = some x → w.cell? ((⟨g, 0, none⟩ : Addr).add j) = some (.int .u8 x.toNat)) :
   Calls prog 171 #[.pointer (some ⟨b, 0, none⟩)] w fun e w' => e = .returned (.string ⟨l.toArray⟩) ∧ w' = w.drew.freeze ⟨g, 0, none⟩ l.length := by
 have hl0 : l.length ≠ 0 := (by simpa using h0); have c1 : w.drew.cell? ⟨b, 1, none⟩ = some (.slice (some ⟨g, 0, none⟩) l.length cap) := by
   have : w.drew.heap[b]? = some (.cells #[p, .slice (some ⟨g, 0, none⟩) l.length cap] 175 (0, 0)) := hbk; rw [Lib.cell_of_heap this]; rfl
 have hSD : (Builtin.unsafeSliceData_ #[66] 205 #[.slice (some ⟨g, 0, none⟩) l.length cap]).run prog w.drew = .ok (.pointer (some ⟨g, 0, none⟩)) w.drew :=
   Lib.run_unsafeSliceData_row _ _ _ _ _ _ (by omega)
 have hUS : (Builtin.unsafeString_ #[205, 3] 9 #[.pointer (some ⟨g, 0, none⟩), .int .i64 l.length]).run prog w.drew = .ok (.string ⟨l.toArray⟩) (w.drew.freeze ⟨g, 0, none⟩ l.length) := by
   refine Lib.run_unsafeString_row w.drew 205 3 9 5 Tryz.underlying205 b9X g cur.size (by have hg' : w.drew.heap[g]? = some (.cells cur 5 (0, 0)) := hg; simp [World.shape?, hg']) l h0 (by omega) (by unfold maxLen at hcm; omega) ?_; exact htk
 go_enter func171, Tryz.ntmps171
 go_wp2
 go_region
 all_goals (go_wp2; go_ret; exact ⟨rfl, rfl⟩)
theorem b2Y (W : World) (q : Option Addr) : (Builtin.unsafeString_ #[205, 3] 9 #[.pointer q, .int .i64 0]).run prog W = .ok (.string .empty) W := Lib.run_unsafeString_none W _ _ _ q
set_option maxRecDepth 100000 in
set_option maxHeartbeats 1000000 in
theorem c7G {b : Nat} {p : Value} (w : World) (hbk : w.heap[b]? = some (.cells #[p, .slice none 0 0] 175 (0, 0))) :
   Calls prog 171 #[.pointer (some ⟨b, 0, none⟩)] w fun e w' => e = .returned (.string ⟨#[]⟩) ∧ w' = w.drew := by
 have hUS := b2Y; have c1 : w.drew.cell? ⟨b, 1, none⟩ = some (.slice none 0 0) := by
   have : w.drew.heap[b]? = some (.cells #[p, .slice none 0 0] 175 (0, 0)) := hbk; rw [Lib.cell_of_heap this]; rfl
 have hSD : (Builtin.unsafeSliceData_ #[66] 205 #[.slice none 0 0]).run prog w.drew = .ok (.pointer none) w.drew := rfl
 go_enter func171, Tryz.ntmps171
 go_wp2
 go_region
 all_goals (go_wp2; go_ret; exact ⟨rfl, rfl⟩)
set_option maxRecDepth 100000 in
set_option maxHeartbeats 1000000 in
theorem c6g {b g cap : Nat} {p : Value} (w : World) (hc0 : cap ≠ 0) (hbk : w.heap[b]? = some (.cells #[p, .slice (some ⟨g, 0, none⟩) 0 cap] 175 (0, 0))) :
   Calls prog 171 #[.pointer (some ⟨b, 0, none⟩)] w fun e w' => e = .returned (.string ⟨#[]⟩) ∧ w' = w.drew := by
 have hUS := b2Y; have c1 : w.drew.cell? ⟨b, 1, none⟩ = some (.slice (some ⟨g, 0, none⟩) 0 cap) := by
   have : w.drew.heap[b]? = some (.cells #[p, .slice (some ⟨g, 0, none⟩) 0 cap] 175 (0, 0)) := hbk; rw [Lib.cell_of_heap this]; rfl
 have hSD : (Builtin.unsafeSliceData_ #[66] 205 #[.slice (some ⟨g, 0, none⟩) 0 cap]).run prog w.drew = .ok (.pointer (some ⟨g, 0, none⟩)) w.drew :=
   Lib.run_unsafeSliceData_row _ _ _ _ _ _ hc0
 clear hc0
 go_enter func171, Tryz.ntmps171
 go_wp2
 go_region
 all_goals (go_wp2; go_ret; exact ⟨rfl, rfl⟩)
set_option maxRecDepth 100000 in
set_option maxHeartbeats 1000000 in
theorem c0t {b g : Nat} {p : Value} {cur : Array Value} (w : World) (hbk : w.heap[b]? = some (.cells #[p, .slice (some ⟨g, 0, none⟩) 0 0] 175 (0, 0))) (hg : w.heap[g]? = some (.cells cur 5 (0, 0))) :
   Calls prog 171 #[.pointer (some ⟨b, 0, none⟩)] w fun e w' => e = .returned (.string ⟨#[]⟩) ∧ (w' = w.drew.alloc (.view ⟨g, 0, none⟩ 5) ∨ w' = (w.alloc (.view ⟨g, 0, none⟩ 5)).drew) := by
 have hUS := b2Y; have hlt : b < w.heap.size := (Array.getElem?_eq_some_iff.1 hbk).1; have c1 : w.drew.cell? ⟨b, 1, none⟩ = some (.slice (some ⟨g, 0, none⟩) 0 0) := by
   have : w.drew.heap[b]? = some (.cells #[p, .slice (some ⟨g, 0, none⟩) 0 0] 175 (0, 0)) := hbk; rw [Lib.cell_of_heap this]; rfl
 have hSD : (Builtin.unsafeSliceData_ #[66] 205 #[.slice (some ⟨g, 0, none⟩) 0 0]).run prog w.drew = .ok (.pointer (some ⟨w.drew.heap.size, 0, none⟩)) (w.drew.alloc (.view ⟨g, 0, none⟩ 5)) :=
   Lib.run_unsafeSliceData_zero w.drew _ _ 5 Tryz.underlying205 ⟨g, 0, none⟩ 0 (5, cur.size) (by have hg' : w.drew.heap[g]? = some (.cells cur 5 (0, 0)) := hg; simp [World.shape?, hg'])
 have c2 : (w.drew.alloc (.view ⟨g, 0, none⟩ 5)).cell? ⟨b, 1, none⟩ = some (.slice (some ⟨g, 0, none⟩) 0 0) := by
   have : (w.drew.alloc (.view ⟨g, 0, none⟩ 5)).heap[b]? = _ := (Lib.alloc_old w.drew _ b hlt).trans hbk; rw [Lib.cell_of_heap this]; rfl
 have c3 : (w.alloc (.view ⟨g, 0, none⟩ 5)).drew.cell? ⟨b, 1, none⟩ = some (.slice (some ⟨g, 0, none⟩) 0 0) := c2; have c0 : w.cell? ⟨b, 1, none⟩ = some (.slice (some ⟨g, 0, none⟩) 0 0) := c1
 go_enter func171, Tryz.ntmps171
 go_wp2
 go_region
 all_goals (go_wp2; go_ret; exact ⟨rfl, .inl rfl⟩)
abbrev bld (b : Nat) (p : D) (hd : Value) (s : Str) : List AV := [.hb (va b) 175 (.agg [p, .raw hd]), .hs hd 5 (D5 s)]
theorem b4F (s : Str) : (D5 s).length = s.length := by simp [D5]
theorem b7b (w : World) (a : Addr) (n k : Nat) (h : k ≠ a.block) : (w.freeze a n).heap[k]? = w.heap[k]? := by
 unfold World.freeze; split
 · rfl
 · simp only []; rw [Array.getElem?_modify, if_neg (fun e => h e.symm)]
theorem b7j (w : World) (a : Addr) (n : Nat) : (w.freeze a n).heap.size = w.heap.size := by
 unfold World.freeze; split
 · rfl
 · simp
theorem a6J (w : World) (o : Obj) : (w.alloc o).heap.size = w.heap.size + 1 := by unfold World.alloc; simp
theorem a5b (w : World) (a : Addr) (n : Nat) : (w.freeze a n).os = w.os ∧ (w.freeze a n).tape = w.tape ∧ (w.freeze a n).output = w.output := by
 unfold World.freeze; split <;> exact ⟨rfl, rfl, rfl⟩
theorem a5z {b : Nat} {p : D} (hp : p = .nilp ∨ p = .raw (va b)) {hd : Value} {s : Str} :
   F5 prog 171 [.d (.raw (va b))] (bld b p hd s) (fun r hs' => r = .d (.str s) ∧ hs' = []) := by
 refine ⟨enters_of func171 (by kernel_rfl) rfl, fun w L vals hlok hgl hv hh hap => ?_⟩; obtain ⟨v, us, rfl, hv1, hv2⟩ := hv; obtain rfl : us = [] := hv2; obtain rfl : v = va b := RepV.raw_inv hv1; have hb : Y4 w L (some b) 175 (.agg [p, .raw hd]) (va b) := (hh (.hb (va b) 175 (.agg [p, .raw hd])) (by simp)).2; obtain ⟨pv, e1, e2, e3, e4, e5⟩ := a8L hp hb; have hs : D9 prog w L hd.ownBlock true 5 (D5 s) hd := (hh (.hs hd 5 (D5 s)) (by simp)).2; obtain ⟨css, sz, f1, f2, f3, f4, f5⟩ := hs; obtain rfl : sz = 1 := by
   have : ety 5 = 5 := rfl; rw [this, a8I] at f1; simpa using f1.symm
 have hcs := b0a f2; have done : ∀ (w' : World), E8 w w' (fun k => some k ∈ (bld b p hd s).map B7) → ∀ st : Str, st = s → Ending.returned (.string ⟨st.toArray⟩) = Ending.returned (.string ⟨s.toArray⟩) ∧
     ∃ v L' og r hs', Ending.returned (.string ⟨s.toArray⟩) = Ending.returned v ∧ E8 w w' (fun k => some k ∈ (bld b p hd s).map B7) ∧ (∀ b q, L' b q → b < w'.heap.size) ∧ (∀ b' q, b' < w.heap.size → some b' ∉ (bld b p hd s).map B7 → (L' b' q ↔ L b' q)) ∧
     (∀ g, some g ∈ og :: hs'.map B7 → g < w'.heap.size ∧ (w.heap.size ≤ g ∨ some g ∈ (bld b p hd s).map B7)) ∧ J7 (og :: hs'.map B7) ∧ RC prog w' L' og r v ∧ (∀ x ∈ hs', RH prog w' L' x) ∧ (r = .d (.str s) ∧ hs' = []) := by
   intro w' hg st hst; refine ⟨by rw [hst], _, L, none, .d (.str s), [], rfl, hg, fun b q hq => Nat.lt_of_lt_of_le (hlok b q hq) hg.size, fun _ _ _ _ => Iff.rfl, fun g hgm => by simp at hgm, by simp [J7], RepV.str, by simp, rfl, rfl⟩
 rcases f4.2 with ⟨rfl, hn⟩ | ⟨g, cap, cur, hv, hh', hnc, hcm, hsz, ht⟩
 · have hs0 : s = [] := (by simpa [D5] using hn); subst hs0; refine (c7G w e1).mono ?_; rintro e w' ⟨rfl, rfl⟩; exact (done w.drew ⟨rfl, rfl, rfl, Nat.le_refl _, fun _ _ _ => rfl, Nat.le_succ _⟩ [] rfl).2
 · subst hv; rw [b4F] at *; have hblk1 : (bld b p (.slice (some ⟨g, 0, none⟩) s.length cap) s).map B7 = [some b, some g] := (by simp [B7, Value.ownBlock]); by_cases h0 : s = []
   · subst h0; by_cases hc0 : cap = 0
     · subst hc0; refine (c0t w e1 hh').mono ?_; rintro e w' ⟨rfl, hw⟩; refine (done w' ?_ [] rfl).2; rcases hw with rfl | rfl
       · exact ⟨rfl, rfl, rfl, by rw [a6J]; exact Nat.le_succ _, fun k hk _ => Lib.alloc_old w.drew _ k hk, Nat.le_succ _⟩
       · exact ⟨rfl, rfl, rfl, by show _ ≤ (w.alloc _).heap.size; rw [a6J]; exact Nat.le_succ _, fun k hk _ => Lib.alloc_old w _ k hk, Nat.le_succ _⟩
     · refine (c6g w hc0 e1).mono ?_; rintro e w' ⟨rfl, rfl⟩; exact (done w.drew ⟨rfl, rfl, rfl, Nat.le_refl _, fun _ _ _ => rfl, Nat.le_succ _⟩ [] rfl).2
   · refine (c7r w h0 e1 hh' hnc hcm (by omega) (fun j x hx => ?_)).mono ?_
     · have := a2N.cells f4 (g := g) rfl j (.int .u8 x.toNat) (by rw [hcs, getElem?_map, hx]; rfl); exact this
     · rintro e w' ⟨rfl, rfl⟩; refine (done (w.drew.freeze ⟨g, 0, none⟩ s.length) ⟨(a5b _ _ _).1, (a5b _ _ _).2.1, (a5b _ _ _).2.2, by rw [b7j]; exact Nat.le_refl _, fun k hk hn => ?_, by rw [a5e]; exact Nat.le_succ _⟩ s rfl).2; rw [b7b _ _ _ _ (fun e => hn (by rw [hblk1]; simp [e]))]; rfl
end Go.Proofs.Tz
namespace Go.Proofs.Tz
open Go.Vw
set_option maxRecDepth 100000
set_option maxHeartbeats 4000000
def b9L (N k : Nat) (I : Nat → St → Prop) (τ : St) : Prop := ∃ m', m' < N - k ∧ ∃ k', k' ≤ N ∧ m' = N - k' ∧ I k' τ
theorem F0 {N k : Nat} {I : Nat → St → Prop} {τ : St} (hk : k < N) (h : I (k + 1) τ) : b9L N k I τ := ⟨N - (k + 1), by omega, k + 1, hk, rfl, h⟩
theorem H4 {body : (Exit → St → Prop) → St → Prop} {Q : Exit → St → Prop} {σ : St} (N : Nat) (I : Nat → St → Prop) (h0 : I 0 σ)
   (hr : ∀ k τ, k ≤ N → I k τ → body (a2q (b9L N k I) Q) τ) : a3L body Q σ :=
 ⟨fun m τ => ∃ k, k ≤ N ∧ m = N - k ∧ I k τ, N, ⟨0, Nat.zero_le _, rfl, h0⟩, by
   rintro m τ ⟨k, hk, rfl, hI⟩; exact hr k τ hk hI⟩
theorem G9 {α : Type} {l : List α} {k : Nat} (h : k < l.length) : l.take (k + 1) = l.take k ++ [l[k]] := by
 rw [take_succ_eq_append_getElem h]
def C7 (l : List Str) : D := .sl (l.map .str)
def u8 (c : UInt8) : D := .int .u8 c.toNat
def a3u (c : UInt8) : Bool := decide (97 ≤ (c.toNat : Int)) && decide ((c.toNat : Int) ≤ 122) || decide (65 ≤ (c.toNat : Int)) && decide ((c.toNat : Int) ≤ 90)
def a9B (c : UInt8) : Bool := decide (48 ≤ (c.toNat : Int)) && decide ((c.toNat : Int) ≤ 57)
def a1B (c : UInt8) : UInt8 := if 65 ≤ (c.toNat : Int) ∧ (c.toNat : Int) ≤ 90 then c + 32 else c
def D7 (s : Str) : Str := s.map a1B
theorem a4n (c : UInt8) (h1 : 65 ≤ (c.toNat : Int)) (h2 : (c.toNat : Int) ≤ 90) : ((a1B c).toNat : Int) = c.toNat + 97 - 65 := by
 rw [a1B, if_pos ⟨h1, h2⟩, UInt8.toNat_add]; have : (32 : UInt8).toNat = 32 := rfl; omega
theorem c2H (s : Str) : s.map u8 = D5 s := rfl
theorem T8 (s : Str) : (D7 s).length = s.length := by simp [D7]
theorem a7y {s : Str} {k : Nat} (h : k < length s) : (D7 (s.take (k + 1))).map u8 = (D7 (s.take k)).map u8 ++ [u8 (a1B s[k])] := by
 rw [G9 h]; simp only [D7, map_append, map_cons, map_nil]
theorem a7o (s : Str) (hs : length s < 1000000) : Ctr prog 87 [.d (.str s)] (.d (.str (D7 s))) := by
 refine fv (fun i => decide (i < 1000000)) func87 (by kernel_rfl) rfl rfl rfl rfl rfl ?_; simp -implicitDefEqProofs; refine H4 (length s) (fun k τ => τ 0 = .d (.str s) ∧ τ 4 = .d (.int .i64 k) ∧ τ 3 = .own true 5 ((D7 (s.take k)).map u8)) (by simp [D7]) ?_; rintro k τ hk ⟨h0, h4, h3⟩; by_cases hlt : k < length s
 · by_cases h1 : 65 ≤ (s[k].toNat : Int)
   · by_cases h2 : (s[k].toNat : Int) ≤ 90
     · simp -implicitDefEqProofs [h0, h3, h4, hlt, h1, h2, T8]; refine ⟨by omega, by omega, by omega, by omega, F0 hlt ⟨by simp [h0], by simp, ?_⟩⟩; simp -implicitDefEqProofs [a7y hlt, u8, a4n _ h1 h2]
     · simp -implicitDefEqProofs [h0, h3, h4, hlt, h1, h2, T8]; refine ⟨by omega, by omega, F0 hlt ⟨by simp [h0], by simp, ?_⟩⟩; simp -implicitDefEqProofs [a7y hlt, u8, a1B, h2]
   · simp -implicitDefEqProofs [h0, h3, h4, hlt, h1, T8]; refine ⟨by omega, by omega, F0 hlt ⟨by simp [h0], by simp, ?_⟩⟩; simp -implicitDefEqProofs [a7y hlt, u8, a1B, h1]
 · simp -implicitDefEqProofs [h0, h3, h4, hlt, c2H]; rw [ttl (by omega)]
def a1Q (c : UInt8) : Bool := a3u c || a9B c || decide ((c.toNat : Int) = 45)
def U0 (s : Str) : Bool := decide (1 ≤ s.length) && decide (s.length ≤ 64) && (s.head?.any a3u) && s.all a1Q
def a1v (c : UInt8) : Bool := decide (32 ≤ (c.toNat : Int)) && decide ((c.toNat : Int) ≤ 126)
def S9 (s : Str) : Bool := decide (1 ≤ s.length) && decide (s.length ≤ 256) && s.head? != some 32 && s.getLast? != some 32 && s.all a1v
theorem b5m {s : Str} {p : UInt8 → Bool} {k : Nat} (h : k < length s) (ha : ∀ x ∈ s.take k, p x = true) (hp : p s[k] = true) : ∀ x ∈ s.take (k + 1), p x = true := by
 rw [G9 h]; intro x hx; rcases mem_append.1 hx with hx | hx
 · exact ha x hx
 · rw [mem_singleton.1 hx]; exact hp
theorem b3v {s : Str} {p : UInt8 → Bool} {k : Nat} (h : k < length s) (hp : p s[k] = false) : s.all p = false := by
 rw [all_eq_false]; exact ⟨_, gmm h, by simp [hp]⟩
end Go.Proofs.Tz
namespace Go.Proofs.Tz
open Go.Vw Go.RowKit Go.Proofs
theorem K4 {P : Program} {g : FuncId} {args : List AV} {σ : St} {d : Nat} {K : St → Prop} (ks : List Nat) (b : Nat) {hs : List AV} {Post : AV → List AV → Prop} (h : F5 P g args hs Post) (h1 : ks.map σ = hs) (h2 : hs.all isH = true) (h3 : ks.Nodup)
   (hk : ∀ r hs', Post r hs' → K (C6 (put (B9 σ ks) d r) ks b hs')) : a2T P g args σ d K :=
 ⟨ks, b, Post, fun k hk => by
   have : σ k ∈ hs := by rw [← h1]; exact mem_map.2 ⟨k, hk, rfl⟩
   exact all_eq_true.1 h2 _ this, h3, by rw [h1]; exact h, hk⟩
theorem O4 {P : Program} {s f : Nat} {u : Value} {σ : St} {C : AV → Prop} (j : Nat) {e : TypeId} {ds : List D} (hj : σ j = .hb u e (.agg ds)) (h0 : 1000000 ≤ j) (h1 : f < ds.length) (h2 : E5 P s f = some (C9 (ds.take f))) (h : C (.adr j [f])) : b2x P s f u σ C :=
 ⟨j, e, ds, h0, hj, h1, h2, h⟩
theorem c9P {e : TypeId} {t : Str} {l : List D} {u : Value} {σ : St} {d : Nat} {K : St → Prop} (j : Nat) (hj : σ j = .hs u e l) (h2 : l.length + length t ≤ 140737488355328)
   (hk : ∀ A c, K (put (put σ j (.hs (.slice A (l ++ D5 t).length c) e (l ++ D5 t))) d (.d (.raw (.slice A (l ++ D5 t).length c))))) : b4W e t u σ d K := ⟨j, l, .inl hj, h2, hk⟩
@[simp] theorem c6K : a1G Value.nilIface = .undef := rfl
theorem J8 {b : Nat} {p : D} (hp : p = .nilp ∨ p = .raw (va b)) {hd : Value} {s : Str} (c : UInt8) (hl : s.length + 1 ≤ 140737488355328) :
   F5 prog 167 [.d (.raw (va b)), .d (.int .u8 c.toNat)] (bld b p hd s) (fun r hs' => ∃ hd', hs' = bld b (.raw (va b)) hd' (s ++ [c])) := by
 refine a3B (fun i => i == 5000006) (by kernel_rfl) (rs := [.tmp 4]) func167 (by kernel_rfl) rfl rfl (by simp) (nbl rfl) (by kernel_rfl) rfl ?_; simp -implicitDefEqProofs [A5]; refine K4 [1000000] 1000000 (a8w (hd := hd) hp) (by simp [A5]) rfl (by simp) ?_; rintro r hs' ⟨rfl, rfl⟩; simp -implicitDefEqProofs [A5, B9, C6]; refine O4 1000000 (by simp; exact ⟨rfl, rfl⟩) (by omega) (by simp) (by kernel_rfl) ?_; simp -implicitDefEqProofs [A5]; refine c7k (l := D5 s) 1000001 (by simp [A5]) (by simp) (by simp [D5]; omega) (by simp [D5]; omega) (fun A c2 => ?_); simp -implicitDefEqProofs [A5]; refine O4 1000000 (by simp; exact ⟨rfl, rfl⟩) (by omega) (by simp) (by kernel_rfl) ?_; simp -implicitDefEqProofs [A5]; refine ⟨[.undef], [1000000, 1000001], by simp, by simp [isH], by simp [X1, a2a], .slice A ((D5 s).length + 1) c2, by simp [D5]⟩
theorem a0J {b : Nat} {p : D} (hp : p = .nilp ∨ p = .raw (va b)) {hd : Value} {s : Str} (t : Str) (hl : s.length + t.length ≤ 140737488355328) :
   F5 prog 168 [.d (.raw (va b)), .d (.str t)] (bld b p hd s) (fun r hs' => ∃ hd', hs' = bld b (.raw (va b)) hd' (s ++ t)) := by
 refine a3B (fun i => i == 5000007) (by kernel_rfl) (rs := [.tmp 4, .tmp 5]) func168 (by kernel_rfl) rfl rfl (by simp) (nbl rfl) (by kernel_rfl) rfl ?_; simp -implicitDefEqProofs [A5]; refine K4 [1000000] 1000000 (a8w (hd := hd) hp) (by simp [A5]) rfl (by simp) ?_; rintro r hs' ⟨rfl, rfl⟩; simp -implicitDefEqProofs [A5, B9, C6]; refine O4 1000000 (by simp; exact ⟨rfl, rfl⟩) (by omega) (by simp) (by kernel_rfl) ?_; simp -implicitDefEqProofs [A5]; refine c9P (l := D5 s) 1000001 (by simp [A5]) (by simp [D5]; omega) (fun A c2 => ?_); simp -implicitDefEqProofs [A5]; refine O4 1000000 (by simp; exact ⟨rfl, rfl⟩) (by omega) (by simp) (by kernel_rfl) ?_; simp -implicitDefEqProofs [A5]; refine ⟨[.undef, .undef], [1000000, 1000001], by simp, by simp [isH], by simp [X1, a2a], .slice A ((D5 s).length + (D5 t).length) c2, by simp [D5]⟩
theorem Ctr.same {P : Program} {f : FuncId} {xs : List D} {r : D} {vs : List Value} {v : Value} (hE : Enters P f) (h : ∀ w, Calls P f vs.toArray w fun e w' => e = .returned v ∧ w' = w)
   (hx : ∀ w L og vals, RCs P w L og (xs.map .d) vals → vals = vs) (hr : ∀ w L, RepV w L r v) : Ctr P f (xs.map .d) (.d r) := by
 refine ⟨hE, fun w L og vals hlok hgl hog hv => ?_⟩; rw [hx w L og vals hv]; refine (h w).mono ?_; rintro e w' ⟨rfl, rfl⟩; exact ⟨_, L, none, rfl, E8.refl _ _, hlok, fun _ _ _ _ => Iff.rfl, by simp, hr _ _⟩
abbrev ixB (s : Str) (c : UInt8) : Int := Go.Lib.indexByte s c
set_option maxRecDepth 100000 in
set_option maxHeartbeats 1000000 in
theorem b3x (s : Str) (c : UInt8) (w : World) : Calls prog 190 #[.string ⟨s.toArray⟩, .int .u8 c.toNat] w fun e w' => e = .returned (.int .i64 (ixB s c)) ∧ w' = w := by
 go_enter func190, Tryz.ntmps190
 go_wp2
 rw [run_callFunc_extern func226 (by kernel_rfl) (by kernel_rfl) (by kernel_rfl) (e := Extern.BytealgIndexByte.indexByte) (by kernel_rfl), Lib.run_indexByteString]; simp only [Result.andThen]; rw [Oper.upon_value]
 go_wp2
 go_ret
 simp [ixB]
theorem b4I (s : Str) (c : UInt8) : Ctr prog 190 [.d (.str s), .d (.int .u8 c.toNat)] (.d (.int .i64 (ixB s c))) := by
 refine Ctr.same (xs := [.str s, .int .u8 c.toNat]) (enters_of func190 (by kernel_rfl) rfl) (b3x s c) (fun w L og vals h => ?_) (fun w L => RepV.int); obtain ⟨v, us, rfl, h1, v2, us2, rfl, h2, h3⟩ := h; obtain rfl : us2 = [] := h3; obtain rfl := RepV.str_inv h1; obtain rfl := RepV.int_inv h2; rfl
theorem a8f (s : Str) (c : UInt8) : Ctr prog 148 [.d (.str s), .d (.int .u8 c.toNat)] (.d (.int .i64 (ixB s c))) := by
 refine fv (fun _ => false) func148 (by kernel_rfl) rfl rfl rfl rfl rfl ?_; simp -implicitDefEqProofs; refine A3 (b4I s c) ?_; simp -implicitDefEqProofs
set_option maxRecDepth 100000 in
set_option maxHeartbeats 1000000 in
theorem c7V {s : Str} {c : UInt8} (h : 0 ≤ ixB s c) : (ixB s c).toNat < s.length := by
 induction s with
 | nil => simp [ixB, Go.Lib.indexByte] at h
 | cons x s ih =>
   simp only [ixB, Go.Lib.indexByte] at h ih ⊢; split
   · simp
   · split
     · rename_i h1 h2; simp [h1, h2] at h
     · rename_i h1 h2
       simp only [h1, h2] at h; have h3 : Go.Lib.indexByte s c ≠ -1 := (by simpa using h2); have h4 := Go.Lib.indexByte_ge s c; have := ih (by omega); simp only [length_cons]; omega
def a0q (c : UInt8) : Bool := decide ((33 : Int) ≤ c.toNat ∧ (c.toNat : Int) ≤ 126 ∧ ¬ (c.toNat : Int) = 37 ∧ ¬ (c.toNat : Int) = 124 ∧ ¬ (c.toNat : Int) = 44 ∧ ¬ (c.toNat : Int) = 61 ∧ ¬ (c.toNat : Int) = 59 ∧ ¬ (c.toNat : Int) = 34)
theorem c6F (s : Str) (c : UInt8) : ixB s c < 0 ↔ c ∉ s := by
 induction s with
 | nil => simp [ixB, Go.Lib.indexByte]
 | cons x s ih =>
   have h4 := Go.Lib.indexByte_ge s c; simp only [ixB, Go.Lib.indexByte] at ih ⊢; by_cases hx : x = c
   · simp [hx]
   · have hx' : (x == c) = false := (by simpa using hx); simp only [hx', Bool.false_eq_true, if_false, mem_cons, not_or]; by_cases h : Go.Lib.indexByte s c = -1
     · simp [h] at ih ⊢; exact ⟨fun e => hx e.symm, ih⟩
     · have hn : ¬ Go.Lib.indexByte s c < 0 := (by omega); have h0 : (Go.Lib.indexByte s c == -1) = false := (by simpa using h); simp only [h0, Bool.false_eq_true, if_false]; constructor
       · intro h5; omega
       · intro h5; exact absurd (ih.2 h5.2) hn
theorem Z7 (c : UInt8) (k : Nat) (hk : k < 256) : ((c.toNat : Int) = k) ↔ c = UInt8.ofNat k := by
 constructor
 · intro h; have : c.toNat = k := (by omega); rw [← this, UInt8.ofNat_toNat]
 · rintro rfl; simp [UInt8.toNat_ofNat', Nat.mod_eq_of_lt hk]
theorem c0o (c : UInt8) : decide (ixB [37, 124, 44, 61, 59, 34] c < 0) = decide (¬ (c.toNat : Int) = 37 ∧ ¬ (c.toNat : Int) = 124 ∧ ¬ (c.toNat : Int) = 44 ∧ ¬ (c.toNat : Int) = 61 ∧ ¬ (c.toNat : Int) = 59 ∧ ¬ (c.toNat : Int) = 34) := by
 have h1 : ((c.toNat : Int) = 37) ↔ c = 37 := Z7 c 37 (by omega); have h2 : ((c.toNat : Int) = 124) ↔ c = 124 := Z7 c 124 (by omega); have h3 : ((c.toNat : Int) = 44) ↔ c = 44 := Z7 c 44 (by omega); have h4 : ((c.toNat : Int) = 61) ↔ c = 61 := Z7 c 61 (by omega); have h5 : ((c.toNat : Int) = 59) ↔ c = 59 := Z7 c 59 (by omega); have h6 : ((c.toNat : Int) = 34) ↔ c = 34 := Z7 c 34 (by omega); rw [decide_eq_decide, c6F, h1, h2, h3, h4, h5, h6]; simp
theorem c3q (c : UInt8) : Ctr prog 181 [.d (.int .u8 c.toNat)] (.d (.bool (a0q c))) := by
 refine fv (fun _ => false) func181 (by kernel_rfl) rfl rfl rfl rfl rfl ?_; by_cases h1 : (33 : Int) ≤ c.toNat
 · by_cases h2 : (c.toNat : Int) ≤ 126
   · simp -implicitDefEqProofs [h1, h2]; refine A3 (a8f _ c) ?_; simp -implicitDefEqProofs [h1, h2, a0q]; rw [c0o]; simp
   · simp -implicitDefEqProofs [h1, h2, a0q]
 · simp -implicitDefEqProofs [h1, a0q]
set_option maxRecDepth 100000
abbrev b8m : Str := [48, 49, 50, 51, 52, 53, 54, 55, 56, 57, 65, 66, 67, 68, 69, 70]
def a3i (n : Nat) : UInt8 := b8m.getD n 0
def a6h (c : UInt8) : Str := if a0q c then [c] else [37, a3i (c.toNat / 16), a3i (c.toNat % 16)]
def R7 (s : Str) : Str := s.flatMap a6h
theorem c2G (c : UInt8) : (a6h c).length ≤ 3 := by unfold a6h; split <;> simp
theorem a7E (s : Str) : (R7 s).length ≤ 3 * s.length := by
 induction s with
 | nil => simp [R7]
 | cons c s ih =>
   have := c2G c; simp only [R7, flatMap_cons, length_append, length_cons] at ih ⊢; omega
theorem c0M {s : Str} {k : Nat} (h : k < length s) : R7 (s.take (k + 1)) = R7 (s.take k) ++ a6h s[k] := by
 rw [G9 h]; simp only [R7, flatMap_append, flatMap_cons, flatMap_nil, append_nil]
theorem c1o {n : Nat} (h : n < 16) : b8m[n]? = some (a3i n) := by
 simp only [a3i, getD_eq_getElem?_getD]; rw [getElem?_eq_getElem (by simpa using h)]; rfl
theorem d4o (c : UInt8) : (0 : Int) ≤ (c.toNat : Int) / 16 ∧ (c.toNat : Int) / 16 ≤ 255 ∧ ((c.toNat : Int) / 16).toNat = c.toNat / 16 ∧ [48, 49, 50, 51, 52, 53, 54, 55, 56, 57, 65, 66, 67, 68, 69, 70][c.toNat / 16]? = some (a3i (c.toNat / 16)) ∧ c.toNat / 16 < 16 := by
 have := c.toNat_lt; exact ⟨by omega, by omega, by omega, c1o (by omega), by omega⟩
theorem d3D (c : UInt8) : (0 : Int) ≤ (c.toNat : Int) % 16 ∧ ((c.toNat : Int) % 16).toNat = c.toNat % 16 ∧ [48, 49, 50, 51, 52, 53, 54, 55, 56, 57, 65, 66, 67, 68, 69, 70][c.toNat % 16]? = some (a3i (c.toNat % 16)) := by
 have := c.toNat_lt; exact ⟨by omega, by omega, c1o (by omega)⟩
theorem b4Z {P : Program} {e : TypeId} {z : D} {σ : St} {d : Nat} {K : St → Prop} (j k : Nat) (e' : TypeId) (h1 : σ k = .undef) (h2 : (P.info? (ety e')).isSome = true) (h3 : σ j = .undef) (hjk : j ≠ k)
   (hK : ∀ g, K (put (put (put σ k (.hs (.slice none 0 0) e' [])) j (.hb (va g) e z)) d (.d (.raw (va g))))) : b3h P e z σ d K :=
 ⟨j, some (k, e'), ⟨h1, h2⟩, by simp [b8J, hjk, h3], hK⟩
theorem b4T : a5g prog true 8 175 = .agg [.nilp, .raw (.slice none 0 0)] := by kernel_rfl
def a9J (τ : St) (b : Nat) (s : Str) : Prop := ∃ p hd, (p = .nilp ∨ p = .raw (va b)) ∧ τ 1000000 = .hb (va b) 175 (.agg [p, .raw hd]) ∧ τ 1000001 = .hs hd 5 (D5 s)
theorem a8Q (s : Str) (hs : length s < 1000000) : Ctr prog 126 [.d (.str s)] (.d (.str (R7 s))) := by
 refine fv (fun i => i == 1000003 || i == 5000017 || i == 5000018 || i == 5000022 || i == 5000026 || i == 5000028) func126 (by kernel_rfl) rfl rfl rfl rfl rfl ?_; simp -implicitDefEqProofs; refine b4Z 1000000 1000001 5 (by simp) (by kernel_rfl) (by simp) (by simp) (fun b => ?_); simp -implicitDefEqProofs; refine H4 (length s) (fun k τ => τ 0 = .d (.str s) ∧ τ 8 = .d (.int .i64 k) ∧ τ 7 = .d (.int .i64 s.length) ∧ τ 3 = .d (.raw (va b)) ∧ a9J τ b (R7 (s.take k))) ?_ ?_
 · exact ⟨by simp, by simp, by simp, by simp, .nilp, .slice none 0 0, .inl rfl, by simp [b4T], by simp [R7, D5]⟩
 rintro k τ hk ⟨h0, h8, h7, h3, p, hd, hp, hb, hh⟩; by_cases hlt : k < length s
 · have h5 := a7E (s.take k); rw [length_take, Nat.min_eq_left (by omega)] at h5; have h6 := c0M hlt; simp -implicitDefEqProofs [h0, h3, h7, h8, hlt]; refine A3 (c3q s[k]) ?_; by_cases hpl : a0q s[k] = true
   · simp -implicitDefEqProofs [h0, h3, h7, h8, hlt, hpl]; refine K4 [1000000, 1000001] 1000000 (J8 (s := R7 (s.take k)) (hd := hd) hp s[k] (by omega)) (by simp [hb, hh]) rfl (by simp) ?_; rintro r hs' ⟨hd1, rfl⟩; simp -implicitDefEqProofs [h0, h3, h7, h8, hlt, B9, C6]; refine ⟨by omega, F0 hlt ⟨by simp [h0], by simp, by simp [h7], by simp [h3], .raw (va b), hd1, .inr rfl, by simp, by simp [h6, a6h, hpl]⟩⟩
   · obtain ⟨q1, q2, q3, q4, q5⟩ := d4o s[k]; obtain ⟨r1, r2, r3⟩ := d3D s[k]; simp -implicitDefEqProofs [h0, h3, h7, h8, hlt, hpl]; refine K4 [1000000, 1000001] 1000000 (J8 (s := R7 (s.take k)) (hd := hd) hp 37 (by omega)) (by simp [hb, hh]) rfl (by simp) ?_; rintro r hs' ⟨hd1, rfl⟩; have hand : s[k].toNat &&& 15 = s[k].toNat % 16 := Nat.and_two_pow_sub_one_eq_mod s[k].toNat 4; have hlt8 : s[k].toNat ≤ 255 := by have := s[k].toNat_lt; omega
     simp -implicitDefEqProofs [h0, h3, h7, h8, hlt, B9, C6, q1, q2, q3, q4]; refine K4 [1000000, 1000001] 1000000 (J8 (b := b) (s := R7 (s.take k) ++ [37]) (hd := hd1) (.inr rfl) (a3i (s[k].toNat / 16)) (by simp; omega)) (by simp) rfl (by simp) ?_; rintro r hs' ⟨hd2, rfl⟩; simp -implicitDefEqProofs [h0, h3, h7, h8, hlt, B9, C6, hand, r3, q1, q2, r1, r2, hlt8]; refine ⟨by omega, ?_⟩; refine K4 [1000000, 1000001] 1000000 (J8 (b := b) (s := R7 (s.take k) ++ [37] ++ [a3i (s[k].toNat / 16)]) (hd := hd2) (.inr rfl) (a3i (s[k].toNat % 16)) (by simp; omega)) (by simp) rfl (by simp) ?_; rintro r hs' ⟨hd3, rfl⟩; simp -implicitDefEqProofs [h0, h3, h7, h8, hlt, B9, C6]; refine ⟨by omega, F0 hlt ⟨by simp [h0], by simp, by simp [h7], by simp [h3], .raw (va b), hd3, .inr rfl, by simp, by simp [h6, a6h, hpl]⟩⟩
 · simp -implicitDefEqProofs [h0, h3, h7, h8, hlt]; rw [ttl (by omega)] at hh; refine K4 [1000000, 1000001] 1000000 (a5z (s := R7 s) (hd := hd) hp) (by simp [hb, hh]) rfl (by simp) ?_; rintro r hs' ⟨rfl, rfl⟩; simp -implicitDefEqProofs [h0, h3, h7, h8, hlt, B9, C6]
abbrev b0z (c : UInt8) : Int := ixB b8m c
def hx (h l : UInt8) : UInt8 := UInt8.ofNat (16 * (b0z h).toNat + (b0z l).toNat)
def a3g : Str → Option Str
 | [] => some []
 | c :: r => if a0q c then (a3g r).map (c :: ·) else if c = 37 then (match r with
   | h :: l :: r' => if 0 ≤ b0z h ∧ 0 ≤ b0z l ∧ a0q (hx h l) = false then (a3g r').map (hx h l :: ·) else none
   | _ => none) else none
 termination_by s => s.length
theorem c2w : a3g [] = some [] := by rw [a3g.eq_def]
theorem b2h (c : UInt8) (r : Str) : a3g (c :: r) = if a0q c then (a3g r).map (c :: ·) else if c = 37 then (match r with
   | h :: l :: r' => if 0 ≤ b0z h ∧ 0 ≤ b0z l ∧ a0q (hx h l) = false then (a3g r').map (hx h l :: ·) else none
   | _ => none) else none := by rw [a3g.eq_def]; rfl
theorem a5G : ∀ n, n < 16 → b0z (a3i n) = n := by decide
theorem c6h (c : UInt8) : hx (a3i (c.toNat / 16)) (a3i (c.toNat % 16)) = c := by
 have := c.toNat_lt; rw [hx, a5G _ (by omega), a5G _ (by omega)]; have : 16 * ((c.toNat / 16 : Nat) : Int).toNat + ((c.toNat % 16 : Nat) : Int).toNat = c.toNat := (by omega); rw [this, UInt8.ofNat_toNat]
theorem c6b : a0q 37 = false := by decide
theorem c2y (t : Str) : a3g (R7 t) = some t := by
 induction t with
 | nil => simp [R7, c2w]
 | cons c t ih =>
   have e : R7 (c :: t) = a6h c ++ R7 t := (by simp [R7]); rw [e]; have := c.toNat_lt; by_cases hp : a0q c = true
   · simp [a6h, hp, b2h, ih]
   · have hp' : a0q c = false := (by simpa using hp); simp only [a6h, hp', Bool.false_eq_true, if_false, cons_append, nil_append]; rw [b2h]; simp only; rw [a5G _ (by omega), a5G _ (by omega), c6h]; have b1 : (0 : Int) ≤ ((c.toNat / 16 : Nat) : Int) := Int.natCast_nonneg _; have b2 : (0 : Int) ≤ ((c.toNat % 16 : Nat) : Int) := Int.natCast_nonneg _; rw [if_neg (by simp [c6b]), if_pos trivial, if_pos ⟨b1, b2, hp'⟩, ih]; rfl
theorem c2l {N k k' : Nat} {I : Nat → St → Prop} {τ : St} (hk : k < k') (hk' : k' ≤ N) (h : I k' τ) : b9L N k I τ := ⟨N - k', by omega, k', hk', rfl, h⟩
theorem c0l {c : UInt8} : ∀ {s : Str} {k : Nat} (h : k < s.length), s[k] = c → c ∉ s.take k → ixB s c = k
 | [], k, h, _, _ => by simp at h
 | x :: s, 0, h, he, _ => by
   simp only [getElem_cons_zero] at he; simp [ixB, Go.Lib.indexByte, he]
 | x :: s, k + 1, h, he, hn => by
   simp only [take_succ_cons, mem_cons, not_or] at hn; have := c0l (s := s) (k := k) (by simpa using h) (by simpa using he) hn.2; have hx : (x == c) = false := by simpa using fun e => hn.1 e.symm
   simp only [ixB] at this; simp only [ixB, Go.Lib.indexByte, hx, this]; have h2 : ((k : Int) == -1) = false := (by simp); simp [h2]
def a6y (s : Str) : Str × Int := match a3g s with
 | some t => (t, 0)
 | none => ([], 4)
theorem b7i {s t : Str} (h : a3g s = some t) : a6y s = (t, 0) := by simp [a6y, h]
def a1i (c : UInt8) : Str → List Str
 | [] => [[]]
 | x :: s => if x = c then [] :: a1i c s else (match a1i c s with
   | p :: ps => (x :: p) :: ps
   | [] => [[x]])
theorem b6Y {c : UInt8} {s : Str} (h : c ∉ s) : a1i c s = [s] := by
 induction s with
 | nil => rfl
 | cons x s ih =>
   simp only [mem_cons, not_or] at h; simp only [a1i, if_neg (fun e : x = c => h.1 e.symm), ih h.2]
theorem b4m {c : UInt8} : ∀ {s : Str} {k : Nat}, ixB s c = k → a1i c s = s.take k :: a1i c (s.drop (k + 1))
 | [], k, h => by simp [ixB, Go.Lib.indexByte] at h
 | x :: s, k, h => by
   have hge := Go.Lib.indexByte_ge s c; simp only [ixB, Go.Lib.indexByte] at h; by_cases hx : x = c
   · simp only [hx, beq_self_eq_true, if_true] at h; obtain rfl : k = 0 := by omega
     simp [a1i, hx]
   · have hx' : (x == c) = false := (by simpa using hx); simp only [hx', Bool.false_eq_true, if_false] at h; by_cases h2 : Go.Lib.indexByte s c = -1
     · simp [h2] at h
     · have h3 : (Go.Lib.indexByte s c == -1) = false := (by simpa using h2); simp only [h3, Bool.false_eq_true, if_false] at h; obtain ⟨k', rfl⟩ : ∃ k', k = k' + 1 := ⟨k - 1, by omega⟩; have ih := b4m (s := s) (k := k') (by show Go.Lib.indexByte s c = _; omega); simp only [a1i, if_neg hx, ih, take_succ_cons, drop_succ_cons]
theorem a2I {α : Type} {l : List α} {k : Nat} (h : k < l.length) : l.drop k = l[k] :: l.drop (k + 1) := drop_eq_getElem_cons h
theorem b4p : ∀ n, n < 16 → 33 ≤ (a3i n).toNat ∧ (a3i n).toNat ≤ 126 := by decide
theorem b3E {s : Str} {c : UInt8} (h : c ∈ R7 s) : 33 ≤ c.toNat ∧ c.toNat ≤ 126 := by
 simp only [R7, mem_flatMap] at h; obtain ⟨x, _, hx⟩ := h; have hlt := x.toNat_lt; unfold a6h at hx; split at hx
 · rename_i hp
   rw [mem_singleton] at hx; subst hx; simp only [a0q, decide_eq_true_eq] at hp; omega
 · simp only [mem_cons, not_mem_nil, or_false] at hx; rcases hx with rfl | rfl | rfl
   · decide
   · exact b4p _ (by omega)
   · exact b4p _ (by omega)
theorem c2A (s : Str) : (10 : UInt8) ∉ R7 s := fun h => by have := (b3E h).1; revert this; decide
theorem c0L (s : Str) : (32 : UInt8) ∉ R7 s := fun h => by have := (b3E h).1; revert this; decide
theorem c5r {c : UInt8} {a b : Str} (h : c ∉ a) : ixB (a ++ c :: b) c = length a :=
 c0l (by simp) (by simp) (by simpa using h)
theorem b9a {c : UInt8} {a b : Str} (h : c ∉ a) : a1i c (a ++ c :: b) = a :: a1i c b := by
 have e1 : take (length a) (a ++ c :: b) = a := (by simp); have e2 : drop (length a + 1) (a ++ c :: b) = b := by rw [← drop_drop]; simp
 rw [b4m (c5r h), e1, e2]
def D6 (c : UInt8) : List Str → Str
 | [] => []
 | [p] => p
 | p :: q :: ps => p ++ c :: D6 c (q :: ps)
def b9c {α : Type} (p : α → Bool) (l : List α) : Prop := ∀ x ∈ l, p x = true
theorem b9c.nil {α : Type} {p : α → Bool} : b9c p [] := fun _ h => by simp at h
theorem b9c.all {α : Type} {p : α → Bool} {l : List α} (h : b9c p l) : l.all p = true := all_eq_true.2 h
theorem b2z {c : UInt8} : ∀ {l : List Str}, l ≠ [] → (∀ p ∈ l, c ∉ p) → a1i c (D6 c l) = l
 | [], h, _ => absurd rfl h
 | [p], _, h => b6Y (h p (by simp))
 | p :: q :: l, _, h => by
   have ih := b2z (l := q :: l) (by simp) (fun x hx => h x (by simp at hx ⊢; right; exact hx)); have e : D6 c (p :: q :: l) = p ++ c :: D6 c (q :: l) := rfl; rw [e, b9a (h p (by simp)), ih]
section
variable {α : Type} (line : Str → Option α) (chk : List α → Int)
end
section
variable {α : Type} {line : Str → Option α} {chk : List α → Int} {w : α → Str}
end
abbrev Csn := Int × Int × Int
def B8 (c : Csn) : D := .agg [.int .i64 c.1, .int .i64 c.2.1, .int .i64 c.2.2]
def U6 (c : Csn) : Bool := decide (0 ≤ c.1) && decide (c.1 ≤ 1099511627776) && decide (0 ≤ c.2.1) && decide (c.2.1 ≤ 4294967295) && decide (0 ≤ c.2.2) && decide (c.2.2 < 8)
def a0b (a b : Int) : Int := if a < b then -1 else if b < a then 1 else 0
def X2 (a b : Csn) : Int := if a.1 ≠ b.1 then a0b a.1 b.1 else if a.2.1 ≠ b.2.1 then a0b a.2.1 b.2.1 else a0b a.2.2 b.2.2
theorem a3U {a b : Int} : a0b a b = 0 ↔ a = b := by unfold a0b; split <;> (try split) <;> omega
theorem b0G {a b : Int} : a0b a b < 0 ↔ a < b := by unfold a0b; split <;> (try split) <;> omega
theorem a8y (a b : Int) : a0b b a = - a0b a b := by unfold a0b; split <;> (try split) <;> (try split) <;> omega
theorem a4b {a b : Csn} : X2 a b = 0 ↔ a = b := by
 unfold X2; obtain ⟨a1, a2, a3⟩ := a; obtain ⟨b1, b2, b3⟩ := b; simp only [Prod.mk.injEq]; split
 · rw [a3U]; rename_i h; constructor
   · intro e; exact absurd e h
   · intro e; exact e.1
 · rename_i h
   have h : a1 = b1 := (by simpa using h); split
   · rw [a3U]; rename_i h; constructor
     · intro e; exact absurd e h
     · intro e; exact e.2.1
   · rename_i h2
     have h2 : a2 = b2 := (by simpa using h2); rw [a3U]; exact ⟨fun e => ⟨h, h2, e⟩, fun e => e.2.2⟩
theorem c4q {a b : Csn} : X2 a b < 0 ↔ a.1 < b.1 ∨ a.1 = b.1 ∧ (a.2.1 < b.2.1 ∨ a.2.1 = b.2.1 ∧ a.2.2 < b.2.2) := by
 unfold X2; split
 · rw [b0G]; omega
 · split
   · rw [b0G]; omega
   · rw [b0G]; omega
theorem c2B (a b : Csn) : X2 b a = - X2 a b := by
 unfold X2; by_cases h1 : a.1 = b.1
 · by_cases h2 : a.2.1 = b.2.1
   · simp only [h1, h2, ne_eq, not_true_eq_false, if_false]; exact a8y _ _
   · have h2' : ¬ b.2.1 = a.2.1 := fun e => h2 e.symm
     simp only [h1, h2, h2', ne_eq, not_true_eq_false, not_false_eq_true, if_false, if_true]; exact a8y _ _
 · have h1' : ¬ b.1 = a.1 := fun e => h1 e.symm
   simp only [h1, h1', ne_eq, not_false_eq_true, if_true]; exact a8y _ _
theorem b8Y {a b c : Csn} (h1 : X2 a b < 0) (h2 : X2 b c < 0) : X2 a c < 0 := by
 rw [c4q] at *; omega
abbrev J9 : Str := [48, 49, 50, 51, 52, 53, 54, 55, 56, 57, 97, 98, 99, 100, 101, 102]
def a6M (n : Nat) : UInt8 := J9.getD n 0
def R6 (n : Nat) : Nat → Str
 | 0 => []
 | w + 1 => R6 (n / 16) w ++ [a6M (n % 16)]
theorem a1z (w : Nat) : ∀ n, (R6 n w).length = w := by
 induction w with
 | zero => intro n; rfl
 | succ w ih => intro n; simp [R6, ih]
def T1 (n : Int) : Str → Int
 | [] => n
 | c :: s => if ixB J9 c < 0 then -1 else T1 (n * 16 + ixB J9 c) s
def a3m (s : Str) : Int := T1 0 s
theorem a5E (n : Int) (hn : 0 ≤ n) : ∀ (a b : Str), T1 n (a ++ b) = if T1 n a < 0 then -1 else T1 (T1 n a) b := by
 intro a
 induction a generalizing n with
 | nil => intro b; simp [T1]; omega
 | cons c a ih =>
   intro b; simp only [cons_append, T1]; by_cases h : ixB J9 c < 0
   · simp [h]
   · simp only [h, if_false]; exact ih _ (by omega) b
theorem c5L : ∀ n, n < 16 → ixB J9 (a6M n) = n := by decide
theorem b2W (w : Nat) : ∀ n, n < 16 ^ w → a3m (R6 n w) = n := by
 induction w with
 | zero => intro n h; simp at h; subst h; rfl
 | succ w ih =>
   intro n h; have h1 := ih (n / 16) (by rw [Nat.div_lt_iff_lt_mul (by decide)]; rw [Nat.pow_succ] at h; exact h); unfold a3m at h1 ⊢; rw [R6, a5E 0 (Int.le_refl _), h1, if_neg (by omega)]; simp only [T1, c5L (n % 16) (by omega)]; rw [if_neg (by omega)]; omega
theorem b3i {c : UInt8} (h : ¬ ixB J9 c < 0) : a6M (ixB J9 c).toNat = c ∧ (ixB J9 c).toNat < 16 := by
 have hlt : (ixB J9 c).toNat < J9.length := c7V (by omega); refine ⟨?_, by simpa using hlt⟩; have h1 : ∀ (s : Str), 0 ≤ ixB s c → s.getD (ixB s c).toNat 0 = c := by
   intro s
   induction s with
   | nil => intro h; simp [ixB, Go.Lib.indexByte] at h
   | cons x s ih =>
     intro h; have hge := Go.Lib.indexByte_ge s c; simp only [ixB, Go.Lib.indexByte] at h ih ⊢; by_cases hx : (x == c) = true
     · rw [if_pos hx]; simpa using hx
     · rw [if_neg hx] at h ⊢; by_cases h2 : (Go.Lib.indexByte s c == -1) = true
       · rw [if_pos h2] at h; simp at h
       · rw [if_neg h2] at h ⊢; have h3 : 0 ≤ Go.Lib.indexByte s c := by
           have : Go.Lib.indexByte s c ≠ -1 := (by simpa using h2); omega
         have h4 : (Go.Lib.indexByte s c + 1).toNat = (Go.Lib.indexByte s c).toNat + 1 := (by omega); rw [h4, getD_cons_succ]; exact ih h3
 exact h1 J9 (by omega)
theorem b5B : ∀ (s : Str) (n : Int), 0 ≤ n → T1 n s < (n + 1) * 16 ^ s.length
 | [], n, h => by simp [T1]; omega
 | c :: s, n, h => by
   simp only [T1, length_cons]; split
   · have : (0 : Int) < (n + 1) * 16 ^ (s.length + 1) := Int.mul_pos (by omega) (Int.pow_pos (by decide)); omega
   · rename_i hc
     have h16 := (b3i hc).2; have ih := b5B s (n * 16 + ixB J9 c) (by omega); have h2 : (n * 16 + ixB J9 c + 1) * 16 ^ s.length ≤ ((n + 1) * 16) * 16 ^ s.length := Int.mul_le_mul_of_nonneg_right (by omega) (Int.le_of_lt (Int.pow_pos (by decide))); have e : (n + 1) * 16 ^ (s.length + 1) = ((n + 1) * 16) * 16 ^ s.length := by rw [Int.pow_succ, Int.mul_assoc, Int.mul_comm 16]
     rw [e]; omega
theorem b2U : ∀ (w : Nat) (s : Str), s.length = w → 0 ≤ a3m s → R6 (a3m s).toNat w = s := by
 intro w
 induction w with
 | zero => intro s h _; have : s = [] := length_eq_zero_iff.1 h; subst this; rfl
 | succ w ih =>
   intro s h h0; have hsn : s ≠ [] := by rintro rfl; simp at h
   obtain ⟨a, c, rfl⟩ : ∃ a c, s = a ++ [c] := ⟨s.dropLast, s.getLast hsn, (dropLast_concat_getLast hsn).symm⟩; have ha : a.length = w := (by simpa using h); unfold a3m at h0 ih ⊢; rw [a5E 0 (Int.le_refl _)] at h0 ⊢; by_cases h1 : T1 0 a < 0
   · rw [if_pos h1] at h0; omega
   · rw [if_neg h1] at h0 ⊢; simp only [T1] at h0 ⊢; by_cases hc : ixB J9 c < 0
     · rw [if_pos hc] at h0; omega
     · rw [if_neg hc] at h0 ⊢; obtain ⟨e1, e2⟩ := b3i hc; have i := ih a ha (by omega); rw [R6]; have d1 : (T1 0 a * 16 + ixB J9 c).toNat / 16 = (T1 0 a).toNat := (by omega); have d2 : (T1 0 a * 16 + ixB J9 c).toNat % 16 = (ixB J9 c).toNat := (by omega); rw [d1, d2, e1, i]
def H6 (c : Csn) : Str := if U6 c = true then R6 c.1.toNat 11 ++ 45 :: (R6 c.2.1.toNat 8 ++ 45 :: R6 c.2.2.toNat 1) else []
def a3v (s : Str) : Csn := (a3m (s.take 11), a3m ((s.take 20).drop 12), a3m (s.drop 21))
def P5 (s : Str) : Csn × Int :=
 if s.length ≠ 22 ∨ s[11]? ≠ some 45 ∨ s[20]? ≠ some 45 then ((0, 0, 0), 4)
 else if (a3v s).1 < 0 ∨ (a3v s).2.1 < 0 ∨ (a3v s).2.2 < 0 then ((0, 0, 0), 4)
 else if U6 (a3v s) = false then ((0, 0, 0), 27) else (a3v s, 0)
theorem a5T {c : Csn} (h : U6 c = true) : (H6 c).length = 22 := by
 rw [H6, if_pos h]; simp [a1z]
theorem b2w {c : Csn} : U6 c = true ↔ 0 ≤ c.1 ∧ c.1 ≤ 1099511627776 ∧ 0 ≤ c.2.1 ∧ c.2.1 ≤ 4294967295 ∧ 0 ≤ c.2.2 ∧ c.2.2 < 8 := by
 simp only [U6, Bool.and_eq_true, decide_eq_true_eq]; omega
theorem b5K {c : Csn} (h : U6 c = true) : P5 (H6 c) = (c, 0) := by
 have hv := b2w.1 h; obtain ⟨t, s, r⟩ := c; simp only at hv; have hl := a5T h; have l1 := a1z 11 t.toNat; have l2 := a1z 8 s.toNat; have l3 := a1z 1 r.toNat; have e : H6 (t, s, r) = R6 t.toNat 11 ++ 45 :: (R6 s.toNat 8 ++ 45 :: R6 r.toNat 1) := by rw [H6, if_pos h]
 have n1 := b2W 11 t.toNat (by have : (16 : Nat) ^ 11 = 17592186044416 := by decide
                               omega)
 have n2 := b2W 8 s.toNat (by have : (16 : Nat) ^ 8 = 4294967296 := by decide
                              omega)
 have n3 := b2W 1 r.toNat (by have : (16 : Nat) ^ 1 = 16 := by decide
                              omega)
 generalize R6 t.toNat 11 = A at *; generalize R6 s.toNat 8 = B at *; generalize R6 r.toNat 1 = C at *; have g1 : (H6 (t, s, r))[11]? = some 45 := by
   rw [e, getElem?_append_right (by omega), l1]; rfl
 have g2 : (H6 (t, s, r))[20]? = some 45 := by
   rw [e, getElem?_append_right (by omega), l1]
   show (B ++ 45 :: C)[8]? = _
   rw [getElem?_append_right (by omega), l2]; rfl
 have t1 : (H6 (t, s, r)).take 11 = A := by rw [e, ← l1, take_left]
 have t2 : ((H6 (t, s, r)).take 20).drop 12 = B := by
   have : H6 (t, s, r) = (A ++ [45]) ++ B ++ (45 :: C) := by rw [e]; simp
   rw [this, take_append_of_le_length (by simp; omega), ttl (by simp; omega)]; have l4 : (A ++ [45]).length = 12 := by simp; omega
   rw [← l4, drop_left]
 have t3 : (H6 (t, s, r)).drop 21 = C := by
   have : H6 (t, s, r) = (A ++ [45] ++ B ++ [45]) ++ C := by rw [e]; simp
   have l4 : (A ++ [45] ++ B ++ [45]).length = 21 := by simp; omega
   rw [this, ← l4, drop_left]
 have hr : a3v (H6 (t, s, r)) = (t, s, r) := by
   rw [a3v, t1, t2, t3, n1, n2, n3]; simp only [Prod.mk.injEq]; omega
 rw [P5, if_neg (by rw [g1, g2]; simp [hl]), hr, if_neg (by simp only; omega), if_neg (by rw [h]; simp)]
theorem a7R {s : Str} {c : Csn} (h : P5 s = (c, 0)) : H6 c = s ∧ U6 c = true := by
 unfold P5 at h; split at h
 · simp at h
 · rename_i h1
   split at h
   · simp at h
   · rename_i h2
     split at h
     · simp at h
     · rename_i h3
       simp only [Prod.mk.injEq, and_true] at h; subst h; have hv : U6 (a3v s) = true := (by simpa using h3); refine ⟨?_, hv⟩; have h1' : s.length = 22 ∧ s[11]? = some 45 ∧ s[20]? = some 45 := by
         simp only [not_or, Classical.not_not, ne_eq] at h1; exact h1
       obtain ⟨hl, g1, g2⟩ := h1'; simp only [a3v, not_or, Int.not_lt] at h2; rw [H6, if_pos hv]; simp only [a3v]; rw [b2U 11 _ (by simp; omega) h2.1, b2U 8 _ (by simp; omega) h2.2.1, b2U 1 _ (by simp; omega) h2.2.2]; have e1 : s = s.take 11 ++ s.drop 11 := (take_append_drop 11 s).symm; have e2 : s.drop 11 = 45 :: s.drop 12 := by
         rw [drop_eq_getElem_cons (by omega)]; congr 1
         rw [getElem?_eq_getElem (by omega)] at g1; exact Option.some.inj g1
       have e3 : s.drop 12 = (s.take 20).drop 12 ++ s.drop 20 := by
         rw [drop_take, show (20 : Nat) = 12 + 8 from rfl, ← drop_drop, show 12 + 8 - 12 = 8 from rfl, take_append_drop]
       have e4 : s.drop 20 = 45 :: s.drop 21 := by
         rw [drop_eq_getElem_cons (by omega)]; congr 1
         rw [getElem?_eq_getElem (by omega)] at g2; exact Option.some.inj g2
       rw [← e4, ← e3, ← e2, ← e1]
theorem a4x {c : Csn} {d : UInt8} (hd : d ∉ J9) (h0 : d ≠ 0) (h45 : d ≠ 45) : d ∉ H6 c := by
 have hx : ∀ w n, d ∉ R6 n w := by
   intro w
   induction w with
   | zero => intro n; simp [R6]
   | succ w ih =>
     intro n; rw [R6, mem_append, mem_singleton]; rintro (h | h)
     · exact ih _ h
     · have : a6M (n % 16) ∈ J9 := by
         have hlt : n % 16 < 16 := Nat.mod_lt _ (by decide); unfold a6M; rw [getD_eq_getElem?_getD, getElem?_eq_getElem (by simpa using hlt)]; exact gmm _
       exact hd (h ▸ this)
 unfold H6; split
 · simp only [mem_append, mem_cons, not_or]; exact ⟨hx _ _, h45, hx _ _, h45, hx _ _⟩
 · simp
theorem b3S (x : Int) : Ctr prog 147 [.d (.int .i64 x)] (.d (.bool false)) := by
 refine fv (fun _ => false) func147 (by kernel_rfl) rfl rfl rfl rfl rfl ?_; simp -implicitDefEqProofs
theorem a9P (x y : Int) : Ctr prog 102 [.d (.int .i64 x), .d (.int .i64 y)] (.d (.int .i64 (a0b x y))) := by
 refine fv (fun _ => false) func102 (by kernel_rfl) rfl rfl rfl rfl rfl ?_; have c1 := b3S x; have c2 := b3S y; unfold a0b; by_cases h1 : x < y
 · simp -implicitDefEqProofs; refine A3 c1 ?_; simp -implicitDefEqProofs; refine A3 c2 ?_; simp -implicitDefEqProofs [h1]
 by_cases h2 : y < x
 · simp -implicitDefEqProofs; refine A3 c1 ?_; simp -implicitDefEqProofs; refine A3 c2 ?_; simp -implicitDefEqProofs [h1, h2]
 · simp -implicitDefEqProofs; refine A3 c1 ?_; simp -implicitDefEqProofs; refine A3 c2 ?_; simp -implicitDefEqProofs [h1, h2]
def orI : List Int → Int
 | [] => 0
 | x :: l => if x ≠ 0 then x else orI l
def a2M (l : List Int) : D := .sl (l.map (.int .i64))
theorem a7r (l : List Int) (hl : l.length < 1000000) : Ctr prog 101 [.d (a2M l)] (.d (.int .i64 (orI l))) := by
 refine fv (fun _ => false) func101 (by kernel_rfl) rfl rfl rfl rfl rfl ?_; obtain ⟨R, hR⟩ : ∃ R, orI l = R := ⟨_, rfl⟩; rw [hR]; simp -implicitDefEqProofs [a2M]; refine H4 l.length (fun k τ => τ 6 = .d (a2M l) ∧ τ 7 = .d (.int .i64 l.length) ∧ τ 8 = .d (.int .i64 k) ∧ τ 3 = .d (.int .i64 0) ∧ orI (l.drop k) = R) ⟨by simp [a2M], by simp, by simp, by simp, by simpa using hR⟩ ?_; rintro k τ hk ⟨h6, h7, h8, h3, hI⟩; by_cases hlt : k < l.length
 · have hlt' : (k : Int) < l.length := (by omega); rw [drop_eq_getElem_cons hlt, orI] at hI; generalize hx : l[k] = x at *; by_cases h0 : x = 0
   · rw [if_neg (by simpa using h0)] at hI; simp -implicitDefEqProofs [h6, h7, h8, h3, a2M, hlt, hlt', hx, h0]; (repeat refine ai (by omega) ?_); exact F0 hlt ⟨by simp [h6, a2M], by simp [h7], by simp, by simp [h3], hI⟩
   · rw [if_pos h0] at hI; rw [hI] at hx h0; simp -implicitDefEqProofs [h6, h7, h8, h3, a2M, hlt, hlt', hx, h0]
 · have hlt' : ¬ (k : Int) < l.length := (by omega); rw [drop_eq_nil_of_le (by omega), orI] at hI; subst hI; simp -implicitDefEqProofs [h6, h7, h8, h3, hlt']
theorem a9j (c : Csn) : Ctr prog 52 [.d (B8 c)] (.d (.bool (U6 c))) := by
 refine fv (fun _ => false) func52 (by kernel_rfl) rfl rfl rfl rfl rfl ?_; obtain ⟨t, s, r⟩ := c; unfold U6; by_cases h1 : 0 ≤ t <;> by_cases h2 : t ≤ 1099511627776 <;> by_cases h3 : 0 ≤ s <;> by_cases h4 : s ≤ 4294967295 <;> by_cases h5 : 0 ≤ r <;> by_cases h6 : r < 8 <;> simp -implicitDefEqProofs [B8, h1, h2, h3, h4, h5, h6]
theorem c5O (a b : Csn) : orI [a0b a.1 b.1, a0b a.2.1 b.2.1, a0b a.2.2 b.2.2] = X2 a b := by
 simp only [orI, X2, ne_eq, a3U]; by_cases h3 : a.2.2 = b.2.2
 · have := a3U.2 h3; simp [h3]; split <;> (try split) <;> first | rfl | (rw [h3] at this; exact this.symm)
 · simp [h3]
theorem c6l (a b : Csn) : Ctr prog 51 [.d (B8 a), .d (B8 b)] (.d (.int .i64 (X2 a b))) := by
 refine fv (fun _ => false) func51 (by kernel_rfl) rfl rfl rfl rfl rfl ?_; have hor := c5O a b; have hz := a4b (a := a) (b := b); obtain ⟨a1, a2, a3⟩ := a; obtain ⟨b1, b2, b3⟩ := b; have c1 := a9P a1 b1; have c2 := a9P a2 b2; have c3 := a9P a3 b3; have c4 := a7r [a0b a1 b1, a0b a2 b2, a0b a3 b3] (by simp); simp only at hor; rw [hor] at c4; simp only [a2M, map_cons, map_nil] at c4; by_cases h : ((a1, a2, a3) : Csn) = (b1, b2, b3)
 · have h0 := hz.2 h; rw [h0]; simp only [Prod.mk.injEq] at h; simp -implicitDefEqProofs [B8, P9, h]; try decide
 · generalize X2 (a1, a2, a3) (b1, b2, b3) = R at *; have hne : (decide (a1 = b1) && (decide (a2 = b2) && decide (a3 = b3))) = false := by
     simp only [Prod.mk.injEq] at h; simp only [Bool.and_eq_false_iff, decide_eq_false_iff_not]; omega
   simp -implicitDefEqProofs [B8, P9, hne]; refine E4 c1 ?_; simp -implicitDefEqProofs; refine E4 c2 ?_; simp -implicitDefEqProofs; refine E4 c3 ?_; simp -implicitDefEqProofs; refine ⟨by decide, E4 c4 ?_⟩; simp -implicitDefEqProofs
theorem b3J : ∀ (k n : Nat), R6 n (k + 1) = a6M (n / 16 ^ k % 16) :: R6 n k
 | 0, n => by simp [R6]
 | k + 1, n => by
   rw [R6, b3J k (n / 16), R6]; simp [Nat.div_div_eq_div_mul, Nat.pow_succ, Nat.mul_comm]
def a1y (n w k : Nat) : List D := replicate (w - k) (.int .u8 0) ++ D5 (R6 n k)
theorem b8W {n w k : Nat} (h : k < w) : (a1y n w k).set (w - 1 - k) (.int .u8 (a6M (n / 16 ^ k % 16)).toNat) = a1y n w (k + 1) := by
 unfold a1y; obtain ⟨m, hm⟩ : ∃ m, w - k = m + 1 := ⟨w - k - 1, by omega⟩; have e1 : w - 1 - k = m := (by omega); have e2 : w - (k + 1) = m := (by omega); rw [hm, e1, e2, b3J, replicate_succ', append_assoc]; rw [set_append_right _ _ (by simp)]; simp [D5]
theorem b9m {n w k : Nat} (h : k ≤ w) : (a1y n w k).length = w := by
 simp [a1y, D5, a1z]; omega
theorem b9j {n w k : Nat} (h : k < w) : (a1y n w k)[w - 1 - k]? = some (.int .u8 0) := by
 unfold a1y; rw [getElem?_append_left (by simp; omega), getElem?_replicate, if_pos (by omega)]
theorem c7U (x : Nat) : J9[x % 16]? = some (a6M (x % 16)) := by
 have hlt : x % 16 < 16 := Nat.mod_lt _ (by decide); unfold a6M; rw [getD_eq_getElem?_getD, getElem?_eq_getElem (by simpa using hlt)]; rfl
theorem b5E (n w : Nat) (hw : w ≤ 15) (hn : n < 4611686018427387904) : Ctr prog 80 [.d (.int .i64 n), .d (.int .i64 w)] (.d (.str (R6 n w))) := by
 refine fv (fun i => i == 8 || i == 5) func80 (by kernel_rfl) rfl rfl rfl rfl rfl ?_; simp -implicitDefEqProofs; (repeat refine ai (by omega) ?_); refine H4 w (fun k τ => τ 0 = .d (.int .i64 n) ∧ τ 1 = .d (.int .i64 w) ∧ τ 10 = .d (.int .i64 w) ∧ τ 11 = .d (.int .i64 k) ∧ τ 5 = .own true 5 (a1y n w k)) ⟨by simp, by simp, by simp, by simp, by simp [a1y, R6, D5]⟩ ?_; rintro k τ hk ⟨h0, h1, h10, h11, h5⟩; have hlen := b9m (n := n) hk; by_cases hlt : k < w
 · have hlt' : (k : Int) < w := (by omega); have hset := b8W (n := n) hlt; have hg0 := b9j (n := n) hlt; have hsh : (n : Int) / 2 ^ (4 * (k : Int)).toNat = ((n / 16 ^ k : Nat) : Int) := by
     rw [show (4 * (k : Int)).toNat = 4 * k by omega, Nat.pow_mul 2 4 k |> fun e => show (2 : Int) ^ (4 * k) = ((16 ^ k : Nat) : Int) by rw [show (16 : Nat) ^ k = 2 ^ (4 * k) by rw [e]]; simp]; simp
   have hle : n / 16 ^ k ≤ n := Nat.div_le_self _ _; have hand : (n / 16 ^ k) &&& 15 = n / 16 ^ k % 16 := Nat.and_two_pow_sub_one_eq_mod _ 4; have hget := c7U (n / 16 ^ k); have hix : ((w : Int) - 1 - k).toNat = w - 1 - k := (by omega); generalize n / 16 ^ k = X at *; simp only [J9] at hget; have hmod : ((X : Int) % 16).toNat = X % 16 := (by omega); simp -implicitDefEqProofs [h0, h1, h10, h11, h5, hlt, hlt', hsh, hand, hmod, hget]; (repeat refine ai (by omega) ?_); simp -implicitDefEqProofs [h0, h1, h10, h11, h5, hlt, hlt', hlen, hix, hset, hmod, hget, hg0]; (repeat refine ai (by omega) ?_); exact F0 hlt ⟨by simp [h0], by simp [h1], by simp [h10], by simp, by simp [hset]⟩
 · have hlt' : ¬ (k : Int) < w := (by omega); obtain rfl : k = w := by omega
   have hrow : a1y n k k = D5 (R6 n k) := (by simp [a1y]); rw [hrow] at h5; simp -implicitDefEqProofs [h0, h1, h10, h11, h5]
theorem c2d {n : Int} {a b : Str} (hn : 0 ≤ n) (h : T1 n a < 0) : T1 n (a ++ b) = -1 := by rw [a5E n hn, if_pos h]
def a2s (s : Str) (k : Nat) : Int := T1 0 (s.take k)
theorem b3Y {s : Str} {k : Nat} (hk : k < s.length) (h0 : 0 ≤ a2s s k) : a2s s (k + 1) = if ixB J9 s[k] < 0 then -1 else a2s s k * 16 + ixB J9 s[k] := by
 unfold a2s at *; rw [take_add_one, getElem?_eq_getElem hk, Option.toList_some, a5E 0 (Int.le_refl _), if_neg (by omega)]; simp only [T1]
theorem c3S {s : Str} {k : Nat} (hk : k < s.length) (h0 : 0 ≤ a2s s k) (h : ixB J9 s[k] < 0) : a3m s = -1 := by
 have e : s = s.take (k + 1) ++ s.drop (k + 1) := (take_append_drop _ _).symm; have h1 := b3Y hk h0; rw [if_pos h] at h1; unfold a2s at h1; unfold a3m; rw [e]; exact c2d (Int.le_refl _) (by omega)
theorem c5J {s : Str} {k : Nat} (hs : s.length ≤ 12) : a2s s k < 281474976710656 := by
 have h1 := b5B (s.take k) 0 (Int.le_refl _); have h2 : (s.take k).length ≤ 12 := by simp; omega
 have h3 : (16 : Int) ^ (s.take k).length ≤ 16 ^ 12 := by
   have : (16 : Nat) ^ (s.take k).length ≤ 16 ^ 12 := Nat.pow_le_pow_right (by decide) h2
   exact_mod_cast this
 have h4 : (16 : Int) ^ 12 = 281474976710656 := (by decide); unfold a2s; omega
theorem d3P {n d : Nat} (hd : d < 16) : n * 16 ||| d = n * 16 + d := by
 have := Nat.two_pow_add_eq_or_of_lt (i := 4) (b := d) (by simpa using hd) n; have e : (2 : Nat) ^ 4 * n = n * 16 := (by omega); rw [e] at this; exact this.symm
theorem a8X (s : Str) (hs : s.length ≤ 12) : Ctr prog 103 [.d (.str s)] (.d (.int .i64 (a3m s))) := by
 refine fv (fun _ => false) func103 (by kernel_rfl) rfl rfl rfl rfl rfl ?_; obtain ⟨R, hR⟩ : ∃ R, a3m s = R := ⟨_, rfl⟩; rw [hR]; simp -implicitDefEqProofs; (repeat refine ai (by omega) ?_); refine H4 s.length (fun k τ => τ 0 = .d (.str s) ∧ τ 7 = .d (.int .i64 s.length) ∧ τ 8 = .d (.int .i64 k) ∧ τ 3 = .d (.int .i64 (a2s s k)) ∧ 0 ≤ a2s s k) ⟨by simp, by simp, by simp, by simp [a2s, T1], by simp [a2s, T1]⟩ ?_; rintro k τ hk ⟨h0, h7, h8, h3, hI⟩; by_cases hlt : k < s.length
 · have hlt' : (k : Int) < s.length := (by omega); have hb := c3S hlt hI; have hs1 := b3Y hlt hI; have hlt9 := c5J (k := k) hs; have c1 := a8f J9 s[k]; have hix : ¬ ixB J9 s[k] < 0 → (ixB J9 s[k]).toNat < 16 := fun h => (b3i h).2
   generalize hN : a2s s k = N at *; generalize hc : s[k] = c at *; generalize hX : ixB J9 c = X at *; simp only [J9] at c1; by_cases hn : X < 0
   · rw [hb hn] at hR; subst hR; simp -implicitDefEqProofs [h0, h7, h8, h3, hlt, hlt', hc]; (repeat refine ai (by omega) ?_); refine A3 c1 ?_; simp -implicitDefEqProofs [hn]
   · have hx16 := hix hn; rw [if_neg hn] at hs1; have hor : ((N * 16).toNat ||| X.toNat) = (N * 16 + X).toNat := by
       have := d3P (n := N.toNat) hx16; rw [show (N * 16).toNat = N.toNat * 16 by omega, this]; omega
     have hor' : (((N * 16 + X).toNat : Nat) : Int) = N * 16 + X := (by omega); simp -implicitDefEqProofs [h0, h7, h8, h3, hlt, hlt', hc]; (repeat refine ai (by omega) ?_); refine A3 c1 ?_; simp -implicitDefEqProofs [hn, h0, h7, h8, h3]; (repeat refine ai (by omega) ?_); refine F0 hlt ⟨by simp [h0], by simp [h7], by simp, ?_, ?_⟩
     · simp [hs1, hor, hor']; try omega
     · omega
 · have hlt' : ¬ (k : Int) < s.length := (by omega); have he : a2s s k = R := by
     rw [← hR]; unfold a2s a3m; rw [ttl (by omega)]
   rw [he] at h3; simp -implicitDefEqProofs [h0, h7, h8, h3, hlt, hlt']
end Go.Proofs.Tz