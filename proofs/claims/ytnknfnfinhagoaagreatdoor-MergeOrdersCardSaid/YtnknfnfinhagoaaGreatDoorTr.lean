/-
  What the functions that the statements about merged states reach compute, part 1 of 6, for data of bounded size (each theorem states its bound).
-/import Derived.Test.YtnknfnfinhagoaaGreatDoorWo
import Derived.Test.YtnknfnfinhagoaaGreatDoorProg
import Derived.KernelRfl
import Derived.WalkKit
import Derived.Lib.Builder
import Derived.Lib.UnsafeStr
import Derived.Laws.Externs
import Derived.RegionTactic
import Derived.Lib.Bytealg
import Derived.Lib.Join
open List
open Go.Proofs.Tryz
set_option linter.unusedSimpArgs false
set_option linter.unusedVariables false
namespace Go.Proofs
open Go.Vw
@[simp] theorem Tryz.ez_1 : esz prog 1 = some (1, 8) ∧ D4 prog 1 = some 1 ∧ tyk prog 1 = some (false, 1) ∧ D3 prog 1 = some (.raw .nilFunc) := by and_intros <;> kernel_rfl
@[simp] theorem Tryz.u_2 : Program.underlying prog 2 = some (.int .i64) ∧ H3 prog 2 = none ∧ esz prog 2 = some (1, 8) ∧ D4 prog 2 = some 1 ∧ tyk prog 2 = some (false, 1) ∧ D3 prog 2 = some (.int .i64 0) := by and_intros <;> kernel_rfl
@[simp] theorem Tryz.u_3 : Program.underlying prog 3 = some (.int .i64) ∧ H3 prog 3 = none ∧ esz prog 3 = some (1, 8) ∧ D4 prog 3 = some 1 ∧ tyk prog 3 = some (false, 1) ∧ D3 prog 3 = some (.int .i64 0) := by and_intros <;> kernel_rfl
@[simp] theorem Tryz.u_4 : Program.underlying prog 4 = some .bool ∧ H3 prog 4 = none ∧ esz prog 4 = some (1, 1) ∧ D4 prog 4 = some 1 ∧ tyk prog 4 = some (false, 1) := by and_intros <;> kernel_rfl
@[simp] theorem Tryz.zd_4 : D3 prog 4 = some (.bool false) := by kernel_rfl
@[simp] theorem Tryz.u_5 : Program.underlying prog 5 = some (.int .u8) ∧ H3 prog 5 = none ∧ esz prog 5 = some (1, 1) ∧ D4 prog 5 = some 1 ∧ tyk prog 5 = some (false, 1) ∧ D3 prog 5 = some (.int .u8 0) := by and_intros <;> kernel_rfl
@[simp] theorem Tryz.u_9 : Program.underlying prog 9 = some .string ∧ H3 prog 9 = none ∧ esz prog 9 = some (1, 16) := by and_intros <;> kernel_rfl
@[simp] theorem Tryz.sz_9 : D4 prog 9 = some 1 := by kernel_rfl
@[simp] theorem Tryz.tk_9 : tyk prog 9 = some (false, 1) := by kernel_rfl
@[simp] theorem Tryz.zd_9 : D3 prog 9 = some (.str []) := by kernel_rfl
@[simp] theorem Tryz.u_12 : Program.underlying prog 12 = some (.int .u64) ∧ H3 prog 12 = none ∧ esz prog 12 = some (1, 8) ∧ D4 prog 12 = some 1 ∧ tyk prog 12 = some (false, 1) ∧ D3 prog 12 = some (.int .u64 0) := by and_intros <;> kernel_rfl
@[simp] theorem Tryz.ez_13 : esz prog 13 = some (2, 24) ∧ D4 prog 13 = some 2 ∧ tyk prog 13 = some (true, 2) ∧ D3 prog 13 = some (.agg [.str [], .int .u64 0]) ∧ T3 prog 13 = some [.str [], .int .u64 0] := by and_intros <;> kernel_rfl
@[simp] theorem Tryz.fo_13_0 : E7 prog 13 0 = some 0 := by kernel_rfl
@[simp] theorem Tryz.fo_13_1 : E7 prog 13 1 = some 1 := by kernel_rfl
@[simp] theorem Tryz.u_21 : Program.underlying prog 21 = some (.int .i32) ∧ H3 prog 21 = none ∧ esz prog 21 = some (1, 4) ∧ D4 prog 21 = some 1 ∧ tyk prog 21 = some (false, 1) ∧ D3 prog 21 = some (.int .i32 0) := by and_intros <;> kernel_rfl
@[simp] theorem Tryz.u_22 : Program.underlying prog 22 = some (.slice 35) ∧ H3 prog 22 = some 35 ∧ esz prog 22 = some (1, 24) ∧ D4 prog 22 = some 1 ∧ tyk prog 22 = some (false, 1) ∧ D3 prog 22 = some (.sl []) := by and_intros <;> kernel_rfl
@[simp] theorem Tryz.u_25 : Program.underlying prog 25 = some (.pointer 65) ∧ esz prog 25 = some (1, 8) ∧ D4 prog 25 = some 1 ∧ tyk prog 25 = some (false, 1) ∧ D3 prog 25 = some (.nilp) := by and_intros <;> kernel_rfl
@[simp] theorem Tryz.u_29 : Program.underlying prog 29 = some (.int .i64) ∧ H3 prog 29 = none ∧ esz prog 29 = some (1, 8) ∧ D4 prog 29 = some 1 ∧ tyk prog 29 = some (false, 1) ∧ D3 prog 29 = some (.int .i64 0) := by and_intros <;> kernel_rfl
@[simp] theorem Tryz.ez_32 : esz prog 32 = some (3, 24) ∧ D4 prog 32 = some 3 ∧ tyk prog 32 = some (true, 3) ∧ D3 prog 32 = some (.agg [.int .i64 0, .int .i64 0, .int .i64 0]) ∧ T3 prog 32 = some [.int .i64 0, .int .i64 0, .int .i64 0] := by and_intros <;> kernel_rfl
@[simp] theorem Tryz.fo_32_0 : E7 prog 32 0 = some 0 := by kernel_rfl
@[simp] theorem Tryz.fo_32_1 : E7 prog 32 1 = some 1 := by kernel_rfl
@[simp] theorem Tryz.fo_32_2 : E7 prog 32 2 = some 2 := by kernel_rfl
@[simp] theorem Tryz.u_33 : Program.underlying prog 33 = some (.int .i64) ∧ H3 prog 33 = none ∧ esz prog 33 = some (1, 8) ∧ D4 prog 33 = some 1 ∧ tyk prog 33 = some (false, 1) ∧ D3 prog 33 = some (.int .i64 0) := by and_intros <;> kernel_rfl
@[simp] theorem Tryz.ez_35 : esz prog 35 = some (8, 96) := by kernel_rfl
@[simp] theorem Tryz.sz_35 : D4 prog 35 = some 8 := by kernel_rfl
@[simp] theorem Tryz.tk_35 : tyk prog 35 = some (true, 8) := by kernel_rfl
@[simp] theorem Tryz.zd_35 : D3 prog 35 = some (.agg [.agg [.int .i64 0, .int .i64 0, .int .i64 0], .int .i64 0, .str [], .str [], .str [], .str []]) := by kernel_rfl
@[simp] theorem Tryz.sd_35 : T3 prog 35 = some [.agg [.int .i64 0, .int .i64 0, .int .i64 0], .int .i64 0, .str [], .str [], .str [], .str []] := by kernel_rfl
@[simp] theorem Tryz.fo_35_0 : E7 prog 35 0 = some 0 := by kernel_rfl
@[simp] theorem Tryz.fo_35_1 : E7 prog 35 1 = some 3 := by kernel_rfl
@[simp] theorem Tryz.fo_35_2 : E7 prog 35 2 = some 4 := by kernel_rfl
@[simp] theorem Tryz.fo_35_3 : E7 prog 35 3 = some 5 := by kernel_rfl
@[simp] theorem Tryz.fo_35_4 : E7 prog 35 4 = some 6 := by kernel_rfl
@[simp] theorem Tryz.fo_35_5 : E7 prog 35 5 = some 7 := by kernel_rfl
@[simp] theorem Tryz.u_43 : Program.underlying prog 43 = some (.slice 9) ∧ H3 prog 43 = some 9 ∧ esz prog 43 = some (1, 24) ∧ D4 prog 43 = some 1 ∧ tyk prog 43 = some (false, 1) ∧ D3 prog 43 = some (.sl []) := by and_intros <;> kernel_rfl
@[simp] theorem Tryz.ez_44 : esz prog 44 = some (1, 8) ∧ D4 prog 44 = some 1 ∧ tyk prog 44 = some (false, 1) ∧ D3 prog 44 = some (.raw .nilFunc) := by and_intros <;> kernel_rfl
@[simp] theorem Tryz.ez_45 : esz prog 45 = some (1, 8) ∧ D4 prog 45 = some 1 ∧ tyk prog 45 = some (false, 1) ∧ D3 prog 45 = some (.raw .nilFunc) := by and_intros <;> kernel_rfl
@[simp] theorem Tryz.u_46 : Program.underlying prog 46 = some (.slice 72) ∧ H3 prog 46 = some 72 ∧ esz prog 46 = some (1, 24) ∧ D4 prog 46 = some 1 ∧ tyk prog 46 = some (false, 1) ∧ D3 prog 46 = some (.sl []) := by and_intros <;> kernel_rfl
@[simp] theorem Tryz.ez_48 : esz prog 48 = some (2, 40) ∧ D4 prog 48 = some 2 ∧ tyk prog 48 = some (true, 2) ∧ D3 prog 48 = some (.agg [.str [], .sl []]) ∧ T3 prog 48 = some [.str [], .sl []] := by and_intros <;> kernel_rfl
@[simp] theorem Tryz.fo_48_0 : E7 prog 48 0 = some 0 := by kernel_rfl
@[simp] theorem Tryz.fo_48_1 : E7 prog 48 1 = some 1 := by kernel_rfl
@[simp] theorem Tryz.ez_50 : esz prog 50 = some (1, 8) ∧ D4 prog 50 = some 1 ∧ tyk prog 50 = some (false, 1) ∧ D3 prog 50 = some (.raw .nilFunc) := by and_intros <;> kernel_rfl
@[simp] theorem Tryz.u_56 : Program.underlying prog 56 = some (.slice 48) ∧ H3 prog 56 = some 48 ∧ esz prog 56 = some (1, 24) ∧ D4 prog 56 = some 1 ∧ tyk prog 56 = some (false, 1) ∧ D3 prog 56 = some (.sl []) := by and_intros <;> kernel_rfl
@[simp] theorem Tryz.ez_57 : esz prog 57 = some (1, 8) ∧ D4 prog 57 = some 1 ∧ tyk prog 57 = some (false, 1) ∧ D3 prog 57 = some (.raw .nilFunc) := by and_intros <;> kernel_rfl
@[simp] theorem Tryz.ez_61 : esz prog 61 = some (1, 8) ∧ D4 prog 61 = some 1 ∧ tyk prog 61 = some (false, 1) ∧ D3 prog 61 = some (.raw .nilFunc) := by and_intros <;> kernel_rfl
@[simp] theorem Tryz.ez_62 : esz prog 62 = some (1, 8) ∧ D4 prog 62 = some 1 ∧ tyk prog 62 = some (false, 1) ∧ D3 prog 62 = some (.raw (.map none)) := by and_intros <;> kernel_rfl
@[simp] theorem Tryz.ez_63 : esz prog 63 = some (1, 8) ∧ D4 prog 63 = some 1 ∧ tyk prog 63 = some (false, 1) ∧ D3 prog 63 = some (.raw (.map none)) := by and_intros <;> kernel_rfl
@[simp] theorem Tryz.ez_64 : esz prog 64 = some (2, 16) ∧ D4 prog 64 = some 2 ∧ tyk prog 64 = some (true, 2) ∧ D3 prog 64 = some (.agg [.raw (.map none), .raw (.map none)]) ∧ T3 prog 64 = some [.raw (.map none), .raw (.map none)] := by and_intros <;> kernel_rfl
@[simp] theorem Tryz.fo_64_0 : E7 prog 64 0 = some 0 := by kernel_rfl
@[simp] theorem Tryz.fo_64_1 : E7 prog 64 1 = some 1 := by kernel_rfl
@[simp] theorem Tryz.ez_65 : esz prog 65 = some (2, 16) ∧ D4 prog 65 = some 2 ∧ tyk prog 65 = some (true, 2) ∧ D3 prog 65 = some (.agg [.raw (.map none), .raw (.map none)]) ∧ T3 prog 65 = some [.raw (.map none), .raw (.map none)] := by and_intros <;> kernel_rfl
@[simp] theorem Tryz.fo_65_0 : E7 prog 65 0 = some 0 := by kernel_rfl
@[simp] theorem Tryz.fo_65_1 : E7 prog 65 1 = some 1 := by kernel_rfl
@[simp] theorem Tryz.u_66 : Program.underlying prog 66 = some (.slice 5) ∧ H3 prog 66 = some 5 ∧ esz prog 66 = some (1, 24) ∧ D4 prog 66 = some 1 ∧ tyk prog 66 = some (false, 1) ∧ D3 prog 66 = some (.sl []) := by and_intros <;> kernel_rfl
@[simp] theorem Tryz.ez_72 : esz prog 72 = some (2, 40) := by kernel_rfl
@[simp] theorem Tryz.sz_72 : D4 prog 72 = some 2 := by kernel_rfl
@[simp] theorem Tryz.tk_72 : tyk prog 72 = some (true, 2) ∧ D3 prog 72 = some (.agg [.str [], .sl []]) ∧ T3 prog 72 = some [.str [], .sl []] := by and_intros <;> kernel_rfl
@[simp] theorem Tryz.fo_72_0 : E7 prog 72 0 = some 0 := by kernel_rfl
@[simp] theorem Tryz.fo_72_1 : E7 prog 72 1 = some 1 := by kernel_rfl
@[simp] theorem Tryz.u_75 : Program.underlying prog 75 = some (.pointer 78) ∧ esz prog 75 = some (1, 8) ∧ D4 prog 75 = some 1 ∧ tyk prog 75 = some (false, 1) := by and_intros <;> kernel_rfl
@[simp] theorem Tryz.zd_75 : D3 prog 75 = some (.nilp) := by kernel_rfl
@[simp] theorem Tryz.ez_76 : esz prog 76 = some (1, 8) ∧ D4 prog 76 = some 1 ∧ tyk prog 76 = some (false, 1) ∧ D3 prog 76 = some (.raw (.map none)) := by and_intros <;> kernel_rfl
@[simp] theorem Tryz.ez_78 : esz prog 78 = some (11, 112) ∧ D4 prog 78 = some 11 ∧ tyk prog 78 = some (true, 11) ∧ D3 prog 78 = some (.agg [.bool false, .bool false, .agg [.agg [.int .i64 0, .int .i64 0, .int .i64 0], .int .i64 0, .str [], .str [], .str [], .str []], .raw (.map none)]) ∧ T3 prog 78 = some [.bool false, .bool false, .agg [.agg [.int .i64 0, .int .i64 0, .int .i64 0], .int .i64 0, .str [], .str [], .str [], .str []], .raw (.map none)] := by and_intros <;> kernel_rfl
@[simp] theorem Tryz.fo_78_0 : E7 prog 78 0 = some 0 := by kernel_rfl
@[simp] theorem Tryz.fo_78_1 : E7 prog 78 1 = some 1 := by kernel_rfl
@[simp] theorem Tryz.fo_78_2 : E7 prog 78 2 = some 2 := by kernel_rfl
@[simp] theorem Tryz.fo_78_3 : E7 prog 78 3 = some 10 := by kernel_rfl
@[simp] theorem Tryz.ez_80 : esz prog 80 = some (1, 8) ∧ D4 prog 80 = some 1 ∧ tyk prog 80 = some (false, 1) ∧ D3 prog 80 = some (.raw (.map none)) := by and_intros <;> kernel_rfl
@[simp] theorem Tryz.ez_89 : esz prog 89 = some (1, 8) ∧ D4 prog 89 = some 1 ∧ tyk prog 89 = some (false, 1) ∧ D3 prog 89 = some (.raw .nilFunc) := by and_intros <;> kernel_rfl
@[simp] theorem Tryz.ez_90 : esz prog 90 = some (1, 8) ∧ D4 prog 90 = some 1 ∧ tyk prog 90 = some (false, 1) ∧ D3 prog 90 = some (.raw .nilFunc) := by and_intros <;> kernel_rfl
@[simp] theorem Tryz.ez_92 : esz prog 92 = some (1, 8) ∧ D4 prog 92 = some 1 ∧ tyk prog 92 = some (false, 1) ∧ D3 prog 92 = some (.raw .nilFunc) := by and_intros <;> kernel_rfl
@[simp] theorem Tryz.ez_95 : esz prog 95 = some (1, 8) ∧ D4 prog 95 = some 1 ∧ tyk prog 95 = some (false, 1) ∧ D3 prog 95 = some (.raw (.map none)) := by and_intros <;> kernel_rfl
@[simp] theorem Tryz.ez_97 : esz prog 97 = some (1, 8) ∧ D4 prog 97 = some 1 ∧ tyk prog 97 = some (false, 1) ∧ D3 prog 97 = some (.raw .nilFunc) := by and_intros <;> kernel_rfl
@[simp] theorem Tryz.ez_100 : esz prog 100 = some (2, 32) ∧ D4 prog 100 = some 2 ∧ tyk prog 100 = some (true, 2) ∧ D3 prog 100 = some (.agg [.str [], .str []]) ∧ T3 prog 100 = some [.str [], .str []] := by and_intros <;> kernel_rfl
@[simp] theorem Tryz.fo_100_0 : E7 prog 100 0 = some 0 := by kernel_rfl
@[simp] theorem Tryz.fo_100_1 : E7 prog 100 1 = some 1 := by kernel_rfl
@[simp] theorem Tryz.ez_101 : esz prog 101 = some (2, 32) ∧ D4 prog 101 = some 2 ∧ tyk prog 101 = some (true, 2) ∧ D3 prog 101 = some (.agg [.str [], .str []]) ∧ T3 prog 101 = some [.str [], .str []] := by and_intros <;> kernel_rfl
@[simp] theorem Tryz.fo_101_0 : E7 prog 101 0 = some 0 := by kernel_rfl
@[simp] theorem Tryz.fo_101_1 : E7 prog 101 1 = some 1 := by kernel_rfl
@[simp] theorem Tryz.ez_106 : esz prog 106 = some (1, 8) ∧ D4 prog 106 = some 1 ∧ tyk prog 106 = some (false, 1) ∧ D3 prog 106 = some (.raw .nilFunc) := by and_intros <;> kernel_rfl
@[simp] theorem Tryz.ez_107 : esz prog 107 = some (1, 8) ∧ D4 prog 107 = some 1 ∧ tyk prog 107 = some (false, 1) ∧ D3 prog 107 = some (.raw .nilFunc) := by and_intros <;> kernel_rfl
@[simp] theorem Tryz.ez_109 : esz prog 109 = some (1, 8) ∧ D4 prog 109 = some 1 ∧ tyk prog 109 = some (false, 1) ∧ D3 prog 109 = some (.raw .nilFunc) := by and_intros <;> kernel_rfl
@[simp] theorem Tryz.u_117 : Program.underlying prog 117 = some (.slice 121) ∧ H3 prog 117 = some 121 ∧ esz prog 117 = some (1, 24) ∧ D4 prog 117 = some 1 ∧ tyk prog 117 = some (false, 1) ∧ D3 prog 117 = some (.sl []) := by and_intros <;> kernel_rfl
@[simp] theorem Tryz.ez_121 : esz prog 121 = some (2, 32) ∧ D4 prog 121 = some 2 ∧ tyk prog 121 = some (true, 2) ∧ D3 prog 121 = some (.agg [.str [], .str []]) ∧ T3 prog 121 = some [.str [], .str []] := by and_intros <;> kernel_rfl
@[simp] theorem Tryz.fo_121_0 : E7 prog 121 0 = some 0 := by kernel_rfl
@[simp] theorem Tryz.fo_121_1 : E7 prog 121 1 = some 1 := by kernel_rfl
@[simp] theorem Tryz.ez_122 : esz prog 122 = some (1, 8) ∧ D4 prog 122 = some 1 ∧ tyk prog 122 = some (false, 1) ∧ D3 prog 122 = some (.raw .nilFunc) := by and_intros <;> kernel_rfl
@[simp] theorem Tryz.ez_128 : esz prog 128 = some (1, 8) ∧ D4 prog 128 = some 1 ∧ tyk prog 128 = some (false, 1) ∧ D3 prog 128 = some (.raw .nilFunc) := by and_intros <;> kernel_rfl
@[simp] theorem Tryz.ez_129 : esz prog 129 = some (1, 8) ∧ D4 prog 129 = some 1 ∧ tyk prog 129 = some (false, 1) ∧ D3 prog 129 = some (.raw .nilFunc) := by and_intros <;> kernel_rfl
@[simp] theorem Tryz.u_132 : Program.underlying prog 132 = some (.int .u64) ∧ H3 prog 132 = none ∧ esz prog 132 = some (1, 8) ∧ D4 prog 132 = some 1 ∧ tyk prog 132 = some (false, 1) ∧ D3 prog 132 = some (.int .u64 0) := by and_intros <;> kernel_rfl
@[simp] theorem Tryz.ez_135 : esz prog 135 = some (1, 8) ∧ D4 prog 135 = some 1 ∧ tyk prog 135 = some (false, 1) ∧ D3 prog 135 = some (.raw .nilFunc) := by and_intros <;> kernel_rfl
@[simp] theorem Tryz.ez_136 : esz prog 136 = some (1, 8) ∧ D4 prog 136 = some 1 ∧ tyk prog 136 = some (false, 1) ∧ D3 prog 136 = some (.raw .nilFunc) := by and_intros <;> kernel_rfl
@[simp] theorem Tryz.u_139 : Program.underlying prog 139 = some (.slice 22) ∧ H3 prog 139 = some 22 ∧ esz prog 139 = some (1, 24) ∧ D4 prog 139 = some 1 ∧ tyk prog 139 = some (false, 1) ∧ D3 prog 139 = some (.sl []) := by and_intros <;> kernel_rfl
@[simp] theorem Tryz.ez_149 : esz prog 149 = some (1, 8) ∧ D4 prog 149 = some 1 ∧ tyk prog 149 = some (false, 1) ∧ D3 prog 149 = some (.raw .nilFunc) := by and_intros <;> kernel_rfl
@[simp] theorem Tryz.ez_153 : esz prog 153 = some (1, 8) ∧ D4 prog 153 = some 1 ∧ tyk prog 153 = some (false, 1) ∧ D3 prog 153 = some (.raw .nilFunc) := by and_intros <;> kernel_rfl
@[simp] theorem Tryz.u_154 : Program.underlying prog 154 = some (.slice 3) ∧ H3 prog 154 = some 3 ∧ esz prog 154 = some (1, 24) ∧ D4 prog 154 = some 1 ∧ tyk prog 154 = some (false, 1) ∧ D3 prog 154 = some (.sl []) := by and_intros <;> kernel_rfl
@[simp] theorem Tryz.u_166 : Program.underlying prog 166 = some (.int .u32) ∧ H3 prog 166 = none ∧ esz prog 166 = some (1, 4) ∧ D4 prog 166 = some 1 ∧ tyk prog 166 = some (false, 1) ∧ D3 prog 166 = some (.int .u32 0) := by and_intros <;> kernel_rfl
@[simp] theorem Tryz.u_168 : Program.underlying prog 168 = some (.int .u64) ∧ H3 prog 168 = none ∧ esz prog 168 = some (1, 8) ∧ D4 prog 168 = some 1 ∧ tyk prog 168 = some (false, 1) ∧ D3 prog 168 = some (.int .u64 0) := by and_intros <;> kernel_rfl
@[simp] theorem Tryz.ez_171 : esz prog 171 = some (1, 8) ∧ D4 prog 171 = some 1 ∧ tyk prog 171 = some (false, 1) ∧ D3 prog 171 = some (.raw .nilFunc) := by and_intros <;> kernel_rfl
@[simp] theorem Tryz.u_173 : Program.underlying prog 173 = some (.pointer 175) ∧ esz prog 173 = some (1, 8) ∧ D4 prog 173 = some 1 ∧ tyk prog 173 = some (false, 1) ∧ D3 prog 173 = some (.nilp) := by and_intros <;> kernel_rfl
@[simp] theorem Tryz.ez_175 : esz prog 175 = some (2, 32) ∧ D4 prog 175 = some 2 ∧ tyk prog 175 = some (true, 2) ∧ D3 prog 175 = some (.agg [.nilp, .sl []]) ∧ T3 prog 175 = some [.nilp, .sl []] := by and_intros <;> kernel_rfl
@[simp] theorem Tryz.fo_175_0 : E7 prog 175 0 = some 0 := by kernel_rfl
@[simp] theorem Tryz.fo_175_1 : E7 prog 175 1 = some 1 := by kernel_rfl
@[simp] theorem Tryz.u_201 : Program.underlying prog 201 = some (.pointer 3) ∧ esz prog 201 = some (1, 8) ∧ D4 prog 201 = some 1 ∧ tyk prog 201 = some (false, 1) ∧ D3 prog 201 = some (.nilp) := by and_intros <;> kernel_rfl
@[simp] theorem Tryz.u_205 : Program.underlying prog 205 = some (.pointer 5) ∧ esz prog 205 = some (1, 8) ∧ D4 prog 205 = some 1 ∧ tyk prog 205 = some (false, 1) ∧ D3 prog 205 = some (.nilp) := by and_intros <;> kernel_rfl
@[simp] theorem Tryz.eqs_32 : a1L prog 32 = true := by kernel_rfl
@[simp] theorem Tryz.kf_32 (a0 : Int) (a1 : Int) (a2 : Int) : U7 prog (Program.fieldsOf prog 32).toList 0 [.int .i64 a0, .int .i64 a1, .int .i64 a2] = true := by kernel_rfl
@[simp] theorem Tryz.lf_32 (a0 b0 : Int) (a1 b1 : Int) (a2 b2 : Int) : P6 prog (Program.fieldsOf prog 32).toList 0 [.int .i64 a0, .int .i64 a1, .int .i64 a2] [.int .i64 b0, .int .i64 b1, .int .i64 b2] = true := by kernel_rfl
@[simp] theorem Tryz.eqs_35 : a1L prog 35 = true := by kernel_rfl
@[simp] theorem Tryz.kf_35 (a0_0 : Int) (a0_1 : Int) (a0_2 : Int) (a1 : Int) (a2 : Str) (a3 : Str) (a4 : Str) (a5 : Str) : U7 prog (Program.fieldsOf prog 35).toList 0 [.agg [.int .i64 a0_0, .int .i64 a0_1, .int .i64 a0_2], .int .i64 a1, .str a2, .str a3, .str a4, .str a5] = true := by kernel_rfl
@[simp] theorem Tryz.lf_35 (a0_0 b0_0 : Int) (a0_1 b0_1 : Int) (a0_2 b0_2 : Int) (a1 b1 : Int) (a2 b2 : Str) (a3 b3 : Str) (a4 b4 : Str) (a5 b5 : Str) : P6 prog (Program.fieldsOf prog 35).toList 0 [.agg [.int .i64 a0_0, .int .i64 a0_1, .int .i64 a0_2], .int .i64 a1, .str a2, .str a3, .str a4, .str a5] [.agg [.int .i64 b0_0, .int .i64 b0_1, .int .i64 b0_2], .int .i64 b1, .str b2, .str b3, .str b4, .str b5] = true := by kernel_rfl
@[simp] theorem Tryz.eqs_101 : a1L prog 101 = true := by kernel_rfl
@[simp] theorem Tryz.kf_101 (a0 : Str) (a1 : Str) : U7 prog (Program.fieldsOf prog 101).toList 0 [.str a0, .str a1] = true := by kernel_rfl
@[simp] theorem Tryz.lf_101 (a0 b0 : Str) (a1 b1 : Str) : P6 prog (Program.fieldsOf prog 101).toList 0 [.str a0, .str a1] [.str b0, .str b1] = true := by kernel_rfl
@[simp] theorem Tryz.eqs_121 : a1L prog 121 = true := by kernel_rfl
@[simp] theorem Tryz.kf_121 (a0 : Str) (a1 : Str) : U7 prog (Program.fieldsOf prog 121).toList 0 [.str a0, .str a1] = true := by kernel_rfl
@[simp] theorem Tryz.lf_121 (a0 b0 : Str) (a1 b1 : Str) : P6 prog (Program.fieldsOf prog 121).toList 0 [.str a0, .str a1] [.str b0, .str b1] = true := by kernel_rfl
end Go.Proofs
namespace Go.Proofs.Tz
open Go.Vw Go.RowKit Go.Proofs
theorem nbl {a b : Nat} (h : Nat.ble a b = true) : a ≤ b := Nat.le_of_ble_eq_true h
theorem ttl {α : Type} {i : Nat} {l : List α} (h : l.length ≤ i) : l.take i = l := take_of_length_le h
theorem ai {a b : Prop} (h : a) (k : b) : a ∧ b := ⟨h, k⟩
theorem gmm {α : Type} {l : List α} {n : Nat} (h : n < l.length) : l[n] ∈ l := getElem_mem h
theorem fv {f : FuncId} {fn : Func} {c : Code} {args : List AV} {t : Nat} {r : AV} (F : Nat → Bool) (hf : prog.funcs[f]? = some fn) (hk : (!(fn.name == "runtime.NumGoroutine") && a0U F fn.ntmps c) = true) (hb : fn.body = some c) (hres : fn.results = #[.tmp t]) (ha : Nat.ble args.length fn.ntmps = true) (harg : (args.all b1M) = true) (hone : a4M args = true) (h : vwp prog F c (b2y t r) (a5r args)) : Ctr prog f args r :=
 c1s F (by kernel_rfl) hf (by simpa using (Bool.and_eq_true_iff.1 hk).1) hb hres (Nat.le_of_ble_eq_true ha) (Bool.and_eq_true_iff.1 hk).2 harg hone h
theorem b5z : (prog.info? 175).map (·.size) = some 2 := by kernel_rfl
theorem c2y : liesAt prog prog.depth 175 (2 / prog.cellsOf 175) 0 175 1 = true := by kernel_rfl
set_option maxRecDepth 100000 in
set_option maxHeartbeats 1000000 in
theorem c6q (b : Nat) (w : World) (h0 : w.cell? ⟨b, 0, none⟩ = some (.pointer (some ⟨b, 0, none⟩))) :
   Calls prog 206 #[.pointer (some ⟨b, 0, none⟩)] w fun e w' => e = .returned (.tuple #[]) ∧ w' = w := by
 obtain ⟨j, hj, _⟩ := Option.map_eq_some_iff.1 b5z
 go_enter func206, Tryz.ntmps206
 go_wp2
 rw [Lib.run_neq_ptr_same w _ Tryz.underlying173 hj]
 go_wp2
 go_end0
 exact ⟨rfl, rfl⟩
set_option maxRecDepth 100000 in
set_option maxHeartbeats 1000000 in
theorem b6h (b : Nat) (w : World) (h0 : w.cell? ⟨b, 0, none⟩ = some (.pointer none)) (hsh : w.shape? b = some (175, 2)) (hfz : w.frozen? ⟨b, 0, none⟩ = false) :
   Calls prog 206 #[.pointer (some ⟨b, 0, none⟩)] w fun e w' => e = .returned (.tuple #[]) ∧ w' = w.setCell ⟨b, 0, none⟩ (.pointer (some ⟨b, 0, none⟩)) := by
 obtain ⟨j, hj, hjs⟩ := Option.map_eq_some_iff.1 b5z
 go_enter func206, Tryz.ntmps206
 go_wp2
 rw [Lib.run_to_unsafe w ⟨b, 0, none⟩ Tryz.underlying173 Tryz.underlying226 hj (by rw [hjs]; decide) hsh (Nat.zero_lt_succ 1)]; simp only [Result.andThen]; rw [Oper.upon_value]
 go_wp2
 rw [run_callFunc_extern func240 (by kernel_rfl) (by kernel_rfl) (by kernel_rfl) (e := Extern.AbiNoEscape.same) (by kernel_rfl)]; rw [Lib.run_noEscape]; simp only [Result.andThen]; rw [Oper.upon_value]
 go_wp2
 rw [Lib.run_from_unsafe w ⟨b, 0, none⟩ Tryz.underlying226 Tryz.underlying173 hj hsh c2y]; simp only [Result.andThen]; rw [Oper.upon_value]
 go_wp2
 go_end0
 exact ⟨rfl, rfl⟩
abbrev va (b : Nat) : Value := .pointer (some ⟨b, 0, none⟩)
theorem a7D {w : World} {L : Nat → Nat → Prop} {b : Nat} {p : D} {hd : Value} (hp : p = .nilp ∨ p = .raw (va b))
   (h : Z9 w L (some b) 175 (.agg [p, .raw hd]) (va b)) : ∃ pv, w.heap[b]? = some (.cells #[pv, hd] 175 (0, 0)) ∧ (∀ o, ¬ L b o) ∧ hd.oneCell' = true ∧ I6 hd = false ∧ ((p = .nilp ∧ pv = .pointer none) ∨ (p = .raw (va b) ∧ pv = va b)) := by
 obtain ⟨g, C, h1, h2, h3, h4, h5⟩ := h; obtain rfl : b = g := by simpa using h1
 simp only [Rep, A5] at h4; obtain ⟨css, ⟨c, cs, rfl, hc, c2, cs2, rfl, ⟨rfl, h7, h8⟩, rfl⟩, h6⟩ := h4; rcases hp with rfl | rfl
 · simp only [Rep] at hc; subst hc; have : C = #[.pointer none, hd] := by apply Array.ext'; simpa using h6
   subst this; exact ⟨_, h3, h5, h7, h8, .inl ⟨rfl, rfl⟩⟩
 · simp only [Rep] at hc; obtain ⟨rfl, _, _⟩ := hc; have : C = #[va b, hd] := by apply Array.ext'; simpa using h6
   subst this; exact ⟨_, h3, h5, h7, h8, .inr ⟨rfl, rfl⟩⟩
theorem b0P {w : World} {L : Nat → Nat → Prop} {b : Nat} {hd : Value} (h1 : w.heap[b]? = some (.cells #[va b, hd] 175 (0, 0))) (h2 : ∀ o, ¬ L b o) (h3 : hd.oneCell' = true) (h4 : I6 hd = false) :
   RH prog w L (.hb (va b) 175 (.agg [.raw (va b), .raw hd])) := by
 refine ⟨rfl, b, _, rfl, rfl, h1, ?_, h2⟩; simp only [Rep, A5]; exact ⟨[[va b], [hd]], ⟨_, _, rfl, ⟨rfl, rfl, rfl⟩, _, _, rfl, ⟨rfl, h3, h4⟩, rfl⟩, rfl⟩
theorem a8B {b : Nat} {p : D} (hp : p = .nilp ∨ p = .raw (va b)) {hd : Value} :
   H5 prog 206 [.d (.raw (va b))] [.hb (va b) 175 (.agg [p, .raw hd])] (fun r hs' => r = .tup [] ∧ hs' = [.hb (va b) 175 (.agg [.raw (va b), .raw hd])]) := by
 refine ⟨enters_of func206 (by kernel_rfl) rfl, fun w L vals hlok hgl hv hh _ => ?_⟩; obtain ⟨v, us, rfl, hv1, hv2⟩ := hv; obtain rfl : us = [] := hv2; obtain rfl : v = va b := RepV.raw_inv hv1; have hb : Z9 w L (some b) 175 (.agg [p, .raw hd]) (va b) := (hh (.hb (va b) 175 (.agg [p, .raw hd])) (by simp)).2; obtain ⟨pv, e1, e2, e3, e4, e5⟩ := a7D hp hb; have hlt : b < w.heap.size := (Array.getElem?_eq_some_iff.1 e1).1; rcases e5 with ⟨rfl, rfl⟩ | ⟨rfl, rfl⟩
 · refine (b6h b w (by rw [Lib.cell_of_heap e1]; rfl) (by simp [World.shape?, e1]) (Lib.frozen_of_heap e1 0)).mono ?_; rintro e w' ⟨rfl, rfl⟩; have hsz : (w.setCell ⟨b, 0, none⟩ (va b)).heap.size = w.heap.size := (by simp [World.setCell]); refine ⟨_, L, none, .tup [], _, rfl, ⟨rfl, rfl, rfl, Nat.le_of_eq hsz.symm, fun k hk hn => Below.heap_setCell w _ _ k (fun e => hn (by simp [C0, e])), Nat.le_refl _⟩, fun g q hq => by rw [hsz]; exact hlok g q hq, fun _ _ _ _ => Iff.rfl, fun g hg => ?_, ?_, ⟨[], rfl, rfl⟩, fun x hx => ?_, rfl, rfl⟩
   · simp [C0] at hg; subst hg; exact ⟨by rw [hsz]; exact hlt, .inr (by simp [C0])⟩
   · simp [K3, C0]
   · simp at hx; subst hx; refine b0P ?_ e2 e3 e4; simp [World.setCell, Array.getElem?_modify, e1]
 · refine (c6q b w (by rw [Lib.cell_of_heap e1]; rfl)).mono ?_; rintro e w' ⟨rfl, rfl⟩; refine ⟨_, L, none, .tup [], _, rfl, F1.refl _ _, hlok, fun _ _ _ _ => Iff.rfl, fun g hg => ?_, ?_, ⟨[], rfl, rfl⟩, fun x hx => ?_, rfl, rfl⟩
   · simp [C0] at hg; subst hg; exact ⟨hlt, .inr (by simp [C0])⟩
   · simp [K3, C0]
   · simp at hx; subst hx; exact b0P e1 e2 e3 e4
theorem a8S : (prog.info? 5).map (·.size) = some 1 := by kernel_rfl
theorem b8y : prog.cellsOf 5 = 1 := by kernel_rfl
theorem a9H {w : World} {L : Nat → Nat → Prop} : ∀ {s : Str} {css : List (List Value)}, A5 w L (D7 s) css → css.flatten = s.map fun c => Value.int .u8 (c.toNat : Int)
 | [], css, h => by simp only [D7, map_nil, A5] at h; subst h; rfl
 | c :: s, css, h => by
   simp only [D7, map_cons, A5, Rep] at h; obtain ⟨c1, cs, rfl, rfl, h2⟩ := h; simp [a9H (s := s) h2]
set_option maxRecDepth 100000 in
set_option maxHeartbeats 1000000 in
theorem c7E {b g cap : Nat} {p : Value} {l : List UInt8} (w : World) (h0 : l ≠ []) (hbk : w.heap[b]? = some (.cells #[p, .slice (some ⟨g, 0, none⟩) l.length cap] 175 (0, 0))) {cur : Array Value} (hg : w.heap[g]? = some (.cells cur 5 (0, 0)))
   (hnc : l.length ≤ cap) (hcm : cap ≤ maxLen) (hcs : cap ≤ cur.size) (htk : ∀ j x, l[j]? = some x → w.cell? ((⟨g, 0, none⟩ : Addr).add j) = some (.int .u8 x.toNat)) :
   Calls prog 171 #[.pointer (some ⟨b, 0, none⟩)] w fun e w' => e = .returned (.string ⟨l.toArray⟩) ∧ w' = w.drew.freeze ⟨g, 0, none⟩ l.length := by
 have hl0 : l.length ≠ 0 := (by simpa using h0); have c1 : w.drew.cell? ⟨b, 1, none⟩ = some (.slice (some ⟨g, 0, none⟩) l.length cap) := by
   have : w.drew.heap[b]? = some (.cells #[p, .slice (some ⟨g, 0, none⟩) l.length cap] 175 (0, 0)) := hbk; rw [Lib.cell_of_heap this]; rfl
 have hSD : (Builtin.unsafeSliceData_ #[66] 205 #[.slice (some ⟨g, 0, none⟩) l.length cap]).run prog w.drew = .ok (.pointer (some ⟨g, 0, none⟩)) w.drew :=
   Lib.run_unsafeSliceData_row _ _ _ _ _ _ (by omega)
 have hUS : (Builtin.unsafeString_ #[205, 3] 9 #[.pointer (some ⟨g, 0, none⟩), .int .i64 l.length]).run prog w.drew = .ok (.string ⟨l.toArray⟩) (w.drew.freeze ⟨g, 0, none⟩ l.length) := by
   refine Lib.run_unsafeString_row w.drew 205 3 9 5 Tryz.underlying205 b8y g cur.size (by have hg' : w.drew.heap[g]? = some (.cells cur 5 (0, 0)) := hg; simp [World.shape?, hg']) l h0 (by omega) (by unfold maxLen at hcm; omega) ?_; exact htk
 go_enter func171, Tryz.ntmps171
 go_wp2
 go_region
 all_goals (go_wp2; go_ret; exact ⟨rfl, rfl⟩)
theorem b3f (W : World) (q : Option Addr) : (Builtin.unsafeString_ #[205, 3] 9 #[.pointer q, .int .i64 0]).run prog W = .ok (.string .empty) W := Lib.run_unsafeString_none W _ _ _ q
set_option maxRecDepth 100000 in
set_option maxHeartbeats 1000000 in
theorem c7k {b : Nat} {p : Value} (w : World) (hbk : w.heap[b]? = some (.cells #[p, .slice none 0 0] 175 (0, 0))) :
   Calls prog 171 #[.pointer (some ⟨b, 0, none⟩)] w fun e w' => e = .returned (.string ⟨#[]⟩) ∧ w' = w.drew := by
 have hUS := b3f; have c1 : w.drew.cell? ⟨b, 1, none⟩ = some (.slice none 0 0) := by
   have : w.drew.heap[b]? = some (.cells #[p, .slice none 0 0] 175 (0, 0)) := hbk; rw [Lib.cell_of_heap this]; rfl
 have hSD : (Builtin.unsafeSliceData_ #[66] 205 #[.slice none 0 0]).run prog w.drew = .ok (.pointer none) w.drew := rfl
 go_enter func171, Tryz.ntmps171
 go_wp2
 go_region
 all_goals (go_wp2; go_ret; exact ⟨rfl, rfl⟩)
set_option maxRecDepth 100000 in
set_option maxHeartbeats 1000000 in
theorem c5G {b g cap : Nat} {p : Value} (w : World) (hc0 : cap ≠ 0) (hbk : w.heap[b]? = some (.cells #[p, .slice (some ⟨g, 0, none⟩) 0 cap] 175 (0, 0))) :
   Calls prog 171 #[.pointer (some ⟨b, 0, none⟩)] w fun e w' => e = .returned (.string ⟨#[]⟩) ∧ w' = w.drew := by
 have hUS := b3f; have c1 : w.drew.cell? ⟨b, 1, none⟩ = some (.slice (some ⟨g, 0, none⟩) 0 cap) := by
   have : w.drew.heap[b]? = some (.cells #[p, .slice (some ⟨g, 0, none⟩) 0 cap] 175 (0, 0)) := hbk; rw [Lib.cell_of_heap this]; rfl
 have hSD : (Builtin.unsafeSliceData_ #[66] 205 #[.slice (some ⟨g, 0, none⟩) 0 cap]).run prog w.drew = .ok (.pointer (some ⟨g, 0, none⟩)) w.drew :=
   Lib.run_unsafeSliceData_row _ _ _ _ _ _ hc0
 clear hc0
 go_enter func171, Tryz.ntmps171
 go_wp2
 go_region
 all_goals (go_wp2; go_ret; exact ⟨rfl, rfl⟩)
set_option maxRecDepth 100000 in
set_option maxHeartbeats 1000000 in
theorem c1i {b g : Nat} {p : Value} {cur : Array Value} (w : World) (hbk : w.heap[b]? = some (.cells #[p, .slice (some ⟨g, 0, none⟩) 0 0] 175 (0, 0))) (hg : w.heap[g]? = some (.cells cur 5 (0, 0))) :
   Calls prog 171 #[.pointer (some ⟨b, 0, none⟩)] w fun e w' => e = .returned (.string ⟨#[]⟩) ∧ (w' = w.drew.alloc (.view ⟨g, 0, none⟩ 5) ∨ w' = (w.alloc (.view ⟨g, 0, none⟩ 5)).drew) := by
 have hUS := b3f; have hlt : b < w.heap.size := (Array.getElem?_eq_some_iff.1 hbk).1; have c1 : w.drew.cell? ⟨b, 1, none⟩ = some (.slice (some ⟨g, 0, none⟩) 0 0) := by
   have : w.drew.heap[b]? = some (.cells #[p, .slice (some ⟨g, 0, none⟩) 0 0] 175 (0, 0)) := hbk; rw [Lib.cell_of_heap this]; rfl
 have hSD : (Builtin.unsafeSliceData_ #[66] 205 #[.slice (some ⟨g, 0, none⟩) 0 0]).run prog w.drew = .ok (.pointer (some ⟨w.drew.heap.size, 0, none⟩)) (w.drew.alloc (.view ⟨g, 0, none⟩ 5)) :=
   Lib.run_unsafeSliceData_zero w.drew _ _ 5 Tryz.underlying205 ⟨g, 0, none⟩ 0 (5, cur.size) (by have hg' : w.drew.heap[g]? = some (.cells cur 5 (0, 0)) := hg; simp [World.shape?, hg'])
 have c2 : (w.drew.alloc (.view ⟨g, 0, none⟩ 5)).cell? ⟨b, 1, none⟩ = some (.slice (some ⟨g, 0, none⟩) 0 0) := by
   have : (w.drew.alloc (.view ⟨g, 0, none⟩ 5)).heap[b]? = _ := (Lib.alloc_old w.drew _ b hlt).trans hbk; rw [Lib.cell_of_heap this]; rfl
 have c3 : (w.alloc (.view ⟨g, 0, none⟩ 5)).drew.cell? ⟨b, 1, none⟩ = some (.slice (some ⟨g, 0, none⟩) 0 0) := c2; have c0 : w.cell? ⟨b, 1, none⟩ = some (.slice (some ⟨g, 0, none⟩) 0 0) := c1
 go_enter func171, Tryz.ntmps171
 go_wp2
 go_region
 all_goals (go_wp2; go_ret; exact ⟨rfl, .inl rfl⟩)
abbrev bld (b : Nat) (p : D) (hd : Value) (s : Str) : List AV := [.hb (va b) 175 (.agg [p, .raw hd]), .hs hd 5 (D7 s)]
theorem b4x (s : Str) : (D7 s).length = s.length := by simp [D7]
theorem b7i (w : World) (a : Addr) (n k : Nat) (h : k ≠ a.block) : (w.freeze a n).heap[k]? = w.heap[k]? := by
 unfold World.freeze; split
 · rfl
 · simp only []; rw [Array.getElem?_modify, if_neg (fun e => h e.symm)]
theorem b6Z (w : World) (a : Addr) (n : Nat) : (w.freeze a n).heap.size = w.heap.size := by
 unfold World.freeze; split
 · rfl
 · simp
theorem a4n (w : World) (o : Obj) : (w.alloc o).heap.size = w.heap.size + 1 := by unfold World.alloc; simp
theorem a4O (w : World) (a : Addr) (n : Nat) : (w.freeze a n).os = w.os ∧ (w.freeze a n).tape = w.tape ∧ (w.freeze a n).output = w.output := by
 unfold World.freeze; split <;> exact ⟨rfl, rfl, rfl⟩
theorem a5q {b : Nat} {p : D} (hp : p = .nilp ∨ p = .raw (va b)) {hd : Value} {s : Str} :
   H5 prog 171 [.d (.raw (va b))] (bld b p hd s) (fun r hs' => r = .d (.str s) ∧ hs' = []) := by
 refine ⟨enters_of func171 (by kernel_rfl) rfl, fun w L vals hlok hgl hv hh hap => ?_⟩; obtain ⟨v, us, rfl, hv1, hv2⟩ := hv; obtain rfl : us = [] := hv2; obtain rfl : v = va b := RepV.raw_inv hv1; have hb : Z9 w L (some b) 175 (.agg [p, .raw hd]) (va b) := (hh (.hb (va b) 175 (.agg [p, .raw hd])) (by simp)).2; obtain ⟨pv, e1, e2, e3, e4, e5⟩ := a7D hp hb; have hs : E5 prog w L hd.ownBlock true 5 (D7 s) hd := (hh (.hs hd 5 (D7 s)) (by simp)).2; obtain ⟨css, sz, f1, f2, f3, f4, f5⟩ := hs; obtain rfl : sz = 1 := by
   have : ety 5 = 5 := rfl; rw [this, a8S] at f1; simpa using f1.symm
 have hcs := a9H f2; have done : ∀ (w' : World), F1 w w' (fun k => some k ∈ (bld b p hd s).map C0) → ∀ st : Str, st = s → Ending.returned (.string ⟨st.toArray⟩) = Ending.returned (.string ⟨s.toArray⟩) ∧
     ∃ v L' og r hs', Ending.returned (.string ⟨s.toArray⟩) = Ending.returned v ∧ F1 w w' (fun k => some k ∈ (bld b p hd s).map C0) ∧ (∀ b q, L' b q → b < w'.heap.size) ∧ (∀ b' q, b' < w.heap.size → some b' ∉ (bld b p hd s).map C0 → (L' b' q ↔ L b' q)) ∧
     (∀ g, some g ∈ og :: hs'.map C0 → g < w'.heap.size ∧ (w.heap.size ≤ g ∨ some g ∈ (bld b p hd s).map C0)) ∧ K3 (og :: hs'.map C0) ∧ RC prog w' L' og r v ∧ (∀ x ∈ hs', RH prog w' L' x) ∧ (r = .d (.str s) ∧ hs' = []) := by
   intro w' hg st hst; refine ⟨by rw [hst], _, L, none, .d (.str s), [], rfl, hg, fun b q hq => Nat.lt_of_lt_of_le (hlok b q hq) hg.size, fun _ _ _ _ => Iff.rfl, fun g hgm => by simp at hgm, by simp [K3], RepV.str, by simp, rfl, rfl⟩
 rcases f4.2 with ⟨rfl, hn⟩ | ⟨g, cap, cur, hv, hh', hnc, hcm, hsz, ht⟩
 · have hs0 : s = [] := (by simpa [D7] using hn); subst hs0; refine (c7k w e1).mono ?_; rintro e w' ⟨rfl, rfl⟩; exact (done w.drew ⟨rfl, rfl, rfl, Nat.le_refl _, fun _ _ _ => rfl, Nat.le_succ _⟩ [] rfl).2
 · subst hv; rw [b4x] at *; have hblk1 : (bld b p (.slice (some ⟨g, 0, none⟩) s.length cap) s).map C0 = [some b, some g] := (by simp [C0, Value.ownBlock]); by_cases h0 : s = []
   · subst h0; by_cases hc0 : cap = 0
     · subst hc0; refine (c1i w e1 hh').mono ?_; rintro e w' ⟨rfl, hw⟩; refine (done w' ?_ [] rfl).2; rcases hw with rfl | rfl
       · exact ⟨rfl, rfl, rfl, by rw [a4n]; exact Nat.le_succ _, fun k hk _ => Lib.alloc_old w.drew _ k hk, Nat.le_succ _⟩
       · exact ⟨rfl, rfl, rfl, by show _ ≤ (w.alloc _).heap.size; rw [a4n]; exact Nat.le_succ _, fun k hk _ => Lib.alloc_old w _ k hk, Nat.le_succ _⟩
     · refine (c5G w hc0 e1).mono ?_; rintro e w' ⟨rfl, rfl⟩; exact (done w.drew ⟨rfl, rfl, rfl, Nat.le_refl _, fun _ _ _ => rfl, Nat.le_succ _⟩ [] rfl).2
   · refine (c7E w h0 e1 hh' hnc hcm (by omega) (fun j x hx => ?_)).mono ?_
     · have := a2M.cells f4 (g := g) rfl j (.int .u8 x.toNat) (by rw [hcs, getElem?_map, hx]; rfl); exact this
     · rintro e w' ⟨rfl, rfl⟩; refine (done (w.drew.freeze ⟨g, 0, none⟩ s.length) ⟨(a4O _ _ _).1, (a4O _ _ _).2.1, (a4O _ _ _).2.2, by rw [b6Z]; exact Nat.le_refl _, fun k hk hn => ?_, by rw [a4Q]; exact Nat.le_succ _⟩ s rfl).2; rw [b7i _ _ _ _ (fun e => hn (by rw [hblk1]; simp [e]))]; rfl
end Go.Proofs.Tz
namespace Go.Proofs.Tz
open Go.Vw
set_option maxRecDepth 100000
set_option maxHeartbeats 4000000
def b9w (N k : Nat) (I : Nat → St → Prop) (τ : St) : Prop := ∃ m', m' < N - k ∧ ∃ k', k' ≤ N ∧ m' = N - k' ∧ I k' τ
theorem D5 {N k : Nat} {I : Nat → St → Prop} {τ : St} (hk : k < N) (h : I (k + 1) τ) : b9w N k I τ := ⟨N - (k + 1), by omega, k + 1, hk, rfl, h⟩
theorem G7 {body : (Exit → St → Prop) → St → Prop} {Q : Exit → St → Prop} {σ : St} (N : Nat) (I : Nat → St → Prop) (h0 : I 0 σ)
   (hr : ∀ k τ, k ≤ N → I k τ → body (a3G (b9w N k I) Q) τ) : a5E body Q σ :=
 ⟨fun m τ => ∃ k, k ≤ N ∧ m = N - k ∧ I k τ, N, ⟨0, Nat.zero_le _, rfl, h0⟩, by
   rintro m τ ⟨k, hk, rfl, hI⟩; exact hr k τ hk hI⟩
theorem F6 {α : Type} {l : List α} {k : Nat} (h : k < l.length) : l.take (k + 1) = l.take k ++ [l[k]] := by
 rw [take_succ_eq_append_getElem h]
def C7 (l : List Str) : D := .sl (l.map .str)
def u8 (c : UInt8) : D := .int .u8 c.toNat
def a3d (c : UInt8) : Bool := decide (97 ≤ (c.toNat : Int)) && decide ((c.toNat : Int) ≤ 122) || decide (65 ≤ (c.toNat : Int)) && decide ((c.toNat : Int) ≤ 90)
def a9u (c : UInt8) : Bool := decide (48 ≤ (c.toNat : Int)) && decide ((c.toNat : Int) ≤ 57)
def a1I (c : UInt8) : UInt8 := if 65 ≤ (c.toNat : Int) ∧ (c.toNat : Int) ≤ 90 then c + 32 else c
def D9 (s : Str) : Str := s.map a1I
theorem a4p (c : UInt8) (h1 : 65 ≤ (c.toNat : Int)) (h2 : (c.toNat : Int) ≤ 90) : ((a1I c).toNat : Int) = c.toNat + 97 - 65 := by
 rw [a1I, if_pos ⟨h1, h2⟩, UInt8.toNat_add]; have : (32 : UInt8).toNat = 32 := rfl; omega
theorem c3I (s : Str) : s.map u8 = D7 s := rfl
theorem T4 (s : Str) : (D9 s).length = s.length := by simp [D9]
theorem a6r {s : Str} {k : Nat} (h : k < length s) : (D9 (s.take (k + 1))).map u8 = (D9 (s.take k)).map u8 ++ [u8 (a1I s[k])] := by
 rw [F6 h]; simp only [D9, map_append, map_cons, map_nil]
theorem a6D (s : Str) (hs : length s < 1000000) : Ctr prog 87 [.d (.str s)] (.d (.str (D9 s))) := by
 refine fv (fun i => decide (i < 1000000)) func87 (by kernel_rfl) rfl rfl rfl rfl rfl ?_; simp -implicitDefEqProofs; refine G7 (length s) (fun k τ => τ 0 = .d (.str s) ∧ τ 4 = .d (.int .i64 k) ∧ τ 3 = .own true 5 ((D9 (s.take k)).map u8)) (by simp [D9]) ?_; rintro k τ hk ⟨h0, h4, h3⟩; by_cases hlt : k < length s
 · by_cases h1 : 65 ≤ (s[k].toNat : Int)
   · by_cases h2 : (s[k].toNat : Int) ≤ 90
     · simp -implicitDefEqProofs [h0, h3, h4, hlt, h1, h2, T4]; refine ⟨by omega, by omega, by omega, by omega, D5 hlt ⟨by simp [h0], by simp, ?_⟩⟩; simp -implicitDefEqProofs [a6r hlt, u8, a4p _ h1 h2]
     · simp -implicitDefEqProofs [h0, h3, h4, hlt, h1, h2, T4]; refine ⟨by omega, by omega, D5 hlt ⟨by simp [h0], by simp, ?_⟩⟩; simp -implicitDefEqProofs [a6r hlt, u8, a1I, h2]
   · simp -implicitDefEqProofs [h0, h3, h4, hlt, h1, T4]; refine ⟨by omega, by omega, D5 hlt ⟨by simp [h0], by simp, ?_⟩⟩; simp -implicitDefEqProofs [a6r hlt, u8, a1I, h1]
 · simp -implicitDefEqProofs [h0, h3, h4, hlt, c3I]; rw [ttl (by omega)]
def a1M (c : UInt8) : Bool := a3d c || a9u c || decide ((c.toNat : Int) = 45)
def U1 (s : Str) : Bool := decide (1 ≤ s.length) && decide (s.length ≤ 64) && (s.head?.any a3d) && s.all a1M
def a1w (c : UInt8) : Bool := decide (32 ≤ (c.toNat : Int)) && decide ((c.toNat : Int) ≤ 126)
def S3 (s : Str) : Bool := decide (1 ≤ s.length) && decide (s.length ≤ 256) && s.head? != some 32 && s.getLast? != some 32 && s.all a1w
theorem b5X {s : Str} {p : UInt8 → Bool} {k : Nat} (h : k < length s) (ha : ∀ x ∈ s.take k, p x = true) (hp : p s[k] = true) : ∀ x ∈ s.take (k + 1), p x = true := by
 rw [F6 h]; intro x hx; rcases mem_append.1 hx with hx | hx
 · exact ha x hx
 · rw [mem_singleton.1 hx]; exact hp
theorem b2E {s : Str} {p : UInt8 → Bool} {k : Nat} (h : k < length s) (hp : p s[k] = false) : s.all p = false := by
 rw [all_eq_false]; exact ⟨_, gmm h, by simp [hp]⟩
end Go.Proofs.Tz
namespace Go.Proofs.Tz
open Go.Vw Go.RowKit Go.Proofs
theorem M9 {P : Program} {g : FuncId} {args : List AV} {σ : St} {d : Nat} {K : St → Prop} (ks : List Nat) (b : Nat) {hs : List AV} {Post : AV → List AV → Prop} (h : H5 P g args hs Post) (h1 : ks.map σ = hs) (h2 : hs.all isH = true) (h3 : ks.Nodup)
   (hk : ∀ r hs', Post r hs' → K (D2 (put (C6 σ ks) d r) ks b hs')) : a3j P g args σ d K :=
 ⟨ks, b, Post, fun k hk => by
   have : σ k ∈ hs := by rw [← h1]; exact mem_map.2 ⟨k, hk, rfl⟩
   exact all_eq_true.1 h2 _ this, h3, by rw [h1]; exact h, hk⟩
theorem P4 {P : Program} {s f : Nat} {u : Value} {σ : St} {C : AV → Prop} (j : Nat) {e : TypeId} {ds : List D} (hj : σ j = .hb u e (.agg ds)) (h0 : 1000000 ≤ j) (h1 : f < ds.length) (h2 : E7 P s f = some (C8 (ds.take f))) (h : C (.adr j [f])) : b1t P s f u σ C :=
 ⟨j, e, ds, h0, hj, h1, h2, h⟩
theorem c9H {e : TypeId} {t : Str} {l : List D} {u : Value} {σ : St} {d : Nat} {K : St → Prop} (j : Nat) (hj : σ j = .hs u e l) (h2 : l.length + length t ≤ 140737488355328)
   (hk : ∀ A c, K (put (put σ j (.hs (.slice A (l ++ D7 t).length c) e (l ++ D7 t))) d (.d (.raw (.slice A (l ++ D7 t).length c))))) : b4J e t u σ d K := ⟨j, l, .inl hj, h2, hk⟩
@[simp] theorem c6M : a1o Value.nilIface = .undef := rfl
theorem J8 {b : Nat} {p : D} (hp : p = .nilp ∨ p = .raw (va b)) {hd : Value} {s : Str} (c : UInt8) (hl : s.length + 1 ≤ 140737488355328) :
   H5 prog 167 [.d (.raw (va b)), .d (.int .u8 c.toNat)] (bld b p hd s) (fun r hs' => ∃ hd', hs' = bld b (.raw (va b)) hd' (s ++ [c])) := by
 refine a3L (fun i => i == 5000006) (by kernel_rfl) (rs := [.tmp 4]) func167 (by kernel_rfl) rfl rfl (by simp) (nbl rfl) (by kernel_rfl) rfl ?_; simp -implicitDefEqProofs [A7]; refine M9 [1000000] 1000000 (a8B (hd := hd) hp) (by simp [A7]) rfl (by simp) ?_; rintro r hs' ⟨rfl, rfl⟩; simp -implicitDefEqProofs [A7, C6, D2]; refine P4 1000000 (by simp; exact ⟨rfl, rfl⟩) (by omega) (by simp) (by kernel_rfl) ?_; simp -implicitDefEqProofs [A7]; refine c6S (l := D7 s) 1000001 (by simp [A7]) (by simp) (by simp [D7]; omega) (by simp [D7]; omega) (fun A c2 => ?_); simp -implicitDefEqProofs [A7]; refine P4 1000000 (by simp; exact ⟨rfl, rfl⟩) (by omega) (by simp) (by kernel_rfl) ?_; simp -implicitDefEqProofs [A7]; refine ⟨[.undef], [1000000, 1000001], by simp, by simp [isH], by simp [X0, a1V], .slice A ((D7 s).length + 1) c2, by simp [D7]⟩
theorem a0H {b : Nat} {p : D} (hp : p = .nilp ∨ p = .raw (va b)) {hd : Value} {s : Str} (t : Str) (hl : s.length + t.length ≤ 140737488355328) :
   H5 prog 168 [.d (.raw (va b)), .d (.str t)] (bld b p hd s) (fun r hs' => ∃ hd', hs' = bld b (.raw (va b)) hd' (s ++ t)) := by
 refine a3L (fun i => i == 5000007) (by kernel_rfl) (rs := [.tmp 4, .tmp 5]) func168 (by kernel_rfl) rfl rfl (by simp) (nbl rfl) (by kernel_rfl) rfl ?_; simp -implicitDefEqProofs [A7]; refine M9 [1000000] 1000000 (a8B (hd := hd) hp) (by simp [A7]) rfl (by simp) ?_; rintro r hs' ⟨rfl, rfl⟩; simp -implicitDefEqProofs [A7, C6, D2]; refine P4 1000000 (by simp; exact ⟨rfl, rfl⟩) (by omega) (by simp) (by kernel_rfl) ?_; simp -implicitDefEqProofs [A7]; refine c9H (l := D7 s) 1000001 (by simp [A7]) (by simp [D7]; omega) (fun A c2 => ?_); simp -implicitDefEqProofs [A7]; refine P4 1000000 (by simp; exact ⟨rfl, rfl⟩) (by omega) (by simp) (by kernel_rfl) ?_; simp -implicitDefEqProofs [A7]; refine ⟨[.undef, .undef], [1000000, 1000001], by simp, by simp [isH], by simp [X0, a1V], .slice A ((D7 s).length + (D7 t).length) c2, by simp [D7]⟩
theorem Ctr.same {P : Program} {f : FuncId} {xs : List D} {r : D} {vs : List Value} {v : Value} (hE : Enters P f) (h : ∀ w, Calls P f vs.toArray w fun e w' => e = .returned v ∧ w' = w)
   (hx : ∀ w L og vals, RCs P w L og (xs.map .d) vals → vals = vs) (hr : ∀ w L, RepV w L r v) : Ctr P f (xs.map .d) (.d r) := by
 refine ⟨hE, fun w L og vals hlok hgl hog hv => ?_⟩; rw [hx w L og vals hv]; refine (h w).mono ?_; rintro e w' ⟨rfl, rfl⟩; exact ⟨_, L, none, rfl, F1.refl _ _, hlok, fun _ _ _ _ => Iff.rfl, by simp, hr _ _⟩
abbrev ixB (s : Str) (c : UInt8) : Int := Go.Lib.indexByte s c
set_option maxRecDepth 100000 in
set_option maxHeartbeats 1000000 in
theorem b2N (s : Str) (c : UInt8) (w : World) : Calls prog 190 #[.string ⟨s.toArray⟩, .int .u8 c.toNat] w fun e w' => e = .returned (.int .i64 (ixB s c)) ∧ w' = w := by
 go_enter func190, Tryz.ntmps190
 go_wp2
 rw [run_callFunc_extern func226 (by kernel_rfl) (by kernel_rfl) (by kernel_rfl) (e := Extern.BytealgIndexByte.indexByte) (by kernel_rfl), Lib.run_indexByteString]; simp only [Result.andThen]; rw [Oper.upon_value]
 go_wp2
 go_ret
 simp [ixB]
theorem b4y (s : Str) (c : UInt8) : Ctr prog 190 [.d (.str s), .d (.int .u8 c.toNat)] (.d (.int .i64 (ixB s c))) := by
 refine Ctr.same (xs := [.str s, .int .u8 c.toNat]) (enters_of func190 (by kernel_rfl) rfl) (b2N s c) (fun w L og vals h => ?_) (fun w L => RepV.int); obtain ⟨v, us, rfl, h1, v2, us2, rfl, h2, h3⟩ := h; obtain rfl : us2 = [] := h3; obtain rfl := RepV.str_inv h1; obtain rfl := RepV.int_inv h2; rfl
theorem a7O (s : Str) (c : UInt8) : Ctr prog 148 [.d (.str s), .d (.int .u8 c.toNat)] (.d (.int .i64 (ixB s c))) := by
 refine fv (fun _ => false) func148 (by kernel_rfl) rfl rfl rfl rfl rfl ?_; simp -implicitDefEqProofs; refine A3 (b4y s c) ?_; simp -implicitDefEqProofs
set_option maxRecDepth 100000 in
set_option maxHeartbeats 1000000 in
theorem c7B {s : Str} {c : UInt8} (h : 0 ≤ ixB s c) : (ixB s c).toNat < s.length := by
 induction s with
 | nil => simp [ixB, Go.Lib.indexByte] at h
 | cons x s ih =>
   simp only [ixB, Go.Lib.indexByte] at h ih ⊢; split
   · simp
   · split
     · rename_i h1 h2; simp [h1, h2] at h
     · rename_i h1 h2
       simp only [h1, h2] at h; have h3 : Go.Lib.indexByte s c ≠ -1 := (by simpa using h2); have h4 := Go.Lib.indexByte_ge s c; have := ih (by omega); simp only [length_cons]; omega
def a0g (c : UInt8) : Bool := decide ((33 : Int) ≤ c.toNat ∧ (c.toNat : Int) ≤ 126 ∧ ¬ (c.toNat : Int) = 37 ∧ ¬ (c.toNat : Int) = 124 ∧ ¬ (c.toNat : Int) = 44 ∧ ¬ (c.toNat : Int) = 61 ∧ ¬ (c.toNat : Int) = 59 ∧ ¬ (c.toNat : Int) = 34)
theorem c5V (s : Str) (c : UInt8) : ixB s c < 0 ↔ c ∉ s := by
 induction s with
 | nil => simp [ixB, Go.Lib.indexByte]
 | cons x s ih =>
   have h4 := Go.Lib.indexByte_ge s c; simp only [ixB, Go.Lib.indexByte] at ih ⊢; by_cases hx : x = c
   · simp [hx]
   · have hx' : (x == c) = false := (by simpa using hx); simp only [hx', Bool.false_eq_true, if_false, mem_cons, not_or]; by_cases h : Go.Lib.indexByte s c = -1
     · simp [h] at ih ⊢; exact ⟨fun e => hx e.symm, ih⟩
     · have hn : ¬ Go.Lib.indexByte s c < 0 := (by omega); have h0 : (Go.Lib.indexByte s c == -1) = false := (by simpa using h); simp only [h0, Bool.false_eq_true, if_false]; constructor
       · intro h5; omega
       · intro h5; exact absurd (ih.2 h5.2) hn
theorem Z3 (c : UInt8) (k : Nat) (hk : k < 256) : ((c.toNat : Int) = k) ↔ c = UInt8.ofNat k := by
 constructor
 · intro h; have : c.toNat = k := (by omega); rw [← this, UInt8.ofNat_toNat]
 · rintro rfl; simp [UInt8.toNat_ofNat', Nat.mod_eq_of_lt hk]
theorem c1N (c : UInt8) : decide (ixB [37, 124, 44, 61, 59, 34] c < 0) = decide (¬ (c.toNat : Int) = 37 ∧ ¬ (c.toNat : Int) = 124 ∧ ¬ (c.toNat : Int) = 44 ∧ ¬ (c.toNat : Int) = 61 ∧ ¬ (c.toNat : Int) = 59 ∧ ¬ (c.toNat : Int) = 34) := by
 have h1 : ((c.toNat : Int) = 37) ↔ c = 37 := Z3 c 37 (by omega); have h2 : ((c.toNat : Int) = 124) ↔ c = 124 := Z3 c 124 (by omega); have h3 : ((c.toNat : Int) = 44) ↔ c = 44 := Z3 c 44 (by omega); have h4 : ((c.toNat : Int) = 61) ↔ c = 61 := Z3 c 61 (by omega); have h5 : ((c.toNat : Int) = 59) ↔ c = 59 := Z3 c 59 (by omega); have h6 : ((c.toNat : Int) = 34) ↔ c = 34 := Z3 c 34 (by omega); rw [decide_eq_decide, c5V, h1, h2, h3, h4, h5, h6]; simp
theorem c4D (c : UInt8) : Ctr prog 181 [.d (.int .u8 c.toNat)] (.d (.bool (a0g c))) := by
 refine fv (fun _ => false) func181 (by kernel_rfl) rfl rfl rfl rfl rfl ?_; by_cases h1 : (33 : Int) ≤ c.toNat
 · by_cases h2 : (c.toNat : Int) ≤ 126
   · simp -implicitDefEqProofs [h1, h2]; refine A3 (a7O _ c) ?_; simp -implicitDefEqProofs [h1, h2, a0g]; rw [c1N]; simp
   · simp -implicitDefEqProofs [h1, h2, a0g]
 · simp -implicitDefEqProofs [h1, a0g]
set_option maxRecDepth 100000
abbrev b8G : Str := [48, 49, 50, 51, 52, 53, 54, 55, 56, 57, 65, 66, 67, 68, 69, 70]
def a2J (n : Nat) : UInt8 := b8G.getD n 0
def a5F (c : UInt8) : Str := if a0g c then [c] else [37, a2J (c.toNat / 16), a2J (c.toNat % 16)]
def Q6 (s : Str) : Str := s.flatMap a5F
theorem c2Y (c : UInt8) : (a5F c).length ≤ 3 := by unfold a5F; split <;> simp
theorem a6x (s : Str) : (Q6 s).length ≤ 3 * s.length := by
 induction s with
 | nil => simp [Q6]
 | cons c s ih =>
   have := c2Y c; simp only [Q6, flatMap_cons, length_append, length_cons] at ih ⊢; omega
theorem b9Z {s : Str} {k : Nat} (h : k < length s) : Q6 (s.take (k + 1)) = Q6 (s.take k) ++ a5F s[k] := by
 rw [F6 h]; simp only [Q6, flatMap_append, flatMap_cons, flatMap_nil, append_nil]
theorem b9Y {n : Nat} (h : n < 16) : b8G[n]? = some (a2J n) := by
 simp only [a2J, getD_eq_getElem?_getD]; rw [getElem?_eq_getElem (by simpa using h)]; rfl
theorem d3b (c : UInt8) : (0 : Int) ≤ (c.toNat : Int) / 16 ∧ (c.toNat : Int) / 16 ≤ 255 ∧ ((c.toNat : Int) / 16).toNat = c.toNat / 16 ∧ [48, 49, 50, 51, 52, 53, 54, 55, 56, 57, 65, 66, 67, 68, 69, 70][c.toNat / 16]? = some (a2J (c.toNat / 16)) ∧ c.toNat / 16 < 16 := by
 have := c.toNat_lt; exact ⟨by omega, by omega, by omega, b9Y (by omega), by omega⟩
theorem d3o (c : UInt8) : (0 : Int) ≤ (c.toNat : Int) % 16 ∧ ((c.toNat : Int) % 16).toNat = c.toNat % 16 ∧ [48, 49, 50, 51, 52, 53, 54, 55, 56, 57, 65, 66, 67, 68, 69, 70][c.toNat % 16]? = some (a2J (c.toNat % 16)) := by
 have := c.toNat_lt; exact ⟨by omega, by omega, b9Y (by omega)⟩
theorem b4M {P : Program} {e : TypeId} {z : D} {σ : St} {d : Nat} {K : St → Prop} (j k : Nat) (e' : TypeId) (h1 : σ k = .undef) (h2 : (P.info? (ety e')).isSome = true) (h3 : σ j = .undef) (hjk : j ≠ k)
   (hK : ∀ g, K (put (put (put σ k (.hs (.slice none 0 0) e' [])) j (.hb (va g) e z)) d (.d (.raw (va g))))) : b6j P e z σ d K :=
 ⟨j, some (k, e'), ⟨h1, h2⟩, by simp [b8S, hjk, h3], hK⟩
theorem b4C : a5f prog true 8 175 = .agg [.nilp, .raw (.slice none 0 0)] := by kernel_rfl
def a9d (τ : St) (b : Nat) (s : Str) : Prop := ∃ p hd, (p = .nilp ∨ p = .raw (va b)) ∧ τ 1000000 = .hb (va b) 175 (.agg [p, .raw hd]) ∧ τ 1000001 = .hs hd 5 (D7 s)
theorem a8I (s : Str) (hs : length s < 1000000) : Ctr prog 126 [.d (.str s)] (.d (.str (Q6 s))) := by
 refine fv (fun i => i == 1000003 || i == 5000017 || i == 5000018 || i == 5000022 || i == 5000026 || i == 5000028) func126 (by kernel_rfl) rfl rfl rfl rfl rfl ?_; simp -implicitDefEqProofs; refine b4M 1000000 1000001 5 (by simp) (by kernel_rfl) (by simp) (by simp) (fun b => ?_); simp -implicitDefEqProofs; refine G7 (length s) (fun k τ => τ 0 = .d (.str s) ∧ τ 8 = .d (.int .i64 k) ∧ τ 7 = .d (.int .i64 s.length) ∧ τ 3 = .d (.raw (va b)) ∧ a9d τ b (Q6 (s.take k))) ?_ ?_
 · exact ⟨by simp, by simp, by simp, by simp, .nilp, .slice none 0 0, .inl rfl, by simp [b4C], by simp [Q6, D7]⟩
 rintro k τ hk ⟨h0, h8, h7, h3, p, hd, hp, hb, hh⟩; by_cases hlt : k < length s
 · have h5 := a6x (s.take k); rw [length_take, Nat.min_eq_left (by omega)] at h5; have h6 := b9Z hlt; simp -implicitDefEqProofs [h0, h3, h7, h8, hlt]; refine A3 (c4D s[k]) ?_; by_cases hpl : a0g s[k] = true
   · simp -implicitDefEqProofs [h0, h3, h7, h8, hlt, hpl]; refine M9 [1000000, 1000001] 1000000 (J8 (s := Q6 (s.take k)) (hd := hd) hp s[k] (by omega)) (by simp [hb, hh]) rfl (by simp) ?_; rintro r hs' ⟨hd1, rfl⟩; simp -implicitDefEqProofs [h0, h3, h7, h8, hlt, C6, D2]; refine ⟨by omega, D5 hlt ⟨by simp [h0], by simp, by simp [h7], by simp [h3], .raw (va b), hd1, .inr rfl, by simp, by simp [h6, a5F, hpl]⟩⟩
   · obtain ⟨q1, q2, q3, q4, q5⟩ := d3b s[k]; obtain ⟨r1, r2, r3⟩ := d3o s[k]; simp -implicitDefEqProofs [h0, h3, h7, h8, hlt, hpl]; refine M9 [1000000, 1000001] 1000000 (J8 (s := Q6 (s.take k)) (hd := hd) hp 37 (by omega)) (by simp [hb, hh]) rfl (by simp) ?_; rintro r hs' ⟨hd1, rfl⟩; have hand : s[k].toNat &&& 15 = s[k].toNat % 16 := Nat.and_two_pow_sub_one_eq_mod s[k].toNat 4; have hlt8 : s[k].toNat ≤ 255 := by have := s[k].toNat_lt; omega
     simp -implicitDefEqProofs [h0, h3, h7, h8, hlt, C6, D2, q1, q2, q3, q4]; refine M9 [1000000, 1000001] 1000000 (J8 (b := b) (s := Q6 (s.take k) ++ [37]) (hd := hd1) (.inr rfl) (a2J (s[k].toNat / 16)) (by simp; omega)) (by simp) rfl (by simp) ?_; rintro r hs' ⟨hd2, rfl⟩; simp -implicitDefEqProofs [h0, h3, h7, h8, hlt, C6, D2, hand, r3, q1, q2, r1, r2, hlt8]; refine ⟨by omega, ?_⟩; refine M9 [1000000, 1000001] 1000000 (J8 (b := b) (s := Q6 (s.take k) ++ [37] ++ [a2J (s[k].toNat / 16)]) (hd := hd2) (.inr rfl) (a2J (s[k].toNat % 16)) (by simp; omega)) (by simp) rfl (by simp) ?_; rintro r hs' ⟨hd3, rfl⟩; simp -implicitDefEqProofs [h0, h3, h7, h8, hlt, C6, D2]; refine ⟨by omega, D5 hlt ⟨by simp [h0], by simp, by simp [h7], by simp [h3], .raw (va b), hd3, .inr rfl, by simp, by simp [h6, a5F, hpl]⟩⟩
 · simp -implicitDefEqProofs [h0, h3, h7, h8, hlt]; rw [ttl (by omega)] at hh; refine M9 [1000000, 1000001] 1000000 (a5q (s := Q6 s) (hd := hd) hp) (by simp [hb, hh]) rfl (by simp) ?_; rintro r hs' ⟨rfl, rfl⟩; simp -implicitDefEqProofs [h0, h3, h7, h8, hlt, C6, D2]
abbrev b0r (c : UInt8) : Int := ixB b8G c
def hx (h l : UInt8) : UInt8 := UInt8.ofNat (16 * (b0r h).toNat + (b0r l).toNat)
def a2G : Str → Option Str
 | [] => some []
 | c :: r => if a0g c then (a2G r).map (c :: ·) else if c = 37 then (match r with
   | h :: l :: r' => if 0 ≤ b0r h ∧ 0 ≤ b0r l ∧ a0g (hx h l) = false then (a2G r').map (hx h l :: ·) else none
   | _ => none) else none
 termination_by s => s.length
theorem c2d : a2G [] = some [] := by rw [a2G.eq_def]
theorem b1D (c : UInt8) (r : Str) : a2G (c :: r) = if a0g c then (a2G r).map (c :: ·) else if c = 37 then (match r with
   | h :: l :: r' => if 0 ≤ b0r h ∧ 0 ≤ b0r l ∧ a0g (hx h l) = false then (a2G r').map (hx h l :: ·) else none
   | _ => none) else none := by rw [a2G.eq_def]; rfl
theorem a5u : ∀ n, n < 16 → b0r (a2J n) = n := by decide
theorem c6w (c : UInt8) : hx (a2J (c.toNat / 16)) (a2J (c.toNat % 16)) = c := by
 have := c.toNat_lt; rw [hx, a5u _ (by omega), a5u _ (by omega)]; have : 16 * ((c.toNat / 16 : Nat) : Int).toNat + ((c.toNat % 16 : Nat) : Int).toNat = c.toNat := (by omega); rw [this, UInt8.ofNat_toNat]
theorem c6k : a0g 37 = false := by decide
theorem c0X (t : Str) : a2G (Q6 t) = some t := by
 induction t with
 | nil => simp [Q6, c2d]
 | cons c t ih =>
   have e : Q6 (c :: t) = a5F c ++ Q6 t := (by simp [Q6]); rw [e]; have := c.toNat_lt; by_cases hp : a0g c = true
   · simp [a5F, hp, b1D, ih]
   · have hp' : a0g c = false := (by simpa using hp); simp only [a5F, hp', Bool.false_eq_true, if_false, cons_append, nil_append]; rw [b1D]; simp only; rw [a5u _ (by omega), a5u _ (by omega), c6w]; have b1 : (0 : Int) ≤ ((c.toNat / 16 : Nat) : Int) := Int.natCast_nonneg _; have b2 : (0 : Int) ≤ ((c.toNat % 16 : Nat) : Int) := Int.natCast_nonneg _; rw [if_neg (by simp [c6k]), if_pos trivial, if_pos ⟨b1, b2, hp'⟩, ih]; rfl
theorem c0h {N k k' : Nat} {I : Nat → St → Prop} {τ : St} (hk : k < k') (hk' : k' ≤ N) (h : I k' τ) : b9w N k I τ := ⟨N - k', by omega, k', hk', rfl, h⟩
theorem c1q {c : UInt8} : ∀ {s : Str} {k : Nat} (h : k < s.length), s[k] = c → c ∉ s.take k → ixB s c = k
 | [], k, h, _, _ => by simp at h
 | x :: s, 0, h, he, _ => by
   simp only [getElem_cons_zero] at he; simp [ixB, Go.Lib.indexByte, he]
 | x :: s, k + 1, h, he, hn => by
   simp only [take_succ_cons, mem_cons, not_or] at hn; have := c1q (s := s) (k := k) (by simpa using h) (by simpa using he) hn.2; have hx : (x == c) = false := by simpa using fun e => hn.1 e.symm
   simp only [ixB] at this; simp only [ixB, Go.Lib.indexByte, hx, this]; have h2 : ((k : Int) == -1) = false := (by simp); simp [h2]
def a6b (s : Str) : Str × Int := match a2G s with
 | some t => (t, 0)
 | none => ([], 4)
theorem b7r {s t : Str} (h : a2G s = some t) : a6b s = (t, 0) := by simp [a6b, h]
def a1e (c : UInt8) : Str → List Str
 | [] => [[]]
 | x :: s => if x = c then [] :: a1e c s else (match a1e c s with
   | p :: ps => (x :: p) :: ps
   | [] => [[x]])
theorem b7j {c : UInt8} {s : Str} (h : c ∉ s) : a1e c s = [s] := by
 induction s with
 | nil => rfl
 | cons x s ih =>
   simp only [mem_cons, not_or] at h; simp only [a1e, if_neg (fun e : x = c => h.1 e.symm), ih h.2]
theorem b4k {c : UInt8} : ∀ {s : Str} {k : Nat}, ixB s c = k → a1e c s = s.take k :: a1e c (s.drop (k + 1))
 | [], k, h => by simp [ixB, Go.Lib.indexByte] at h
 | x :: s, k, h => by
   have hge := Go.Lib.indexByte_ge s c; simp only [ixB, Go.Lib.indexByte] at h; by_cases hx : x = c
   · simp only [hx, beq_self_eq_true, if_true] at h; obtain rfl : k = 0 := by omega
     simp [a1e, hx]
   · have hx' : (x == c) = false := (by simpa using hx); simp only [hx', Bool.false_eq_true, if_false] at h; by_cases h2 : Go.Lib.indexByte s c = -1
     · simp [h2] at h
     · have h3 : (Go.Lib.indexByte s c == -1) = false := (by simpa using h2); simp only [h3, Bool.false_eq_true, if_false] at h; obtain ⟨k', rfl⟩ : ∃ k', k = k' + 1 := ⟨k - 1, by omega⟩; have ih := b4k (s := s) (k := k') (by show Go.Lib.indexByte s c = _; omega); simp only [a1e, if_neg hx, ih, take_succ_cons, drop_succ_cons]
theorem a2C {α : Type} {l : List α} {k : Nat} (h : k < l.length) : l.drop k = l[k] :: l.drop (k + 1) := drop_eq_getElem_cons h
theorem b3O : ∀ n, n < 16 → 33 ≤ (a2J n).toNat ∧ (a2J n).toNat ≤ 126 := by decide
theorem b3S {s : Str} {c : UInt8} (h : c ∈ Q6 s) : 33 ≤ c.toNat ∧ c.toNat ≤ 126 := by
 simp only [Q6, mem_flatMap] at h; obtain ⟨x, _, hx⟩ := h; have hlt := x.toNat_lt; unfold a5F at hx; split at hx
 · rename_i hp
   rw [mem_singleton] at hx; subst hx; simp only [a0g, decide_eq_true_eq] at hp; omega
 · simp only [mem_cons, not_mem_nil, or_false] at hx; rcases hx with rfl | rfl | rfl
   · decide
   · exact b3O _ (by omega)
   · exact b3O _ (by omega)
theorem c0A (s : Str) : (10 : UInt8) ∉ Q6 s := fun h => by have := (b3S h).1; revert this; decide
theorem c0G (s : Str) : (32 : UInt8) ∉ Q6 s := fun h => by have := (b3S h).1; revert this; decide
theorem c5y {c : UInt8} {a b : Str} (h : c ∉ a) : ixB (a ++ c :: b) c = length a :=
 c1q (by simp) (by simp) (by simpa using h)
theorem b8u {c : UInt8} {a b : Str} (h : c ∉ a) : a1e c (a ++ c :: b) = a :: a1e c b := by
 have e1 : take (length a) (a ++ c :: b) = a := (by simp); have e2 : drop (length a + 1) (a ++ c :: b) = b := by rw [← drop_drop]; simp
 rw [b4k (c5y h), e1, e2]
def D8 (c : UInt8) : List Str → Str
 | [] => []
 | [p] => p
 | p :: q :: ps => p ++ c :: D8 c (q :: ps)
def b9F {α : Type} (p : α → Bool) (l : List α) : Prop := ∀ x ∈ l, p x = true
theorem b9F.nil {α : Type} {p : α → Bool} : b9F p [] := fun _ h => by simp at h
theorem b9F.all {α : Type} {p : α → Bool} {l : List α} (h : b9F p l) : l.all p = true := all_eq_true.2 h
theorem b0S {c : UInt8} : ∀ {l : List Str}, l ≠ [] → (∀ p ∈ l, c ∉ p) → a1e c (D8 c l) = l
 | [], h, _ => absurd rfl h
 | [p], _, h => b7j (h p (by simp))
 | p :: q :: l, _, h => by
   have ih := b0S (l := q :: l) (by simp) (fun x hx => h x (by simp at hx ⊢; right; exact hx)); have e : D8 c (p :: q :: l) = p ++ c :: D8 c (q :: l) := rfl; rw [e, b8u (h p (by simp)), ih]
section
variable {α : Type} (line : Str → Option α) (chk : List α → Int)
end
section
variable {α : Type} {line : Str → Option α} {chk : List α → Int} {w : α → Str}
end
abbrev Csn := Int × Int × Int
def B0 (c : Csn) : D := .agg [.int .i64 c.1, .int .i64 c.2.1, .int .i64 c.2.2]
def U3 (c : Csn) : Bool := decide (0 ≤ c.1) && decide (c.1 ≤ 1099511627776) && decide (0 ≤ c.2.1) && decide (c.2.1 ≤ 4294967295) && decide (0 ≤ c.2.2) && decide (c.2.2 < 8)
def Z8 (a b : Int) : Int := if a < b then -1 else if b < a then 1 else 0
def H8 (a b : Csn) : Int := if a.1 ≠ b.1 then Z8 a.1 b.1 else if a.2.1 ≠ b.2.1 then Z8 a.2.1 b.2.1 else Z8 a.2.2 b.2.2
theorem a3M {a b : Int} : Z8 a b = 0 ↔ a = b := by unfold Z8; split <;> (try split) <;> omega
theorem b0F {a b : Int} : Z8 a b < 0 ↔ a < b := by unfold Z8; split <;> (try split) <;> omega
theorem a8K (a b : Int) : Z8 b a = - Z8 a b := by unfold Z8; split <;> (try split) <;> (try split) <;> omega
theorem T5 {a b : Csn} : H8 a b = 0 ↔ a = b := by
 unfold H8; obtain ⟨a1, a2, a3⟩ := a; obtain ⟨b1, b2, b3⟩ := b; simp only [Prod.mk.injEq]; split
 · rw [a3M]; rename_i h; constructor
   · intro e; exact absurd e h
   · intro e; exact e.1
 · rename_i h
   have h : a1 = b1 := (by simpa using h); split
   · rw [a3M]; rename_i h; constructor
     · intro e; exact absurd e h
     · intro e; exact e.2.1
   · rename_i h2
     have h2 : a2 = b2 := (by simpa using h2); rw [a3M]; exact ⟨fun e => ⟨h, h2, e⟩, fun e => e.2.2⟩
theorem c4a {a b : Csn} : H8 a b < 0 ↔ a.1 < b.1 ∨ a.1 = b.1 ∧ (a.2.1 < b.2.1 ∨ a.2.1 = b.2.1 ∧ a.2.2 < b.2.2) := by
 unfold H8; split
 · rw [b0F]; omega
 · split
   · rw [b0F]; omega
   · rw [b0F]; omega
theorem W3 (a b : Csn) : H8 b a = - H8 a b := by
 unfold H8; by_cases h1 : a.1 = b.1
 · by_cases h2 : a.2.1 = b.2.1
   · simp only [h1, h2, ne_eq, not_true_eq_false, if_false]; exact a8K _ _
   · have h2' : ¬ b.2.1 = a.2.1 := fun e => h2 e.symm
     simp only [h1, h2, h2', ne_eq, not_true_eq_false, not_false_eq_true, if_false, if_true]; exact a8K _ _
 · have h1' : ¬ b.1 = a.1 := fun e => h1 e.symm
   simp only [h1, h1', ne_eq, not_false_eq_true, if_true]; exact a8K _ _
theorem a2O {a b c : Csn} (h1 : H8 a b < 0) (h2 : H8 b c < 0) : H8 a c < 0 := by
 rw [c4a] at *; omega
abbrev J9 : Str := [48, 49, 50, 51, 52, 53, 54, 55, 56, 57, 97, 98, 99, 100, 101, 102]
def a6t (n : Nat) : UInt8 := J9.getD n 0
def Q7 (n : Nat) : Nat → Str
 | 0 => []
 | w + 1 => Q7 (n / 16) w ++ [a6t (n % 16)]
theorem a1r (w : Nat) : ∀ n, (Q7 n w).length = w := by
 induction w with
 | zero => intro n; rfl
 | succ w ih => intro n; simp [Q7, ih]
def T1 (n : Int) : Str → Int
 | [] => n
 | c :: s => if ixB J9 c < 0 then -1 else T1 (n * 16 + ixB J9 c) s
def a3e (s : Str) : Int := T1 0 s
theorem a5h (n : Int) (hn : 0 ≤ n) : ∀ (a b : Str), T1 n (a ++ b) = if T1 n a < 0 then -1 else T1 (T1 n a) b := by
 intro a
 induction a generalizing n with
 | nil => intro b; simp [T1]; omega
 | cons c a ih =>
   intro b; simp only [cons_append, T1]; by_cases h : ixB J9 c < 0
   · simp [h]
   · simp only [h, if_false]; exact ih _ (by omega) b
theorem c5K : ∀ n, n < 16 → ixB J9 (a6t n) = n := by decide
theorem b3d (w : Nat) : ∀ n, n < 16 ^ w → a3e (Q7 n w) = n := by
 induction w with
 | zero => intro n h; simp at h; subst h; rfl
 | succ w ih =>
   intro n h; have h1 := ih (n / 16) (by rw [Nat.div_lt_iff_lt_mul (by decide)]; rw [Nat.pow_succ] at h; exact h); unfold a3e at h1 ⊢; rw [Q7, a5h 0 (Int.le_refl _), h1, if_neg (by omega)]; simp only [T1, c5K (n % 16) (by omega)]; rw [if_neg (by omega)]; omega
theorem b2V {c : UInt8} (h : ¬ ixB J9 c < 0) : a6t (ixB J9 c).toNat = c ∧ (ixB J9 c).toNat < 16 := by
 have hlt : (ixB J9 c).toNat < J9.length := c7B (by omega); refine ⟨?_, by simpa using hlt⟩; have h1 : ∀ (s : Str), 0 ≤ ixB s c → s.getD (ixB s c).toNat 0 = c := by
   intro s
   induction s with
   | nil => intro h; simp [ixB, Go.Lib.indexByte] at h
   | cons x s ih =>
     intro h; have hge := Go.Lib.indexByte_ge s c; simp only [ixB, Go.Lib.indexByte] at h ih ⊢; by_cases hx : (x == c) = true
     · rw [if_pos hx]; simpa using hx
     · rw [if_neg hx] at h ⊢; by_cases h2 : (Go.Lib.indexByte s c == -1) = true
       · rw [if_pos h2] at h; simp at h
       · rw [if_neg h2] at h ⊢; have h3 : 0 ≤ Go.Lib.indexByte s c := by
           have : Go.Lib.indexByte s c ≠ -1 := (by simpa using h2); omega
         have h4 : (Go.Lib.indexByte s c + 1).toNat = (Go.Lib.indexByte s c).toNat + 1 := (by omega); rw [h4, getD_cons_succ]; exact ih h3
 exact h1 J9 (by omega)
theorem b6p : ∀ (s : Str) (n : Int), 0 ≤ n → T1 n s < (n + 1) * 16 ^ s.length
 | [], n, h => by simp [T1]; omega
 | c :: s, n, h => by
   simp only [T1, length_cons]; split
   · have : (0 : Int) < (n + 1) * 16 ^ (s.length + 1) := Int.mul_pos (by omega) (Int.pow_pos (by decide)); omega
   · rename_i hc
     have h16 := (b2V hc).2; have ih := b6p s (n * 16 + ixB J9 c) (by omega); have h2 : (n * 16 + ixB J9 c + 1) * 16 ^ s.length ≤ ((n + 1) * 16) * 16 ^ s.length := Int.mul_le_mul_of_nonneg_right (by omega) (Int.le_of_lt (Int.pow_pos (by decide))); have e : (n + 1) * 16 ^ (s.length + 1) = ((n + 1) * 16) * 16 ^ s.length := by rw [Int.pow_succ, Int.mul_assoc, Int.mul_comm 16]
     rw [e]; omega
theorem b2U : ∀ (w : Nat) (s : Str), s.length = w → 0 ≤ a3e s → Q7 (a3e s).toNat w = s := by
 intro w
 induction w with
 | zero => intro s h _; have : s = [] := length_eq_zero_iff.1 h; subst this; rfl
 | succ w ih =>
   intro s h h0; have hsn : s ≠ [] := by rintro rfl; simp at h
   obtain ⟨a, c, rfl⟩ : ∃ a c, s = a ++ [c] := ⟨s.dropLast, s.getLast hsn, (dropLast_concat_getLast hsn).symm⟩; have ha : a.length = w := (by simpa using h); unfold a3e at h0 ih ⊢; rw [a5h 0 (Int.le_refl _)] at h0 ⊢; by_cases h1 : T1 0 a < 0
   · rw [if_pos h1] at h0; omega
   · rw [if_neg h1] at h0 ⊢; simp only [T1] at h0 ⊢; by_cases hc : ixB J9 c < 0
     · rw [if_pos hc] at h0; omega
     · rw [if_neg hc] at h0 ⊢; obtain ⟨e1, e2⟩ := b2V hc; have i := ih a ha (by omega); rw [Q7]; have d1 : (T1 0 a * 16 + ixB J9 c).toNat / 16 = (T1 0 a).toNat := (by omega); have d2 : (T1 0 a * 16 + ixB J9 c).toNat % 16 = (ixB J9 c).toNat := (by omega); rw [d1, d2, e1, i]
def I1 (c : Csn) : Str := if U3 c = true then Q7 c.1.toNat 11 ++ 45 :: (Q7 c.2.1.toNat 8 ++ 45 :: Q7 c.2.2.toNat 1) else []
def a3h (s : Str) : Csn := (a3e (s.take 11), a3e ((s.take 20).drop 12), a3e (s.drop 21))
def P0 (s : Str) : Csn × Int :=
 if s.length ≠ 22 ∨ s[11]? ≠ some 45 ∨ s[20]? ≠ some 45 then ((0, 0, 0), 4)
 else if (a3h s).1 < 0 ∨ (a3h s).2.1 < 0 ∨ (a3h s).2.2 < 0 then ((0, 0, 0), 4)
 else if U3 (a3h s) = false then ((0, 0, 0), 27) else (a3h s, 0)
theorem a5S {c : Csn} (h : U3 c = true) : (I1 c).length = 22 := by
 rw [I1, if_pos h]; simp [a1r]
theorem b2h {c : Csn} : U3 c = true ↔ 0 ≤ c.1 ∧ c.1 ≤ 1099511627776 ∧ 0 ≤ c.2.1 ∧ c.2.1 ≤ 4294967295 ∧ 0 ≤ c.2.2 ∧ c.2.2 < 8 := by
 simp only [U3, Bool.and_eq_true, decide_eq_true_eq]; omega
theorem b6y {c : Csn} (h : U3 c = true) : P0 (I1 c) = (c, 0) := by
 have hv := b2h.1 h; obtain ⟨t, s, r⟩ := c; simp only at hv; have hl := a5S h; have l1 := a1r 11 t.toNat; have l2 := a1r 8 s.toNat; have l3 := a1r 1 r.toNat; have e : I1 (t, s, r) = Q7 t.toNat 11 ++ 45 :: (Q7 s.toNat 8 ++ 45 :: Q7 r.toNat 1) := by rw [I1, if_pos h]
 have n1 := b3d 11 t.toNat (by have : (16 : Nat) ^ 11 = 17592186044416 := by decide
                               omega)
 have n2 := b3d 8 s.toNat (by have : (16 : Nat) ^ 8 = 4294967296 := by decide
                              omega)
 have n3 := b3d 1 r.toNat (by have : (16 : Nat) ^ 1 = 16 := by decide
                              omega)
 generalize Q7 t.toNat 11 = A at *; generalize Q7 s.toNat 8 = B at *; generalize Q7 r.toNat 1 = C at *; have g1 : (I1 (t, s, r))[11]? = some 45 := by
   rw [e, getElem?_append_right (by omega), l1]; rfl
 have g2 : (I1 (t, s, r))[20]? = some 45 := by
   rw [e, getElem?_append_right (by omega), l1]
   show (B ++ 45 :: C)[8]? = _
   rw [getElem?_append_right (by omega), l2]; rfl
 have t1 : (I1 (t, s, r)).take 11 = A := by rw [e, ← l1, take_left]
 have t2 : ((I1 (t, s, r)).take 20).drop 12 = B := by
   have : I1 (t, s, r) = (A ++ [45]) ++ B ++ (45 :: C) := by rw [e]; simp
   rw [this, take_append_of_le_length (by simp; omega), ttl (by simp; omega)]; have l4 : (A ++ [45]).length = 12 := by simp; omega
   rw [← l4, drop_left]
 have t3 : (I1 (t, s, r)).drop 21 = C := by
   have : I1 (t, s, r) = (A ++ [45] ++ B ++ [45]) ++ C := by rw [e]; simp
   have l4 : (A ++ [45] ++ B ++ [45]).length = 21 := by simp; omega
   rw [this, ← l4, drop_left]
 have hr : a3h (I1 (t, s, r)) = (t, s, r) := by
   rw [a3h, t1, t2, t3, n1, n2, n3]; simp only [Prod.mk.injEq]; omega
 rw [P0, if_neg (by rw [g1, g2]; simp [hl]), hr, if_neg (by simp only; omega), if_neg (by rw [h]; simp)]
theorem a7A {s : Str} {c : Csn} (h : P0 s = (c, 0)) : I1 c = s ∧ U3 c = true := by
 unfold P0 at h; split at h
 · simp at h
 · rename_i h1
   split at h
   · simp at h
   · rename_i h2
     split at h
     · simp at h
     · rename_i h3
       simp only [Prod.mk.injEq, and_true] at h; subst h; have hv : U3 (a3h s) = true := (by simpa using h3); refine ⟨?_, hv⟩; have h1' : s.length = 22 ∧ s[11]? = some 45 ∧ s[20]? = some 45 := by
         simp only [not_or, Classical.not_not, ne_eq] at h1; exact h1
       obtain ⟨hl, g1, g2⟩ := h1'; simp only [a3h, not_or, Int.not_lt] at h2; rw [I1, if_pos hv]; simp only [a3h]; rw [b2U 11 _ (by simp; omega) h2.1, b2U 8 _ (by simp; omega) h2.2.1, b2U 1 _ (by simp; omega) h2.2.2]; have e1 : s = s.take 11 ++ s.drop 11 := (take_append_drop 11 s).symm; have e2 : s.drop 11 = 45 :: s.drop 12 := by
         rw [drop_eq_getElem_cons (by omega)]; congr 1
         rw [getElem?_eq_getElem (by omega)] at g1; exact Option.some.inj g1
       have e3 : s.drop 12 = (s.take 20).drop 12 ++ s.drop 20 := by
         rw [drop_take, show (20 : Nat) = 12 + 8 from rfl, ← drop_drop, show 12 + 8 - 12 = 8 from rfl, take_append_drop]
       have e4 : s.drop 20 = 45 :: s.drop 21 := by
         rw [drop_eq_getElem_cons (by omega)]; congr 1
         rw [getElem?_eq_getElem (by omega)] at g2; exact Option.some.inj g2
       rw [← e4, ← e3, ← e2, ← e1]
theorem a4s {c : Csn} {d : UInt8} (hd : d ∉ J9) (h0 : d ≠ 0) (h45 : d ≠ 45) : d ∉ I1 c := by
 have hx : ∀ w n, d ∉ Q7 n w := by
   intro w
   induction w with
   | zero => intro n; simp [Q7]
   | succ w ih =>
     intro n; rw [Q7, mem_append, mem_singleton]; rintro (h | h)
     · exact ih _ h
     · have : a6t (n % 16) ∈ J9 := by
         have hlt : n % 16 < 16 := Nat.mod_lt _ (by decide); unfold a6t; rw [getD_eq_getElem?_getD, getElem?_eq_getElem (by simpa using hlt)]; exact gmm _
       exact hd (h ▸ this)
 unfold I1; split
 · simp only [mem_append, mem_cons, not_or]; exact ⟨hx _ _, h45, hx _ _, h45, hx _ _⟩
 · simp
theorem b3I (x : Int) : Ctr prog 147 [.d (.int .i64 x)] (.d (.bool false)) := by
 refine fv (fun _ => false) func147 (by kernel_rfl) rfl rfl rfl rfl rfl ?_; simp -implicitDefEqProofs
theorem a9g (x y : Int) : Ctr prog 102 [.d (.int .i64 x), .d (.int .i64 y)] (.d (.int .i64 (Z8 x y))) := by
 refine fv (fun _ => false) func102 (by kernel_rfl) rfl rfl rfl rfl rfl ?_; have c1 := b3I x; have c2 := b3I y; unfold Z8; by_cases h1 : x < y
 · simp -implicitDefEqProofs; refine A3 c1 ?_; simp -implicitDefEqProofs; refine A3 c2 ?_; simp -implicitDefEqProofs [h1]
 by_cases h2 : y < x
 · simp -implicitDefEqProofs; refine A3 c1 ?_; simp -implicitDefEqProofs; refine A3 c2 ?_; simp -implicitDefEqProofs [h1, h2]
 · simp -implicitDefEqProofs; refine A3 c1 ?_; simp -implicitDefEqProofs; refine A3 c2 ?_; simp -implicitDefEqProofs [h1, h2]
def orI : List Int → Int
 | [] => 0
 | x :: l => if x ≠ 0 then x else orI l
def a2S (l : List Int) : D := .sl (l.map (.int .i64))
theorem a6z (l : List Int) (hl : l.length < 1000000) : Ctr prog 101 [.d (a2S l)] (.d (.int .i64 (orI l))) := by
 refine fv (fun _ => false) func101 (by kernel_rfl) rfl rfl rfl rfl rfl ?_; obtain ⟨R, hR⟩ : ∃ R, orI l = R := ⟨_, rfl⟩; rw [hR]; simp -implicitDefEqProofs [a2S]; refine G7 l.length (fun k τ => τ 6 = .d (a2S l) ∧ τ 7 = .d (.int .i64 l.length) ∧ τ 8 = .d (.int .i64 k) ∧ τ 3 = .d (.int .i64 0) ∧ orI (l.drop k) = R) ⟨by simp [a2S], by simp, by simp, by simp, by simpa using hR⟩ ?_; rintro k τ hk ⟨h6, h7, h8, h3, hI⟩; by_cases hlt : k < l.length
 · have hlt' : (k : Int) < l.length := (by omega); rw [drop_eq_getElem_cons hlt, orI] at hI; generalize hx : l[k] = x at *; by_cases h0 : x = 0
   · rw [if_neg (by simpa using h0)] at hI; simp -implicitDefEqProofs [h6, h7, h8, h3, a2S, hlt, hlt', hx, h0]; (repeat refine ai (by omega) ?_); exact D5 hlt ⟨by simp [h6, a2S], by simp [h7], by simp, by simp [h3], hI⟩
   · rw [if_pos h0] at hI; rw [hI] at hx h0; simp -implicitDefEqProofs [h6, h7, h8, h3, a2S, hlt, hlt', hx, h0]
 · have hlt' : ¬ (k : Int) < l.length := (by omega); rw [drop_eq_nil_of_le (by omega), orI] at hI; subst hI; simp -implicitDefEqProofs [h6, h7, h8, h3, hlt']
theorem a8Z (c : Csn) : Ctr prog 52 [.d (B0 c)] (.d (.bool (U3 c))) := by
 refine fv (fun _ => false) func52 (by kernel_rfl) rfl rfl rfl rfl rfl ?_; obtain ⟨t, s, r⟩ := c; unfold U3; by_cases h1 : 0 ≤ t <;> by_cases h2 : t ≤ 1099511627776 <;> by_cases h3 : 0 ≤ s <;> by_cases h4 : s ≤ 4294967295 <;> by_cases h5 : 0 ≤ r <;> by_cases h6 : r < 8 <;> simp -implicitDefEqProofs [B0, h1, h2, h3, h4, h5, h6]
theorem c5h (a b : Csn) : orI [Z8 a.1 b.1, Z8 a.2.1 b.2.1, Z8 a.2.2 b.2.2] = H8 a b := by
 simp only [orI, H8, ne_eq, a3M]; by_cases h3 : a.2.2 = b.2.2
 · have := a3M.2 h3; simp [h3]; split <;> (try split) <;> first | rfl | (rw [h3] at this; exact this.symm)
 · simp [h3]
theorem b7X (a b : Csn) : Ctr prog 51 [.d (B0 a), .d (B0 b)] (.d (.int .i64 (H8 a b))) := by
 refine fv (fun _ => false) func51 (by kernel_rfl) rfl rfl rfl rfl rfl ?_; have hor := c5h a b; have hz := T5 (a := a) (b := b); obtain ⟨a1, a2, a3⟩ := a; obtain ⟨b1, b2, b3⟩ := b; have c1 := a9g a1 b1; have c2 := a9g a2 b2; have c3 := a9g a3 b3; have c4 := a6z [Z8 a1 b1, Z8 a2 b2, Z8 a3 b3] (by simp); simp only at hor; rw [hor] at c4; simp only [a2S, map_cons, map_nil] at c4; by_cases h : ((a1, a2, a3) : Csn) = (b1, b2, b3)
 · have h0 := hz.2 h; rw [h0]; simp only [Prod.mk.injEq] at h; simp -implicitDefEqProofs [B0, K4, h]; try decide
 · generalize H8 (a1, a2, a3) (b1, b2, b3) = R at *; have hne : (decide (a1 = b1) && (decide (a2 = b2) && decide (a3 = b3))) = false := by
     simp only [Prod.mk.injEq] at h; simp only [Bool.and_eq_false_iff, decide_eq_false_iff_not]; omega
   simp -implicitDefEqProofs [B0, K4, hne]; refine E4 c1 ?_; simp -implicitDefEqProofs; refine E4 c2 ?_; simp -implicitDefEqProofs; refine E4 c3 ?_; simp -implicitDefEqProofs; refine ⟨by decide, E4 c4 ?_⟩; simp -implicitDefEqProofs
theorem b3Y : ∀ (k n : Nat), Q7 n (k + 1) = a6t (n / 16 ^ k % 16) :: Q7 n k
 | 0, n => by simp [Q7]
 | k + 1, n => by
   rw [Q7, b3Y k (n / 16), Q7]; simp [Nat.div_div_eq_div_mul, Nat.pow_succ, Nat.mul_comm]
def a1E (n w k : Nat) : List D := replicate (w - k) (.int .u8 0) ++ D7 (Q7 n k)
theorem b9V {n w k : Nat} (h : k < w) : (a1E n w k).set (w - 1 - k) (.int .u8 (a6t (n / 16 ^ k % 16)).toNat) = a1E n w (k + 1) := by
 unfold a1E; obtain ⟨m, hm⟩ : ∃ m, w - k = m + 1 := ⟨w - k - 1, by omega⟩; have e1 : w - 1 - k = m := (by omega); have e2 : w - (k + 1) = m := (by omega); rw [hm, e1, e2, b3Y, replicate_succ', append_assoc]; rw [set_append_right _ _ (by simp)]; simp [D7]
theorem b9B {n w k : Nat} (h : k ≤ w) : (a1E n w k).length = w := by
 simp [a1E, D7, a1r]; omega
theorem b9C {n w k : Nat} (h : k < w) : (a1E n w k)[w - 1 - k]? = some (.int .u8 0) := by
 unfold a1E; rw [getElem?_append_left (by simp; omega), getElem?_replicate, if_pos (by omega)]
theorem c6W (x : Nat) : J9[x % 16]? = some (a6t (x % 16)) := by
 have hlt : x % 16 < 16 := Nat.mod_lt _ (by decide); unfold a6t; rw [getD_eq_getElem?_getD, getElem?_eq_getElem (by simpa using hlt)]; rfl
theorem b5U (n w : Nat) (hw : w ≤ 15) (hn : n < 4611686018427387904) : Ctr prog 80 [.d (.int .i64 n), .d (.int .i64 w)] (.d (.str (Q7 n w))) := by
 refine fv (fun i => i == 8 || i == 5) func80 (by kernel_rfl) rfl rfl rfl rfl rfl ?_; simp -implicitDefEqProofs; (repeat refine ai (by omega) ?_); refine G7 w (fun k τ => τ 0 = .d (.int .i64 n) ∧ τ 1 = .d (.int .i64 w) ∧ τ 10 = .d (.int .i64 w) ∧ τ 11 = .d (.int .i64 k) ∧ τ 5 = .own true 5 (a1E n w k)) ⟨by simp, by simp, by simp, by simp, by simp [a1E, Q7, D7]⟩ ?_; rintro k τ hk ⟨h0, h1, h10, h11, h5⟩; have hlen := b9B (n := n) hk; by_cases hlt : k < w
 · have hlt' : (k : Int) < w := (by omega); have hset := b9V (n := n) hlt; have hg0 := b9C (n := n) hlt; have hsh : (n : Int) / 2 ^ (4 * (k : Int)).toNat = ((n / 16 ^ k : Nat) : Int) := by
     rw [show (4 * (k : Int)).toNat = 4 * k by omega, Nat.pow_mul 2 4 k |> fun e => show (2 : Int) ^ (4 * k) = ((16 ^ k : Nat) : Int) by rw [show (16 : Nat) ^ k = 2 ^ (4 * k) by rw [e]]; simp]; simp
   have hle : n / 16 ^ k ≤ n := Nat.div_le_self _ _; have hand : (n / 16 ^ k) &&& 15 = n / 16 ^ k % 16 := Nat.and_two_pow_sub_one_eq_mod _ 4; have hget := c6W (n / 16 ^ k); have hix : ((w : Int) - 1 - k).toNat = w - 1 - k := (by omega); generalize n / 16 ^ k = X at *; simp only [J9] at hget; have hmod : ((X : Int) % 16).toNat = X % 16 := (by omega); simp -implicitDefEqProofs [h0, h1, h10, h11, h5, hlt, hlt', hsh, hand, hmod, hget]; (repeat refine ai (by omega) ?_); simp -implicitDefEqProofs [h0, h1, h10, h11, h5, hlt, hlt', hlen, hix, hset, hmod, hget, hg0]; (repeat refine ai (by omega) ?_); exact D5 hlt ⟨by simp [h0], by simp [h1], by simp [h10], by simp, by simp [hset]⟩
 · have hlt' : ¬ (k : Int) < w := (by omega); obtain rfl : k = w := by omega
   have hrow : a1E n k k = D7 (Q7 n k) := (by simp [a1E]); rw [hrow] at h5; simp -implicitDefEqProofs [h0, h1, h10, h11, h5]
theorem c0L {n : Int} {a b : Str} (hn : 0 ≤ n) (h : T1 n a < 0) : T1 n (a ++ b) = -1 := by rw [a5h n hn, if_pos h]
def a2s (s : Str) (k : Nat) : Int := T1 0 (s.take k)
theorem b3v {s : Str} {k : Nat} (hk : k < s.length) (h0 : 0 ≤ a2s s k) : a2s s (k + 1) = if ixB J9 s[k] < 0 then -1 else a2s s k * 16 + ixB J9 s[k] := by
 unfold a2s at *; rw [take_add_one, getElem?_eq_getElem hk, Option.toList_some, a5h 0 (Int.le_refl _), if_neg (by omega)]; simp only [T1]
theorem c4s {s : Str} {k : Nat} (hk : k < s.length) (h0 : 0 ≤ a2s s k) (h : ixB J9 s[k] < 0) : a3e s = -1 := by
 have e : s = s.take (k + 1) ++ s.drop (k + 1) := (take_append_drop _ _).symm; have h1 := b3v hk h0; rw [if_pos h] at h1; unfold a2s at h1; unfold a3e; rw [e]; exact c0L (Int.le_refl _) (by omega)
theorem c5W {s : Str} {k : Nat} (hs : s.length ≤ 12) : a2s s k < 281474976710656 := by
 have h1 := b6p (s.take k) 0 (Int.le_refl _); have h2 : (s.take k).length ≤ 12 := by simp; omega
 have h3 : (16 : Int) ^ (s.take k).length ≤ 16 ^ 12 := by
   have : (16 : Nat) ^ (s.take k).length ≤ 16 ^ 12 := Nat.pow_le_pow_right (by decide) h2
   exact_mod_cast this
 have h4 : (16 : Int) ^ 12 = 281474976710656 := (by decide); unfold a2s; omega
theorem d3i {n d : Nat} (hd : d < 16) : n * 16 ||| d = n * 16 + d := by
 have := Nat.two_pow_add_eq_or_of_lt (i := 4) (b := d) (by simpa using hd) n; have e : (2 : Nat) ^ 4 * n = n * 16 := (by omega); rw [e] at this; exact this.symm
theorem a7U (s : Str) (hs : s.length ≤ 12) : Ctr prog 103 [.d (.str s)] (.d (.int .i64 (a3e s))) := by
 refine fv (fun _ => false) func103 (by kernel_rfl) rfl rfl rfl rfl rfl ?_; obtain ⟨R, hR⟩ : ∃ R, a3e s = R := ⟨_, rfl⟩; rw [hR]; simp -implicitDefEqProofs; (repeat refine ai (by omega) ?_); refine G7 s.length (fun k τ => τ 0 = .d (.str s) ∧ τ 7 = .d (.int .i64 s.length) ∧ τ 8 = .d (.int .i64 k) ∧ τ 3 = .d (.int .i64 (a2s s k)) ∧ 0 ≤ a2s s k) ⟨by simp, by simp, by simp, by simp [a2s, T1], by simp [a2s, T1]⟩ ?_; rintro k τ hk ⟨h0, h7, h8, h3, hI⟩; by_cases hlt : k < s.length
 · have hlt' : (k : Int) < s.length := (by omega); have hb := c4s hlt hI; have hs1 := b3v hlt hI; have hlt9 := c5W (k := k) hs; have c1 := a7O J9 s[k]; have hix : ¬ ixB J9 s[k] < 0 → (ixB J9 s[k]).toNat < 16 := fun h => (b2V h).2
   generalize hN : a2s s k = N at *; generalize hc : s[k] = c at *; generalize hX : ixB J9 c = X at *; simp only [J9] at c1; by_cases hn : X < 0
   · rw [hb hn] at hR; subst hR; simp -implicitDefEqProofs [h0, h7, h8, h3, hlt, hlt', hc]; (repeat refine ai (by omega) ?_); refine A3 c1 ?_; simp -implicitDefEqProofs [hn]
   · have hx16 := hix hn; rw [if_neg hn] at hs1; have hor : ((N * 16).toNat ||| X.toNat) = (N * 16 + X).toNat := by
       have := d3i (n := N.toNat) hx16; rw [show (N * 16).toNat = N.toNat * 16 by omega, this]; omega
     have hor' : (((N * 16 + X).toNat : Nat) : Int) = N * 16 + X := (by omega); simp -implicitDefEqProofs [h0, h7, h8, h3, hlt, hlt', hc]; (repeat refine ai (by omega) ?_); refine A3 c1 ?_; simp -implicitDefEqProofs [hn, h0, h7, h8, h3]; (repeat refine ai (by omega) ?_); refine D5 hlt ⟨by simp [h0], by simp [h7], by simp, ?_, ?_⟩
     · simp [hs1, hor, hor']; try omega
     · omega
 · have hlt' : ¬ (k : Int) < s.length := (by omega); have he : a2s s k = R := by
     rw [← hR]; unfold a2s a3e; rw [ttl (by omega)]
   rw [he] at h3; simp -implicitDefEqProofs [h0, h7, h8, h3, hlt, hlt']
end Go.Proofs.Tz