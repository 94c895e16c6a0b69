/-
  What the functions that the statements about merged states reach compute, part 1 of 6, for data of bounded size (each theorem states its bound).
-/import Derived.Test.YtnknfnfinhagoaaGreatDoorWg
import Derived.Test.YtnknfnfinhagoaaGreatDoorProg
import Derived.KernelRfl
import Derived.WalkKit
import Derived.Lib.Builder
import Derived.Lib.UnsafeStr
import Derived.Laws.Externs
import Derived.RegionTactic
import Derived.Lib.Bytealg
import Derived.Lib.Join
open Go.Proofs.Tryz
set_option linter.unusedSimpArgs false
set_option linter.unusedVariables false
namespace Go.Proofs
open Go.Vw
@[simp] theorem Tryz.ez_1 : esz prog 1 = some (1, 8) ∧ D4 prog 1 = some 1 ∧ tyk prog 1 = some (false, 1) ∧ D1 prog 1 = some (.raw .nilFunc) := by and_intros <;> kernel_rfl
@[simp] theorem Tryz.u_2 : Program.underlying prog 2 = some (.int .i64) ∧ G4 prog 2 = none ∧ esz prog 2 = some (1, 8) ∧ D4 prog 2 = some 1 ∧ tyk prog 2 = some (false, 1) ∧ D1 prog 2 = some (.int .i64 0) := by and_intros <;> kernel_rfl
@[simp] theorem Tryz.u_3 : Program.underlying prog 3 = some (.int .i64) ∧ G4 prog 3 = none ∧ esz prog 3 = some (1, 8) ∧ D4 prog 3 = some 1 ∧ tyk prog 3 = some (false, 1) ∧ D1 prog 3 = some (.int .i64 0) := by and_intros <;> kernel_rfl
@[simp] theorem Tryz.u_4 : Program.underlying prog 4 = some .bool ∧ G4 prog 4 = none ∧ esz prog 4 = some (1, 1) ∧ D4 prog 4 = some 1 ∧ tyk prog 4 = some (false, 1) := by and_intros <;> kernel_rfl
@[simp] theorem Tryz.zd_4 : D1 prog 4 = some (.bool false) := by kernel_rfl
@[simp] theorem Tryz.u_5 : Program.underlying prog 5 = some (.int .u8) ∧ G4 prog 5 = none ∧ esz prog 5 = some (1, 1) ∧ D4 prog 5 = some 1 ∧ tyk prog 5 = some (false, 1) ∧ D1 prog 5 = some (.int .u8 0) := by and_intros <;> kernel_rfl
@[simp] theorem Tryz.u_9 : Program.underlying prog 9 = some .string ∧ G4 prog 9 = none ∧ esz prog 9 = some (1, 16) := by and_intros <;> kernel_rfl
@[simp] theorem Tryz.sz_9 : D4 prog 9 = some 1 := by kernel_rfl
@[simp] theorem Tryz.tk_9 : tyk prog 9 = some (false, 1) := by kernel_rfl
@[simp] theorem Tryz.zd_9 : D1 prog 9 = some (.str []) := by kernel_rfl
@[simp] theorem Tryz.u_12 : Program.underlying prog 12 = some (.int .u64) ∧ G4 prog 12 = none ∧ esz prog 12 = some (1, 8) ∧ D4 prog 12 = some 1 ∧ tyk prog 12 = some (false, 1) ∧ D1 prog 12 = some (.int .u64 0) := by and_intros <;> kernel_rfl
@[simp] theorem Tryz.ez_13 : esz prog 13 = some (2, 24) ∧ D4 prog 13 = some 2 ∧ tyk prog 13 = some (true, 2) ∧ D1 prog 13 = some (.agg [.str [], .int .u64 0]) ∧ S0 prog 13 = some [.str [], .int .u64 0] := by and_intros <;> kernel_rfl
@[simp] theorem Tryz.fo_13_0 : D9 prog 13 0 = some 0 := by kernel_rfl
@[simp] theorem Tryz.fo_13_1 : D9 prog 13 1 = some 1 := by kernel_rfl
@[simp] theorem Tryz.u_21 : Program.underlying prog 21 = some (.int .i32) ∧ G4 prog 21 = none ∧ esz prog 21 = some (1, 4) ∧ D4 prog 21 = some 1 ∧ tyk prog 21 = some (false, 1) ∧ D1 prog 21 = some (.int .i32 0) := by and_intros <;> kernel_rfl
@[simp] theorem Tryz.u_22 : Program.underlying prog 22 = some (.slice 35) ∧ G4 prog 22 = some 35 ∧ esz prog 22 = some (1, 24) ∧ D4 prog 22 = some 1 ∧ tyk prog 22 = some (false, 1) ∧ D1 prog 22 = some (.sl []) := by and_intros <;> kernel_rfl
@[simp] theorem Tryz.u_25 : Program.underlying prog 25 = some (.pointer 65) ∧ esz prog 25 = some (1, 8) ∧ D4 prog 25 = some 1 ∧ tyk prog 25 = some (false, 1) ∧ D1 prog 25 = some (.nilp) := by and_intros <;> kernel_rfl
@[simp] theorem Tryz.u_29 : Program.underlying prog 29 = some (.int .i64) ∧ G4 prog 29 = none ∧ esz prog 29 = some (1, 8) ∧ D4 prog 29 = some 1 ∧ tyk prog 29 = some (false, 1) ∧ D1 prog 29 = some (.int .i64 0) := by and_intros <;> kernel_rfl
@[simp] theorem Tryz.ez_32 : esz prog 32 = some (3, 24) ∧ D4 prog 32 = some 3 ∧ tyk prog 32 = some (true, 3) ∧ D1 prog 32 = some (.agg [.int .i64 0, .int .i64 0, .int .i64 0]) ∧ S0 prog 32 = some [.int .i64 0, .int .i64 0, .int .i64 0] := by and_intros <;> kernel_rfl
@[simp] theorem Tryz.fo_32_0 : D9 prog 32 0 = some 0 := by kernel_rfl
@[simp] theorem Tryz.fo_32_1 : D9 prog 32 1 = some 1 := by kernel_rfl
@[simp] theorem Tryz.fo_32_2 : D9 prog 32 2 = some 2 := by kernel_rfl
@[simp] theorem Tryz.u_33 : Program.underlying prog 33 = some (.int .i64) ∧ G4 prog 33 = none ∧ esz prog 33 = some (1, 8) ∧ D4 prog 33 = some 1 ∧ tyk prog 33 = some (false, 1) ∧ D1 prog 33 = some (.int .i64 0) := by and_intros <;> kernel_rfl
@[simp] theorem Tryz.ez_35 : esz prog 35 = some (8, 96) ∧ D4 prog 35 = some 8 ∧ tyk prog 35 = some (true, 8) := by and_intros <;> kernel_rfl
@[simp] theorem Tryz.zd_35 : D1 prog 35 = some (.agg [.agg [.int .i64 0, .int .i64 0, .int .i64 0], .int .i64 0, .str [], .str [], .str [], .str []]) := by kernel_rfl
@[simp] theorem Tryz.sd_35 : S0 prog 35 = some [.agg [.int .i64 0, .int .i64 0, .int .i64 0], .int .i64 0, .str [], .str [], .str [], .str []] := by kernel_rfl
@[simp] theorem Tryz.fo_35_0 : D9 prog 35 0 = some 0 := by kernel_rfl
@[simp] theorem Tryz.fo_35_1 : D9 prog 35 1 = some 3 := by kernel_rfl
@[simp] theorem Tryz.fo_35_2 : D9 prog 35 2 = some 4 := by kernel_rfl
@[simp] theorem Tryz.fo_35_3 : D9 prog 35 3 = some 5 := by kernel_rfl
@[simp] theorem Tryz.fo_35_4 : D9 prog 35 4 = some 6 := by kernel_rfl
@[simp] theorem Tryz.fo_35_5 : D9 prog 35 5 = some 7 := by kernel_rfl
@[simp] theorem Tryz.u_43 : Program.underlying prog 43 = some (.slice 9) ∧ G4 prog 43 = some 9 ∧ esz prog 43 = some (1, 24) ∧ D4 prog 43 = some 1 ∧ tyk prog 43 = some (false, 1) ∧ D1 prog 43 = some (.sl []) := by and_intros <;> kernel_rfl
@[simp] theorem Tryz.ez_44 : esz prog 44 = some (1, 8) ∧ D4 prog 44 = some 1 ∧ tyk prog 44 = some (false, 1) ∧ D1 prog 44 = some (.raw .nilFunc) := by and_intros <;> kernel_rfl
@[simp] theorem Tryz.ez_45 : esz prog 45 = some (1, 8) ∧ D4 prog 45 = some 1 ∧ tyk prog 45 = some (false, 1) ∧ D1 prog 45 = some (.raw .nilFunc) := by and_intros <;> kernel_rfl
@[simp] theorem Tryz.u_46 : Program.underlying prog 46 = some (.slice 72) ∧ G4 prog 46 = some 72 ∧ esz prog 46 = some (1, 24) ∧ D4 prog 46 = some 1 ∧ tyk prog 46 = some (false, 1) ∧ D1 prog 46 = some (.sl []) := by and_intros <;> kernel_rfl
@[simp] theorem Tryz.ez_48 : esz prog 48 = some (2, 40) ∧ D4 prog 48 = some 2 ∧ tyk prog 48 = some (true, 2) ∧ D1 prog 48 = some (.agg [.str [], .sl []]) ∧ S0 prog 48 = some [.str [], .sl []] := by and_intros <;> kernel_rfl
@[simp] theorem Tryz.fo_48_0 : D9 prog 48 0 = some 0 := by kernel_rfl
@[simp] theorem Tryz.fo_48_1 : D9 prog 48 1 = some 1 := by kernel_rfl
@[simp] theorem Tryz.ez_50 : esz prog 50 = some (1, 8) ∧ D4 prog 50 = some 1 ∧ tyk prog 50 = some (false, 1) ∧ D1 prog 50 = some (.raw .nilFunc) := by and_intros <;> kernel_rfl
@[simp] theorem Tryz.u_56 : Program.underlying prog 56 = some (.slice 48) ∧ G4 prog 56 = some 48 ∧ esz prog 56 = some (1, 24) ∧ D4 prog 56 = some 1 ∧ tyk prog 56 = some (false, 1) ∧ D1 prog 56 = some (.sl []) := by and_intros <;> kernel_rfl
@[simp] theorem Tryz.ez_57 : esz prog 57 = some (1, 8) ∧ D4 prog 57 = some 1 ∧ tyk prog 57 = some (false, 1) ∧ D1 prog 57 = some (.raw .nilFunc) := by and_intros <;> kernel_rfl
@[simp] theorem Tryz.ez_61 : esz prog 61 = some (1, 8) ∧ D4 prog 61 = some 1 ∧ tyk prog 61 = some (false, 1) ∧ D1 prog 61 = some (.raw .nilFunc) := by and_intros <;> kernel_rfl
@[simp] theorem Tryz.ez_62 : esz prog 62 = some (1, 8) ∧ D4 prog 62 = some 1 ∧ tyk prog 62 = some (false, 1) ∧ D1 prog 62 = some (.raw (.map none)) := by and_intros <;> kernel_rfl
@[simp] theorem Tryz.ez_63 : esz prog 63 = some (1, 8) ∧ D4 prog 63 = some 1 ∧ tyk prog 63 = some (false, 1) ∧ D1 prog 63 = some (.raw (.map none)) := by and_intros <;> kernel_rfl
@[simp] theorem Tryz.ez_64 : esz prog 64 = some (2, 16) ∧ D4 prog 64 = some 2 ∧ tyk prog 64 = some (true, 2) ∧ D1 prog 64 = some (.agg [.raw (.map none), .raw (.map none)]) ∧ S0 prog 64 = some [.raw (.map none), .raw (.map none)] := by and_intros <;> kernel_rfl
@[simp] theorem Tryz.fo_64_0 : D9 prog 64 0 = some 0 := by kernel_rfl
@[simp] theorem Tryz.fo_64_1 : D9 prog 64 1 = some 1 := by kernel_rfl
@[simp] theorem Tryz.ez_65 : esz prog 65 = some (2, 16) ∧ D4 prog 65 = some 2 ∧ tyk prog 65 = some (true, 2) ∧ D1 prog 65 = some (.agg [.raw (.map none), .raw (.map none)]) ∧ S0 prog 65 = some [.raw (.map none), .raw (.map none)] := by and_intros <;> kernel_rfl
@[simp] theorem Tryz.fo_65_0 : D9 prog 65 0 = some 0 := by kernel_rfl
@[simp] theorem Tryz.fo_65_1 : D9 prog 65 1 = some 1 := by kernel_rfl
@[simp] theorem Tryz.u_66 : Program.underlying prog 66 = some (.slice 5) ∧ G4 prog 66 = some 5 ∧ esz prog 66 = some (1, 24) ∧ D4 prog 66 = some 1 ∧ tyk prog 66 = some (false, 1) ∧ D1 prog 66 = some (.sl []) := by and_intros <;> kernel_rfl
@[simp] theorem Tryz.ez_72 : esz prog 72 = some (2, 40) := by kernel_rfl
@[simp] theorem Tryz.sz_72 : D4 prog 72 = some 2 := by kernel_rfl
@[simp] theorem Tryz.tk_72 : tyk prog 72 = some (true, 2) ∧ D1 prog 72 = some (.agg [.str [], .sl []]) ∧ S0 prog 72 = some [.str [], .sl []] := by and_intros <;> kernel_rfl
@[simp] theorem Tryz.fo_72_0 : D9 prog 72 0 = some 0 := by kernel_rfl
@[simp] theorem Tryz.fo_72_1 : D9 prog 72 1 = some 1 := by kernel_rfl
@[simp] theorem Tryz.u_75 : Program.underlying prog 75 = some (.pointer 78) ∧ esz prog 75 = some (1, 8) ∧ D4 prog 75 = some 1 ∧ tyk prog 75 = some (false, 1) := by and_intros <;> kernel_rfl
@[simp] theorem Tryz.zd_75 : D1 prog 75 = some (.nilp) := by kernel_rfl
@[simp] theorem Tryz.ez_76 : esz prog 76 = some (1, 8) ∧ D4 prog 76 = some 1 ∧ tyk prog 76 = some (false, 1) ∧ D1 prog 76 = some (.raw (.map none)) := by and_intros <;> kernel_rfl
@[simp] theorem Tryz.ez_78 : esz prog 78 = some (11, 112) ∧ D4 prog 78 = some 11 ∧ tyk prog 78 = some (true, 11) ∧ D1 prog 78 = some (.agg [.bool false, .bool false, .agg [.agg [.int .i64 0, .int .i64 0, .int .i64 0], .int .i64 0, .str [], .str [], .str [], .str []], .raw (.map none)]) ∧ S0 prog 78 = some [.bool false, .bool false, .agg [.agg [.int .i64 0, .int .i64 0, .int .i64 0], .int .i64 0, .str [], .str [], .str [], .str []], .raw (.map none)] := by and_intros <;> kernel_rfl
@[simp] theorem Tryz.fo_78_0 : D9 prog 78 0 = some 0 := by kernel_rfl
@[simp] theorem Tryz.fo_78_1 : D9 prog 78 1 = some 1 := by kernel_rfl
@[simp] theorem Tryz.fo_78_2 : D9 prog 78 2 = some 2 := by kernel_rfl
@[simp] theorem Tryz.fo_78_3 : D9 prog 78 3 = some 10 := by kernel_rfl
@[simp] theorem Tryz.ez_80 : esz prog 80 = some (1, 8) ∧ D4 prog 80 = some 1 ∧ tyk prog 80 = some (false, 1) ∧ D1 prog 80 = some (.raw (.map none)) := by and_intros <;> kernel_rfl
@[simp] theorem Tryz.ez_89 : esz prog 89 = some (1, 8) ∧ D4 prog 89 = some 1 ∧ tyk prog 89 = some (false, 1) ∧ D1 prog 89 = some (.raw .nilFunc) := by and_intros <;> kernel_rfl
@[simp] theorem Tryz.ez_90 : esz prog 90 = some (1, 8) ∧ D4 prog 90 = some 1 ∧ tyk prog 90 = some (false, 1) ∧ D1 prog 90 = some (.raw .nilFunc) := by and_intros <;> kernel_rfl
@[simp] theorem Tryz.ez_92 : esz prog 92 = some (1, 8) ∧ D4 prog 92 = some 1 ∧ tyk prog 92 = some (false, 1) ∧ D1 prog 92 = some (.raw .nilFunc) := by and_intros <;> kernel_rfl
@[simp] theorem Tryz.ez_95 : esz prog 95 = some (1, 8) ∧ D4 prog 95 = some 1 ∧ tyk prog 95 = some (false, 1) ∧ D1 prog 95 = some (.raw (.map none)) := by and_intros <;> kernel_rfl
@[simp] theorem Tryz.ez_97 : esz prog 97 = some (1, 8) ∧ D4 prog 97 = some 1 ∧ tyk prog 97 = some (false, 1) ∧ D1 prog 97 = some (.raw .nilFunc) := by and_intros <;> kernel_rfl
@[simp] theorem Tryz.ez_100 : esz prog 100 = some (2, 32) ∧ D4 prog 100 = some 2 ∧ tyk prog 100 = some (true, 2) ∧ D1 prog 100 = some (.agg [.str [], .str []]) ∧ S0 prog 100 = some [.str [], .str []] := by and_intros <;> kernel_rfl
@[simp] theorem Tryz.fo_100_0 : D9 prog 100 0 = some 0 := by kernel_rfl
@[simp] theorem Tryz.fo_100_1 : D9 prog 100 1 = some 1 := by kernel_rfl
@[simp] theorem Tryz.ez_101 : esz prog 101 = some (2, 32) ∧ D4 prog 101 = some 2 ∧ tyk prog 101 = some (true, 2) ∧ D1 prog 101 = some (.agg [.str [], .str []]) ∧ S0 prog 101 = some [.str [], .str []] := by and_intros <;> kernel_rfl
@[simp] theorem Tryz.fo_101_0 : D9 prog 101 0 = some 0 := by kernel_rfl
@[simp] theorem Tryz.fo_101_1 : D9 prog 101 1 = some 1 := by kernel_rfl
@[simp] theorem Tryz.ez_106 : esz prog 106 = some (1, 8) ∧ D4 prog 106 = some 1 ∧ tyk prog 106 = some (false, 1) ∧ D1 prog 106 = some (.raw .nilFunc) := by and_intros <;> kernel_rfl
@[simp] theorem Tryz.u_117 : Program.underlying prog 117 = some (.slice 121) ∧ G4 prog 117 = some 121 ∧ esz prog 117 = some (1, 24) ∧ D4 prog 117 = some 1 ∧ tyk prog 117 = some (false, 1) ∧ D1 prog 117 = some (.sl []) := by and_intros <;> kernel_rfl
@[simp] theorem Tryz.ez_121 : esz prog 121 = some (2, 32) ∧ D4 prog 121 = some 2 ∧ tyk prog 121 = some (true, 2) ∧ D1 prog 121 = some (.agg [.str [], .str []]) ∧ S0 prog 121 = some [.str [], .str []] := by and_intros <;> kernel_rfl
@[simp] theorem Tryz.fo_121_0 : D9 prog 121 0 = some 0 := by kernel_rfl
@[simp] theorem Tryz.fo_121_1 : D9 prog 121 1 = some 1 := by kernel_rfl
@[simp] theorem Tryz.ez_122 : esz prog 122 = some (1, 8) ∧ D4 prog 122 = some 1 ∧ tyk prog 122 = some (false, 1) ∧ D1 prog 122 = some (.raw .nilFunc) := by and_intros <;> kernel_rfl
@[simp] theorem Tryz.ez_128 : esz prog 128 = some (1, 8) ∧ D4 prog 128 = some 1 ∧ tyk prog 128 = some (false, 1) ∧ D1 prog 128 = some (.raw .nilFunc) := by and_intros <;> kernel_rfl
@[simp] theorem Tryz.ez_129 : esz prog 129 = some (1, 8) ∧ D4 prog 129 = some 1 ∧ tyk prog 129 = some (false, 1) ∧ D1 prog 129 = some (.raw .nilFunc) := by and_intros <;> kernel_rfl
@[simp] theorem Tryz.u_132 : Program.underlying prog 132 = some (.int .u64) ∧ G4 prog 132 = none ∧ esz prog 132 = some (1, 8) ∧ D4 prog 132 = some 1 ∧ tyk prog 132 = some (false, 1) ∧ D1 prog 132 = some (.int .u64 0) := by and_intros <;> kernel_rfl
@[simp] theorem Tryz.ez_135 : esz prog 135 = some (1, 8) ∧ D4 prog 135 = some 1 ∧ tyk prog 135 = some (false, 1) ∧ D1 prog 135 = some (.raw .nilFunc) := by and_intros <;> kernel_rfl
@[simp] theorem Tryz.ez_136 : esz prog 136 = some (1, 8) ∧ D4 prog 136 = some 1 ∧ tyk prog 136 = some (false, 1) ∧ D1 prog 136 = some (.raw .nilFunc) := by and_intros <;> kernel_rfl
@[simp] theorem Tryz.ez_149 : esz prog 149 = some (1, 8) ∧ D4 prog 149 = some 1 ∧ tyk prog 149 = some (false, 1) ∧ D1 prog 149 = some (.raw .nilFunc) := by and_intros <;> kernel_rfl
@[simp] theorem Tryz.ez_153 : esz prog 153 = some (1, 8) ∧ D4 prog 153 = some 1 ∧ tyk prog 153 = some (false, 1) ∧ D1 prog 153 = some (.raw .nilFunc) := by and_intros <;> kernel_rfl
@[simp] theorem Tryz.u_154 : Program.underlying prog 154 = some (.slice 3) ∧ G4 prog 154 = some 3 ∧ esz prog 154 = some (1, 24) ∧ D4 prog 154 = some 1 ∧ tyk prog 154 = some (false, 1) ∧ D1 prog 154 = some (.sl []) := by and_intros <;> kernel_rfl
@[simp] theorem Tryz.u_166 : Program.underlying prog 166 = some (.int .u32) ∧ G4 prog 166 = none ∧ esz prog 166 = some (1, 4) ∧ D4 prog 166 = some 1 ∧ tyk prog 166 = some (false, 1) ∧ D1 prog 166 = some (.int .u32 0) := by and_intros <;> kernel_rfl
@[simp] theorem Tryz.u_168 : Program.underlying prog 168 = some (.int .u64) ∧ G4 prog 168 = none ∧ esz prog 168 = some (1, 8) ∧ D4 prog 168 = some 1 ∧ tyk prog 168 = some (false, 1) ∧ D1 prog 168 = some (.int .u64 0) := by and_intros <;> kernel_rfl
@[simp] theorem Tryz.ez_171 : esz prog 171 = some (1, 8) ∧ D4 prog 171 = some 1 ∧ tyk prog 171 = some (false, 1) ∧ D1 prog 171 = some (.raw .nilFunc) := by and_intros <;> kernel_rfl
@[simp] theorem Tryz.u_173 : Program.underlying prog 173 = some (.pointer 175) ∧ esz prog 173 = some (1, 8) ∧ D4 prog 173 = some 1 ∧ tyk prog 173 = some (false, 1) ∧ D1 prog 173 = some (.nilp) := by and_intros <;> kernel_rfl
@[simp] theorem Tryz.ez_175 : esz prog 175 = some (2, 32) ∧ D4 prog 175 = some 2 ∧ tyk prog 175 = some (true, 2) ∧ D1 prog 175 = some (.agg [.nilp, .sl []]) ∧ S0 prog 175 = some [.nilp, .sl []] := by and_intros <;> kernel_rfl
@[simp] theorem Tryz.fo_175_0 : D9 prog 175 0 = some 0 := by kernel_rfl
@[simp] theorem Tryz.fo_175_1 : D9 prog 175 1 = some 1 := by kernel_rfl
@[simp] theorem Tryz.u_201 : Program.underlying prog 201 = some (.pointer 3) ∧ esz prog 201 = some (1, 8) ∧ D4 prog 201 = some 1 ∧ tyk prog 201 = some (false, 1) ∧ D1 prog 201 = some (.nilp) := by and_intros <;> kernel_rfl
@[simp] theorem Tryz.u_205 : Program.underlying prog 205 = some (.pointer 5) ∧ esz prog 205 = some (1, 8) ∧ D4 prog 205 = some 1 ∧ tyk prog 205 = some (false, 1) ∧ D1 prog 205 = some (.nilp) := by and_intros <;> kernel_rfl
@[simp] theorem Tryz.eqs_32 : a1m prog 32 = true := by kernel_rfl
@[simp] theorem Tryz.kf_32 (a0 : Int) (a1 : Int) (a2 : Int) : T1 prog (Program.fieldsOf prog 32).toList 0 [.int .i64 a0, .int .i64 a1, .int .i64 a2] = true := by kernel_rfl
@[simp] theorem Tryz.lf_32 (a0 b0 : Int) (a1 b1 : Int) (a2 b2 : Int) : O8 prog (Program.fieldsOf prog 32).toList 0 [.int .i64 a0, .int .i64 a1, .int .i64 a2] [.int .i64 b0, .int .i64 b1, .int .i64 b2] = true := by kernel_rfl
@[simp] theorem Tryz.eqs_35 : a1m prog 35 = true := by kernel_rfl
@[simp] theorem Tryz.kf_35 (a0_0 : Int) (a0_1 : Int) (a0_2 : Int) (a1 : Int) (a2 : Str) (a3 : Str) (a4 : Str) (a5 : Str) : T1 prog (Program.fieldsOf prog 35).toList 0 [.agg [.int .i64 a0_0, .int .i64 a0_1, .int .i64 a0_2], .int .i64 a1, .str a2, .str a3, .str a4, .str a5] = true := by kernel_rfl
@[simp] theorem Tryz.lf_35 (a0_0 b0_0 : Int) (a0_1 b0_1 : Int) (a0_2 b0_2 : Int) (a1 b1 : Int) (a2 b2 : Str) (a3 b3 : Str) (a4 b4 : Str) (a5 b5 : Str) : O8 prog (Program.fieldsOf prog 35).toList 0 [.agg [.int .i64 a0_0, .int .i64 a0_1, .int .i64 a0_2], .int .i64 a1, .str a2, .str a3, .str a4, .str a5] [.agg [.int .i64 b0_0, .int .i64 b0_1, .int .i64 b0_2], .int .i64 b1, .str b2, .str b3, .str b4, .str b5] = true := by kernel_rfl
@[simp] theorem Tryz.eqs_101 : a1m prog 101 = true := by kernel_rfl
@[simp] theorem Tryz.kf_101 (a0 : Str) (a1 : Str) : T1 prog (Program.fieldsOf prog 101).toList 0 [.str a0, .str a1] = true := by kernel_rfl
@[simp] theorem Tryz.lf_101 (a0 b0 : Str) (a1 b1 : Str) : O8 prog (Program.fieldsOf prog 101).toList 0 [.str a0, .str a1] [.str b0, .str b1] = true := by kernel_rfl
@[simp] theorem Tryz.eqs_121 : a1m prog 121 = true := by kernel_rfl
@[simp] theorem Tryz.kf_121 (a0 : Str) (a1 : Str) : T1 prog (Program.fieldsOf prog 121).toList 0 [.str a0, .str a1] = true := by kernel_rfl
@[simp] theorem Tryz.lf_121 (a0 b0 : Str) (a1 b1 : Str) : O8 prog (Program.fieldsOf prog 121).toList 0 [.str a0, .str a1] [.str b0, .str b1] = true := by kernel_rfl
end Go.Proofs
namespace Go.Proofs.Tz
open Go.Vw Go.RowKit Go.Proofs
theorem nbl {a b : Nat} (h : Nat.ble a b = true) : a ≤ b := Nat.le_of_ble_eq_true h
theorem ttl {α : Type} {i : Nat} {l : List α} (h : l.length ≤ i) : l.take i = l := List.take_of_length_le h
theorem ai {a b : Prop} (h : a) (k : b) : a ∧ b := ⟨h, k⟩
theorem gmm {α : Type} {l : List α} {n : Nat} (h : n < l.length) : l[n] ∈ l := List.getElem_mem h
theorem fv {f : FuncId} {fn : Func} {c : Code} {args : List AV} {t : Nat} {r : AV} (F : Nat → Bool) (hf : prog.funcs[f]? = some fn) (hk : (!(fn.name == "runtime.NumGoroutine") && a0s F fn.ntmps c) = true) (hb : fn.body = some c) (hres : fn.results = #[.tmp t]) (ha : Nat.ble args.length fn.ntmps = true) (harg : (args.all b0m) = true) (hone : a4h args = true) (h : vwp prog F c (b1g t r) (a4A args)) : Ctr prog f args r :=
  b9Q F (by kernel_rfl) hf (by simpa using (Bool.and_eq_true_iff.1 hk).1) hb hres (Nat.le_of_ble_eq_true ha) (Bool.and_eq_true_iff.1 hk).2 harg hone h
theorem b4S : (prog.info? 175).map (·.size) = some 2 := by kernel_rfl
theorem c1y : liesAt prog prog.depth 175 (2 / prog.cellsOf 175) 0 175 1 = true := by kernel_rfl
set_option maxRecDepth 100000 in
set_option maxHeartbeats 1000000 in
theorem c4b (b : Nat) (w : World) (h0 : w.cell? ⟨b, 0, none⟩ = some (.pointer (some ⟨b, 0, none⟩))) :
    Calls prog 206 #[.pointer (some ⟨b, 0, none⟩)] w fun e w' => e = .returned (.tuple #[]) ∧ w' = w := by
  obtain ⟨j, hj, _⟩ := Option.map_eq_some_iff.1 b4S
  go_enter func206, Tryz.ntmps206
  go_wp2
  rw [Lib.run_neq_ptr_same w _ Tryz.underlying173 hj]
  go_wp2
  go_end0
  exact ⟨rfl, rfl⟩
set_option maxRecDepth 100000 in
set_option maxHeartbeats 1000000 in
theorem b4L (b : Nat) (w : World) (h0 : w.cell? ⟨b, 0, none⟩ = some (.pointer none)) (hsh : w.shape? b = some (175, 2)) (hfz : w.frozen? ⟨b, 0, none⟩ = false) :
    Calls prog 206 #[.pointer (some ⟨b, 0, none⟩)] w fun e w' => e = .returned (.tuple #[]) ∧ w' = w.setCell ⟨b, 0, none⟩ (.pointer (some ⟨b, 0, none⟩)) := by
  obtain ⟨j, hj, hjs⟩ := Option.map_eq_some_iff.1 b4S
  go_enter func206, Tryz.ntmps206
  go_wp2
  rw [Lib.run_to_unsafe w ⟨b, 0, none⟩ Tryz.underlying173 Tryz.underlying226 hj (by rw [hjs]; decide) hsh (Nat.zero_lt_succ 1)]; simp only [Result.andThen]; rw [Oper.upon_value]
  go_wp2
  rw [run_callFunc_extern func240 (by kernel_rfl) (by kernel_rfl) (by kernel_rfl) (e := Extern.AbiNoEscape.same) (by kernel_rfl)]; rw [Lib.run_noEscape]; simp only [Result.andThen]; rw [Oper.upon_value]
  go_wp2
  rw [Lib.run_from_unsafe w ⟨b, 0, none⟩ Tryz.underlying226 Tryz.underlying173 hj hsh c1y]; simp only [Result.andThen]; rw [Oper.upon_value]
  go_wp2
  go_end0
  exact ⟨rfl, rfl⟩
abbrev va (b : Nat) : Value := .pointer (some ⟨b, 0, none⟩)
theorem a8i {w : World} {L : Nat → Nat → Prop} {b : Nat} {p : D} {hd : Value} (hp : p = .nilp ∨ p = .raw (va b))
    (h : Y0 w L (some b) 175 (.agg [p, .raw hd]) (va b)) : ∃ pv, w.heap[b]? = some (.cells #[pv, hd] 175 (0, 0)) ∧ (∀ o, ¬ L b o) ∧ hd.oneCell' = true ∧ H9 hd = false ∧ ((p = .nilp ∧ pv = .pointer none) ∨ (p = .raw (va b) ∧ pv = va b)) := by
  obtain ⟨g, C, h1, h2, h3, h4, h5⟩ := h; obtain rfl : b = g := by simpa using h1
  simp only [Rep, A5] at h4; obtain ⟨css, ⟨c, cs, rfl, hc, c2, cs2, rfl, ⟨rfl, h7, h8⟩, rfl⟩, h6⟩ := h4; rcases hp with rfl | rfl
  · simp only [Rep] at hc; subst hc; have : C = #[.pointer none, hd] := by apply Array.ext'; simpa using h6
    subst this; exact ⟨_, h3, h5, h7, h8, .inl ⟨rfl, rfl⟩⟩
  · simp only [Rep] at hc; obtain ⟨rfl, _, _⟩ := hc; have : C = #[va b, hd] := by apply Array.ext'; simpa using h6
    subst this; exact ⟨_, h3, h5, h7, h8, .inr ⟨rfl, rfl⟩⟩
theorem a9L {w : World} {L : Nat → Nat → Prop} {b : Nat} {hd : Value} (h1 : w.heap[b]? = some (.cells #[va b, hd] 175 (0, 0))) (h2 : ∀ o, ¬ L b o) (h3 : hd.oneCell' = true) (h4 : H9 hd = false) :
    RH prog w L (.hb (va b) 175 (.agg [.raw (va b), .raw hd])) := by
  refine ⟨rfl, b, _, rfl, rfl, h1, ?_, h2⟩; simp only [Rep, A5]; exact ⟨[[va b], [hd]], ⟨_, _, rfl, ⟨rfl, rfl, rfl⟩, _, _, rfl, ⟨rfl, h3, h4⟩, rfl⟩, rfl⟩
theorem a7l {b : Nat} {p : D} (hp : p = .nilp ∨ p = .raw (va b)) {hd : Value} :
    G7 prog 206 [.d (.raw (va b))] [.hb (va b) 175 (.agg [p, .raw hd])] (fun r hs' => r = .tup [] ∧ hs' = [.hb (va b) 175 (.agg [.raw (va b), .raw hd])]) := by
  refine ⟨enters_of func206 (by kernel_rfl) rfl, fun w L vals hlok hgl hv hh _ => ?_⟩; obtain ⟨v, us, rfl, hv1, hv2⟩ := hv; obtain rfl : us = [] := hv2; obtain rfl : v = va b := RepV.raw_inv hv1; have hb : Y0 w L (some b) 175 (.agg [p, .raw hd]) (va b) := (hh (.hb (va b) 175 (.agg [p, .raw hd])) (by simp)).2; obtain ⟨pv, e1, e2, e3, e4, e5⟩ := a8i hp hb; have hlt : b < w.heap.size := (Array.getElem?_eq_some_iff.1 e1).1; rcases e5 with ⟨rfl, rfl⟩ | ⟨rfl, rfl⟩
  · refine (b4L b w (by rw [Lib.cell_of_heap e1]; rfl) (by simp [World.shape?, e1]) (Lib.frozen_of_heap e1 0)).mono ?_; rintro e w' ⟨rfl, rfl⟩; have hsz : (w.setCell ⟨b, 0, none⟩ (va b)).heap.size = w.heap.size := (by simp [World.setCell]); refine ⟨_, L, none, .tup [], _, rfl, ⟨rfl, rfl, rfl, Nat.le_of_eq hsz.symm, fun k hk hn => Below.heap_setCell w _ _ k (fun e => hn (by simp [B7, e])), Nat.le_refl _⟩, fun g q hq => by rw [hsz]; exact hlok g q hq, fun _ _ _ _ => Iff.rfl, fun g hg => ?_, ?_, ⟨[], rfl, rfl⟩, fun x hx => ?_, rfl, rfl⟩
    · simp [B7] at hg; subst hg; exact ⟨by rw [hsz]; exact hlt, .inr (by simp [B7])⟩
    · simp [J5, B7]
    · simp at hx; subst hx; refine a9L ?_ e2 e3 e4; simp [World.setCell, Array.getElem?_modify, e1]
  · refine (c4b b w (by rw [Lib.cell_of_heap e1]; rfl)).mono ?_; rintro e w' ⟨rfl, rfl⟩; refine ⟨_, L, none, .tup [], _, rfl, E6.refl _ _, hlok, fun _ _ _ _ => Iff.rfl, fun g hg => ?_, ?_, ⟨[], rfl, rfl⟩, fun x hx => ?_, rfl, rfl⟩
    · simp [B7] at hg; subst hg; exact ⟨hlt, .inr (by simp [B7])⟩
    · simp [J5, B7]
    · simp at hx; subst hx; exact a9L e1 e2 e3 e4
theorem a7H : (prog.info? 5).map (·.size) = some 1 := by kernel_rfl
theorem b7U : prog.cellsOf 5 = 1 := by kernel_rfl
theorem a8G {w : World} {L : Nat → Nat → Prop} : ∀ {s : Str} {css : List (List Value)}, A5 w L (D2 s) css → css.flatten = s.map fun c => Value.int .u8 (c.toNat : Int)
  | [], css, h => by simp only [D2, List.map_nil, A5] at h; subst h; rfl
  | c :: s, css, h => by
    simp only [D2, List.map_cons, A5, Rep] at h; obtain ⟨c1, cs, rfl, rfl, h2⟩ := h; simp [a8G (s := s) h2]
set_option maxRecDepth 100000 in
set_option maxHeartbeats 1000000 in
theorem c4X {b g cap : Nat} {p : Value} {l : List UInt8} (w : World) (h0 : l ≠ []) (hbk : w.heap[b]? = some (.cells #[p, .slice (some ⟨g, 0, none⟩) l.length cap] 175 (0, 0))) {cur : Array Value} (hg : w.heap[g]? = some (.cells cur 5 (0, 0)))
    (hnc : l.length ≤ cap) (hcm : cap ≤ maxLen) (hcs : cap ≤ cur.size) (htk : ∀ j x, l[j]? = some x → w.cell? ((⟨g, 0, none⟩ : Addr).add j) = some (.int .u8 x.toNat)) :
    Calls prog 171 #[.pointer (some ⟨b, 0, none⟩)] w fun e w' => e = .returned (.string ⟨l.toArray⟩) ∧ w' = w.drew.freeze ⟨g, 0, none⟩ l.length := by
  have hl0 : l.length ≠ 0 := (by simpa using h0); have c1 : w.drew.cell? ⟨b, 1, none⟩ = some (.slice (some ⟨g, 0, none⟩) l.length cap) := by
    have : w.drew.heap[b]? = some (.cells #[p, .slice (some ⟨g, 0, none⟩) l.length cap] 175 (0, 0)) := hbk; rw [Lib.cell_of_heap this]; rfl
  have hSD : (Builtin.unsafeSliceData_ #[66] 205 #[.slice (some ⟨g, 0, none⟩) l.length cap]).run prog w.drew = .ok (.pointer (some ⟨g, 0, none⟩)) w.drew :=
    Lib.run_unsafeSliceData_row _ _ _ _ _ _ (by omega)
  have hUS : (Builtin.unsafeString_ #[205, 3] 9 #[.pointer (some ⟨g, 0, none⟩), .int .i64 l.length]).run prog w.drew = .ok (.string ⟨l.toArray⟩) (w.drew.freeze ⟨g, 0, none⟩ l.length) := by
    refine Lib.run_unsafeString_row w.drew 205 3 9 5 Tryz.underlying205 b7U g cur.size (by have hg' : w.drew.heap[g]? = some (.cells cur 5 (0, 0)) := hg; simp [World.shape?, hg']) l h0 (by omega) (by unfold maxLen at hcm; omega) ?_; exact htk
  go_enter func171, Tryz.ntmps171
  go_wp2
  go_region
  all_goals (go_wp2; go_ret; exact ⟨rfl, rfl⟩)
theorem b1P (W : World) (q : Option Addr) : (Builtin.unsafeString_ #[205, 3] 9 #[.pointer q, .int .i64 0]).run prog W = .ok (.string .empty) W := Lib.run_unsafeString_none W _ _ _ q
set_option maxRecDepth 100000 in
set_option maxHeartbeats 1000000 in
theorem c5C {b : Nat} {p : Value} (w : World) (hbk : w.heap[b]? = some (.cells #[p, .slice none 0 0] 175 (0, 0))) :
    Calls prog 171 #[.pointer (some ⟨b, 0, none⟩)] w fun e w' => e = .returned (.string ⟨#[]⟩) ∧ w' = w.drew := by
  have hUS := b1P; have c1 : w.drew.cell? ⟨b, 1, none⟩ = some (.slice none 0 0) := by
    have : w.drew.heap[b]? = some (.cells #[p, .slice none 0 0] 175 (0, 0)) := hbk; rw [Lib.cell_of_heap this]; rfl
  have hSD : (Builtin.unsafeSliceData_ #[66] 205 #[.slice none 0 0]).run prog w.drew = .ok (.pointer none) w.drew := rfl
  go_enter func171, Tryz.ntmps171
  go_wp2
  go_region
  all_goals (go_wp2; go_ret; exact ⟨rfl, rfl⟩)
set_option maxRecDepth 100000 in
set_option maxHeartbeats 1000000 in
theorem c3M {b g cap : Nat} {p : Value} (w : World) (hc0 : cap ≠ 0) (hbk : w.heap[b]? = some (.cells #[p, .slice (some ⟨g, 0, none⟩) 0 cap] 175 (0, 0))) :
    Calls prog 171 #[.pointer (some ⟨b, 0, none⟩)] w fun e w' => e = .returned (.string ⟨#[]⟩) ∧ w' = w.drew := by
  have hUS := b1P; have c1 : w.drew.cell? ⟨b, 1, none⟩ = some (.slice (some ⟨g, 0, none⟩) 0 cap) := by
    have : w.drew.heap[b]? = some (.cells #[p, .slice (some ⟨g, 0, none⟩) 0 cap] 175 (0, 0)) := hbk; rw [Lib.cell_of_heap this]; rfl
  have hSD : (Builtin.unsafeSliceData_ #[66] 205 #[.slice (some ⟨g, 0, none⟩) 0 cap]).run prog w.drew = .ok (.pointer (some ⟨g, 0, none⟩)) w.drew :=
    Lib.run_unsafeSliceData_row _ _ _ _ _ _ hc0
  clear hc0
  go_enter func171, Tryz.ntmps171
  go_wp2
  go_region
  all_goals (go_wp2; go_ret; exact ⟨rfl, rfl⟩)
set_option maxRecDepth 100000 in
set_option maxHeartbeats 1000000 in
theorem b9w {b g : Nat} {p : Value} {cur : Array Value} (w : World) (hbk : w.heap[b]? = some (.cells #[p, .slice (some ⟨g, 0, none⟩) 0 0] 175 (0, 0))) (hg : w.heap[g]? = some (.cells cur 5 (0, 0))) :
    Calls prog 171 #[.pointer (some ⟨b, 0, none⟩)] w fun e w' => e = .returned (.string ⟨#[]⟩) ∧ (w' = w.drew.alloc (.view ⟨g, 0, none⟩ 5) ∨ w' = (w.alloc (.view ⟨g, 0, none⟩ 5)).drew) := by
  have hUS := b1P; have hlt : b < w.heap.size := (Array.getElem?_eq_some_iff.1 hbk).1; have c1 : w.drew.cell? ⟨b, 1, none⟩ = some (.slice (some ⟨g, 0, none⟩) 0 0) := by
    have : w.drew.heap[b]? = some (.cells #[p, .slice (some ⟨g, 0, none⟩) 0 0] 175 (0, 0)) := hbk; rw [Lib.cell_of_heap this]; rfl
  have hSD : (Builtin.unsafeSliceData_ #[66] 205 #[.slice (some ⟨g, 0, none⟩) 0 0]).run prog w.drew = .ok (.pointer (some ⟨w.drew.heap.size, 0, none⟩)) (w.drew.alloc (.view ⟨g, 0, none⟩ 5)) :=
    Lib.run_unsafeSliceData_zero w.drew _ _ 5 Tryz.underlying205 ⟨g, 0, none⟩ 0 (5, cur.size) (by have hg' : w.drew.heap[g]? = some (.cells cur 5 (0, 0)) := hg; simp [World.shape?, hg'])
  have c2 : (w.drew.alloc (.view ⟨g, 0, none⟩ 5)).cell? ⟨b, 1, none⟩ = some (.slice (some ⟨g, 0, none⟩) 0 0) := by
    have : (w.drew.alloc (.view ⟨g, 0, none⟩ 5)).heap[b]? = _ := (Lib.alloc_old w.drew _ b hlt).trans hbk; rw [Lib.cell_of_heap this]; rfl
  have c3 : (w.alloc (.view ⟨g, 0, none⟩ 5)).drew.cell? ⟨b, 1, none⟩ = some (.slice (some ⟨g, 0, none⟩) 0 0) := c2; have c0 : w.cell? ⟨b, 1, none⟩ = some (.slice (some ⟨g, 0, none⟩) 0 0) := c1
  go_enter func171, Tryz.ntmps171
  go_wp2
  go_region
  all_goals (go_wp2; go_ret; exact ⟨rfl, .inl rfl⟩)
abbrev bld (b : Nat) (p : D) (hd : Value) (s : Str) : List AV := [.hb (va b) 175 (.agg [p, .raw hd]), .hs hd 5 (D2 s)]
theorem b3c (s : Str) : (D2 s).length = s.length := by simp [D2]
theorem b5T (w : World) (a : Addr) (n k : Nat) (h : k ≠ a.block) : (w.freeze a n).heap[k]? = w.heap[k]? := by
  unfold World.freeze; split
  · rfl
  · simp only []; rw [Array.getElem?_modify, if_neg (fun e => h e.symm)]
theorem b5B (w : World) (a : Addr) (n : Nat) : (w.freeze a n).heap.size = w.heap.size := by
  unfold World.freeze; split
  · rfl
  · simp
theorem a5z (w : World) (o : Obj) : (w.alloc o).heap.size = w.heap.size + 1 := by unfold World.alloc; simp
theorem a4k (w : World) (a : Addr) (n : Nat) : (w.freeze a n).os = w.os ∧ (w.freeze a n).tape = w.tape ∧ (w.freeze a n).output = w.output := by
  unfold World.freeze; split <;> exact ⟨rfl, rfl, rfl⟩
theorem a4J {b : Nat} {p : D} (hp : p = .nilp ∨ p = .raw (va b)) {hd : Value} {s : Str} :
    G7 prog 171 [.d (.raw (va b))] (bld b p hd s) (fun r hs' => r = .d (.str s) ∧ hs' = []) := by
  refine ⟨enters_of func171 (by kernel_rfl) rfl, fun w L vals hlok hgl hv hh hap => ?_⟩; obtain ⟨v, us, rfl, hv1, hv2⟩ := hv; obtain rfl : us = [] := hv2; obtain rfl : v = va b := RepV.raw_inv hv1; have hb : Y0 w L (some b) 175 (.agg [p, .raw hd]) (va b) := (hh (.hb (va b) 175 (.agg [p, .raw hd])) (by simp)).2; obtain ⟨pv, e1, e2, e3, e4, e5⟩ := a8i hp hb; have hs : D7 prog w L hd.ownBlock true 5 (D2 s) hd := (hh (.hs hd 5 (D2 s)) (by simp)).2; obtain ⟨css, sz, f1, f2, f3, f4, f5⟩ := hs; obtain rfl : sz = 1 := by
    have : ety 5 = 5 := rfl; rw [this, a7H] at f1; simpa using f1.symm
  have hcs := a8G f2; have done : ∀ (w' : World), E6 w w' (fun k => some k ∈ (bld b p hd s).map B7) → ∀ st : Str, st = s → Ending.returned (.string ⟨st.toArray⟩) = Ending.returned (.string ⟨s.toArray⟩) ∧
      ∃ v L' og r hs', Ending.returned (.string ⟨s.toArray⟩) = Ending.returned v ∧ E6 w w' (fun k => some k ∈ (bld b p hd s).map B7) ∧ (∀ b q, L' b q → b < w'.heap.size) ∧ (∀ b' q, b' < w.heap.size → some b' ∉ (bld b p hd s).map B7 → (L' b' q ↔ L b' q)) ∧
      (∀ g, some g ∈ og :: hs'.map B7 → g < w'.heap.size ∧ (w.heap.size ≤ g ∨ some g ∈ (bld b p hd s).map B7)) ∧ J5 (og :: hs'.map B7) ∧ RC prog w' L' og r v ∧ (∀ x ∈ hs', RH prog w' L' x) ∧ (r = .d (.str s) ∧ hs' = []) := by
    intro w' hg st hst; refine ⟨by rw [hst], _, L, none, .d (.str s), [], rfl, hg, fun b q hq => Nat.lt_of_lt_of_le (hlok b q hq) hg.size, fun _ _ _ _ => Iff.rfl, fun g hgm => by simp at hgm, by simp [J5], RepV.str, by simp, rfl, rfl⟩
  rcases f4.2 with ⟨rfl, hn⟩ | ⟨g, cap, cur, hv, hh', hnc, hcm, hsz, ht⟩
  · have hs0 : s = [] := (by simpa [D2] using hn); subst hs0; refine (c5C w e1).mono ?_; rintro e w' ⟨rfl, rfl⟩; exact (done w.drew ⟨rfl, rfl, rfl, Nat.le_refl _, fun _ _ _ => rfl, Nat.le_succ _⟩ [] rfl).2
  · subst hv; rw [b3c] at *; have hblk1 : (bld b p (.slice (some ⟨g, 0, none⟩) s.length cap) s).map B7 = [some b, some g] := (by simp [B7, Value.ownBlock]); by_cases h0 : s = []
    · subst h0; by_cases hc0 : cap = 0
      · subst hc0; refine (b9w w e1 hh').mono ?_; rintro e w' ⟨rfl, hw⟩; refine (done w' ?_ [] rfl).2; rcases hw with rfl | rfl
        · exact ⟨rfl, rfl, rfl, by rw [a5z]; exact Nat.le_succ _, fun k hk _ => Lib.alloc_old w.drew _ k hk, Nat.le_succ _⟩
        · exact ⟨rfl, rfl, rfl, by show _ ≤ (w.alloc _).heap.size; rw [a5z]; exact Nat.le_succ _, fun k hk _ => Lib.alloc_old w _ k hk, Nat.le_succ _⟩
      · refine (c3M w hc0 e1).mono ?_; rintro e w' ⟨rfl, rfl⟩; exact (done w.drew ⟨rfl, rfl, rfl, Nat.le_refl _, fun _ _ _ => rfl, Nat.le_succ _⟩ [] rfl).2
    · refine (c4X w h0 e1 hh' hnc hcm (by omega) (fun j x hx => ?_)).mono ?_
      · have := a2c.cells f4 (g := g) rfl j (.int .u8 x.toNat) (by rw [hcs, List.getElem?_map, hx]; rfl); exact this
      · rintro e w' ⟨rfl, rfl⟩; refine (done (w.drew.freeze ⟨g, 0, none⟩ s.length) ⟨(a4k _ _ _).1, (a4k _ _ _).2.1, (a4k _ _ _).2.2, by rw [b5B]; exact Nat.le_refl _, fun k hk hn => ?_, by rw [a3Z]; exact Nat.le_succ _⟩ s rfl).2; rw [b5T _ _ _ _ (fun e => hn (by rw [hblk1]; simp [e]))]; rfl
end Go.Proofs.Tz
namespace Go.Proofs.Tz
open Go.Vw
set_option maxRecDepth 100000
set_option maxHeartbeats 4000000
def b7s (N k : Nat) (I : Nat → St → Prop) (τ : St) : Prop := ∃ m', m' < N - k ∧ ∃ k', k' ≤ N ∧ m' = N - k' ∧ I k' τ
theorem E5 {N k : Nat} {I : Nat → St → Prop} {τ : St} (hk : k < N) (h : I (k + 1) τ) : b7s N k I τ := ⟨N - (k + 1), by omega, k + 1, hk, rfl, h⟩
theorem H3 {body : (Exit → St → Prop) → St → Prop} {Q : Exit → St → Prop} {σ : St} (N : Nat) (I : Nat → St → Prop) (h0 : I 0 σ)
    (hr : ∀ k τ, k ≤ N → I k τ → body (a2R (b7s N k I) Q) τ) : a4G body Q σ :=
  ⟨fun m τ => ∃ k, k ≤ N ∧ m = N - k ∧ I k τ, N, ⟨0, Nat.zero_le _, rfl, h0⟩, by
    rintro m τ ⟨k, hk, rfl, hI⟩; exact hr k τ hk hI⟩
theorem G9 {α : Type} {l : List α} {k : Nat} (h : k < l.length) : l.take (k + 1) = l.take k ++ [l[k]] := by
  rw [List.take_succ_eq_append_getElem h]
def B9 (l : List Str) : D := .sl (l.map .str)
def u8 (c : UInt8) : D := .int .u8 c.toNat
theorem c6h (l : List Str) (s : Str) (hl : l.length < 1000000) : Ctr prog 58 [.d (B9 l), .d (.str s)] (.d (.bool (decide (s ∈ l)))) := by
  refine fv (fun _ => false) func58 (by kernel_rfl) rfl rfl rfl rfl rfl ?_; simp -implicitDefEqProofs; refine H3 l.length (fun k τ => τ 0 = .d (B9 l) ∧ τ 1 = .d (.str s) ∧ τ 5 = .d (.int .i64 k) ∧ s ∉ l.take k) (by simp) ?_; rintro k τ hk ⟨h0, h1, h5, hn⟩; by_cases hlt : k < l.length
  · by_cases he : l[k] = s
    · simp -implicitDefEqProofs [h0, h1, h5, B9, hlt, he]; exact he ▸ gmm _
    · simp -implicitDefEqProofs [h0, h1, h5, B9, hlt, he]; refine ⟨by omega, E5 hlt ⟨by simp [h0, B9], by simp [h1], by simp, ?_⟩⟩; rw [G9 hlt, List.mem_append, List.mem_singleton]; rintro (h | h)
      · exact hn h
      · exact he h.symm
  · simp -implicitDefEqProofs [h0, h5, B9, hlt]; rw [ttl (by omega)] at hn
    first | exact ⟨by omega, hn⟩ | exact hn
def a2G (c : UInt8) : Bool := decide (97 ≤ (c.toNat : Int)) && decide ((c.toNat : Int) ≤ 122) || decide (65 ≤ (c.toNat : Int)) && decide ((c.toNat : Int) ≤ 90)
def a8v (c : UInt8) : Bool := decide (48 ≤ (c.toNat : Int)) && decide ((c.toNat : Int) ≤ 57)
def a0P (c : UInt8) : UInt8 := if 65 ≤ (c.toNat : Int) ∧ (c.toNat : Int) ≤ 90 then c + 32 else c
def C8 (s : Str) : Str := s.map a0P
theorem a3F (c : UInt8) (h1 : 65 ≤ (c.toNat : Int)) (h2 : (c.toNat : Int) ≤ 90) : ((a0P c).toNat : Int) = c.toNat + 97 - 65 := by
  rw [a0P, if_pos ⟨h1, h2⟩, UInt8.toNat_add]; have : (32 : UInt8).toNat = 32 := rfl; omega
theorem c2U (s : Str) : s.map u8 = D2 s := rfl
theorem S1 (s : Str) : (C8 s).length = s.length := by simp [C8]
theorem a5H {s : Str} {k : Nat} (h : k < List.length s) : (C8 (s.take (k + 1))).map u8 = (C8 (s.take k)).map u8 ++ [u8 (a0P s[k])] := by
  rw [G9 h]; simp only [C8, List.map_append, List.map_cons, List.map_nil]
theorem a4s (s : Str) (hs : List.length s < 1000000) : Ctr prog 87 [.d (.str s)] (.d (.str (C8 s))) := by
  refine fv (fun i => decide (i < 1000000)) func87 (by kernel_rfl) rfl rfl rfl rfl rfl ?_; simp -implicitDefEqProofs; refine H3 (List.length s) (fun k τ => τ 0 = .d (.str s) ∧ τ 4 = .d (.int .i64 k) ∧ τ 3 = .own true 5 ((C8 (s.take k)).map u8)) (by simp [C8]) ?_; rintro k τ hk ⟨h0, h4, h3⟩; by_cases hlt : k < List.length s
  · by_cases h1 : 65 ≤ (s[k].toNat : Int)
    · by_cases h2 : (s[k].toNat : Int) ≤ 90
      · simp -implicitDefEqProofs [h0, h3, h4, hlt, h1, h2, S1]; refine ⟨by omega, by omega, by omega, by omega, E5 hlt ⟨by simp [h0], by simp, ?_⟩⟩; simp -implicitDefEqProofs [a5H hlt, u8, a3F _ h1 h2]
      · simp -implicitDefEqProofs [h0, h3, h4, hlt, h1, h2, S1]; refine ⟨by omega, by omega, E5 hlt ⟨by simp [h0], by simp, ?_⟩⟩; simp -implicitDefEqProofs [a5H hlt, u8, a0P, h2]
    · simp -implicitDefEqProofs [h0, h3, h4, hlt, h1, S1]; refine ⟨by omega, by omega, E5 hlt ⟨by simp [h0], by simp, ?_⟩⟩; simp -implicitDefEqProofs [a5H hlt, u8, a0P, h1]
  · simp -implicitDefEqProofs [h0, h3, h4, hlt, c2U]; rw [ttl (by omega)]
def a1i (c : UInt8) : Bool := a2G c || a8v c || decide ((c.toNat : Int) = 45)
def S3 (s : Str) : Bool := decide (1 ≤ s.length) && decide (s.length ≤ 64) && (s.head?.any a2G) && s.all a1i
def a0X (c : UInt8) : Bool := decide (32 ≤ (c.toNat : Int)) && decide ((c.toNat : Int) ≤ 126)
def R8 (s : Str) : Bool := decide (1 ≤ s.length) && decide (s.length ≤ 256) && s.head? != some 32 && s.getLast? != some 32 && s.all a0X
theorem b4G {s : Str} {p : UInt8 → Bool} {k : Nat} (h : k < List.length s) (ha : ∀ x ∈ s.take k, p x = true) (hp : p s[k] = true) : ∀ x ∈ s.take (k + 1), p x = true := by
  rw [G9 h]; intro x hx; rcases List.mem_append.1 hx with hx | hx
  · exact ha x hx
  · rw [List.mem_singleton.1 hx]; exact hp
theorem b1G {s : Str} {p : UInt8 → Bool} {k : Nat} (h : k < List.length s) (hp : p s[k] = false) : s.all p = false := by
  rw [List.all_eq_false]; exact ⟨_, gmm h, by simp [hp]⟩
end Go.Proofs.Tz
namespace Go.Proofs.Tz
open Go.Vw Go.RowKit Go.Proofs
theorem M2 {P : Program} {g : FuncId} {args : List AV} {σ : St} {d : Nat} {K : St → Prop} (ks : List Nat) (b : Nat) {hs : List AV} {Post : AV → List AV → Prop} (h : G7 P g args hs Post) (h1 : ks.map σ = hs) (h2 : hs.all isH = true) (h3 : ks.Nodup)
    (hk : ∀ r hs', Post r hs' → K (C9 (put (B8 σ ks) d r) ks b hs')) : a3n P g args σ d K :=
  ⟨ks, b, Post, fun k hk => by
    have : σ k ∈ hs := by rw [← h1]; exact List.mem_map.2 ⟨k, hk, rfl⟩
    exact List.all_eq_true.1 h2 _ this, h3, by rw [h1]; exact h, hk⟩
theorem N9 {P : Program} {s f : Nat} {u : Value} {σ : St} {C : AV → Prop} (j : Nat) {e : TypeId} {ds : List D} (hj : σ j = .hb u e (.agg ds)) (h0 : 1000000 ≤ j) (h1 : f < ds.length) (h2 : D9 P s f = some (C6 (ds.take f))) (h : C (.adr j [f])) : b0H P s f u σ C :=
  ⟨j, e, ds, h0, hj, h1, h2, h⟩
theorem c8m {e : TypeId} {t : Str} {l : List D} {u : Value} {σ : St} {d : Nat} {K : St → Prop} (j : Nat) (hj : σ j = .hs u e l) (h2 : l.length + List.length t ≤ 140737488355328)
    (hk : ∀ A c, K (put (put σ j (.hs (.slice A (l ++ D2 t).length c) e (l ++ D2 t))) d (.d (.raw (.slice A (l ++ D2 t).length c))))) : b3j e t u σ d K := ⟨j, l, .inl hj, h2, hk⟩
@[simp] theorem c4K : a0R Value.nilIface = .undef := rfl
theorem I9 {b : Nat} {p : D} (hp : p = .nilp ∨ p = .raw (va b)) {hd : Value} {s : Str} (c : UInt8) (hl : s.length + 1 ≤ 140737488355328) :
    G7 prog 167 [.d (.raw (va b)), .d (.int .u8 c.toNat)] (bld b p hd s) (fun r hs' => ∃ hd', hs' = bld b (.raw (va b)) hd' (s ++ [c])) := by
  refine a2N (fun i => i == 5000006) (by kernel_rfl) (rs := [.tmp 4]) func167 (by kernel_rfl) rfl rfl (by simp) (nbl rfl) (by kernel_rfl) rfl ?_; simp -implicitDefEqProofs [A6]; refine M2 [1000000] 1000000 (a7l (hd := hd) hp) (by simp [A6]) rfl (by simp) ?_; rintro r hs' ⟨rfl, rfl⟩; simp -implicitDefEqProofs [A6, B8, C9]; refine N9 1000000 (by simp; exact ⟨rfl, rfl⟩) (by omega) (by simp) (by kernel_rfl) ?_; simp -implicitDefEqProofs [A6]; refine c6f (l := D2 s) 1000001 (by simp [A6]) (by simp) (by simp [D2]; omega) (by simp [D2]; omega) (fun A c2 => ?_); simp -implicitDefEqProofs [A6]; refine N9 1000000 (by simp; exact ⟨rfl, rfl⟩) (by omega) (by simp) (by kernel_rfl) ?_; simp -implicitDefEqProofs [A6]; refine ⟨[.undef], [1000000, 1000001], by simp, by simp [isH], by simp [U8, a1z], .slice A ((D2 s).length + 1) c2, by simp [D2]⟩
theorem a0j {b : Nat} {p : D} (hp : p = .nilp ∨ p = .raw (va b)) {hd : Value} {s : Str} (t : Str) (hl : s.length + t.length ≤ 140737488355328) :
    G7 prog 168 [.d (.raw (va b)), .d (.str t)] (bld b p hd s) (fun r hs' => ∃ hd', hs' = bld b (.raw (va b)) hd' (s ++ t)) := by
  refine a2N (fun i => i == 5000007) (by kernel_rfl) (rs := [.tmp 4, .tmp 5]) func168 (by kernel_rfl) rfl rfl (by simp) (nbl rfl) (by kernel_rfl) rfl ?_; simp -implicitDefEqProofs [A6]; refine M2 [1000000] 1000000 (a7l (hd := hd) hp) (by simp [A6]) rfl (by simp) ?_; rintro r hs' ⟨rfl, rfl⟩; simp -implicitDefEqProofs [A6, B8, C9]; refine N9 1000000 (by simp; exact ⟨rfl, rfl⟩) (by omega) (by simp) (by kernel_rfl) ?_; simp -implicitDefEqProofs [A6]; refine c8m (l := D2 s) 1000001 (by simp [A6]) (by simp [D2]; omega) (fun A c2 => ?_); simp -implicitDefEqProofs [A6]; refine N9 1000000 (by simp; exact ⟨rfl, rfl⟩) (by omega) (by simp) (by kernel_rfl) ?_; simp -implicitDefEqProofs [A6]; refine ⟨[.undef, .undef], [1000000, 1000001], by simp, by simp [isH], by simp [U8, a1z], .slice A ((D2 s).length + (D2 t).length) c2, by simp [D2]⟩
theorem Ctr.same {P : Program} {f : FuncId} {xs : List D} {r : D} {vs : List Value} {v : Value} (hE : Enters P f) (h : ∀ w, Calls P f vs.toArray w fun e w' => e = .returned v ∧ w' = w)
    (hx : ∀ w L og vals, RCs P w L og (xs.map .d) vals → vals = vs) (hr : ∀ w L, RepV w L r v) : Ctr P f (xs.map .d) (.d r) := by
  refine ⟨hE, fun w L og vals hlok hgl hog hv => ?_⟩; rw [hx w L og vals hv]; refine (h w).mono ?_; rintro e w' ⟨rfl, rfl⟩; exact ⟨_, L, none, rfl, E6.refl _ _, hlok, fun _ _ _ _ => Iff.rfl, by simp, hr _ _⟩
abbrev ixB (s : Str) (c : UInt8) : Int := Go.Lib.indexByte s c
set_option maxRecDepth 100000 in
set_option maxHeartbeats 1000000 in
theorem b1p (s : Str) (c : UInt8) (w : World) : Calls prog 190 #[.string ⟨s.toArray⟩, .int .u8 c.toNat] w fun e w' => e = .returned (.int .i64 (ixB s c)) ∧ w' = w := by
  go_enter func190, Tryz.ntmps190
  go_wp2
  rw [run_callFunc_extern func226 (by kernel_rfl) (by kernel_rfl) (by kernel_rfl) (e := Extern.BytealgIndexByte.indexByte) (by kernel_rfl), Lib.run_indexByteString]; simp only [Result.andThen]; rw [Oper.upon_value]
  go_wp2
  go_ret
  simp [ixB]
theorem b3b (s : Str) (c : UInt8) : Ctr prog 190 [.d (.str s), .d (.int .u8 c.toNat)] (.d (.int .i64 (ixB s c))) := by
  refine Ctr.same (xs := [.str s, .int .u8 c.toNat]) (enters_of func190 (by kernel_rfl) rfl) (b1p s c) (fun w L og vals h => ?_) (fun w L => RepV.int); obtain ⟨v, us, rfl, h1, v2, us2, rfl, h2, h3⟩ := h; obtain rfl : us2 = [] := h3; obtain rfl := RepV.str_inv h1; obtain rfl := RepV.int_inv h2; rfl
theorem a7Q (s : Str) (c : UInt8) : Ctr prog 148 [.d (.str s), .d (.int .u8 c.toNat)] (.d (.int .i64 (ixB s c))) := by
  refine fv (fun _ => false) func148 (by kernel_rfl) rfl rfl rfl rfl rfl ?_; simp -implicitDefEqProofs; refine A1 (b3b s c) ?_; simp -implicitDefEqProofs
set_option maxRecDepth 100000 in
set_option maxHeartbeats 1000000 in
theorem c5J {s : Str} {c : UInt8} (h : 0 ≤ ixB s c) : (ixB s c).toNat < s.length := by
  induction s with
  | nil => simp [ixB, Go.Lib.indexByte] at h
  | cons x s ih =>
    simp only [ixB, Go.Lib.indexByte] at h ih ⊢; split
    · simp
    · split
      · rename_i h1 h2; simp [h1, h2] at h
      · rename_i h1 h2
        simp only [h1, h2] at h; have h3 : Go.Lib.indexByte s c ≠ -1 := (by simpa using h2); have h4 := Go.Lib.indexByte_ge s c; have := ih (by omega); simp only [List.length_cons]; omega
def a5c (c : UInt8) : Bool := decide ((33 : Int) ≤ c.toNat ∧ (c.toNat : Int) ≤ 126 ∧ ¬ (c.toNat : Int) = 37 ∧ ¬ (c.toNat : Int) = 124 ∧ ¬ (c.toNat : Int) = 44 ∧ ¬ (c.toNat : Int) = 61 ∧ ¬ (c.toNat : Int) = 59 ∧ ¬ (c.toNat : Int) = 34)
theorem c3A (s : Str) (c : UInt8) : ixB s c < 0 ↔ c ∉ s := by
  induction s with
  | nil => simp [ixB, Go.Lib.indexByte]
  | cons x s ih =>
    have h4 := Go.Lib.indexByte_ge s c; simp only [ixB, Go.Lib.indexByte] at ih ⊢; by_cases hx : x = c
    · simp [hx]
    · have hx' : (x == c) = false := (by simpa using hx); simp only [hx', Bool.false_eq_true, if_false, List.mem_cons, not_or]; by_cases h : Go.Lib.indexByte s c = -1
      · simp [h] at ih ⊢; exact ⟨fun e => hx e.symm, ih⟩
      · have hn : ¬ Go.Lib.indexByte s c < 0 := (by omega); have h0 : (Go.Lib.indexByte s c == -1) = false := (by simpa using h); simp only [h0, Bool.false_eq_true, if_false]; constructor
        · intro h5; omega
        · intro h5; exact absurd (ih.2 h5.2) hn
theorem W9 (c : UInt8) (k : Nat) (hk : k < 256) : ((c.toNat : Int) = k) ↔ c = UInt8.ofNat k := by
  constructor
  · intro h; have : c.toNat = k := (by omega); rw [← this, UInt8.ofNat_toNat]
  · rintro rfl; simp [UInt8.toNat_ofNat', Nat.mod_eq_of_lt hk]
theorem c0j (c : UInt8) : decide (ixB [37, 124, 44, 61, 59, 34] c < 0) = decide (¬ (c.toNat : Int) = 37 ∧ ¬ (c.toNat : Int) = 124 ∧ ¬ (c.toNat : Int) = 44 ∧ ¬ (c.toNat : Int) = 61 ∧ ¬ (c.toNat : Int) = 59 ∧ ¬ (c.toNat : Int) = 34) := by
  have h1 : ((c.toNat : Int) = 37) ↔ c = 37 := W9 c 37 (by omega); have h2 : ((c.toNat : Int) = 124) ↔ c = 124 := W9 c 124 (by omega); have h3 : ((c.toNat : Int) = 44) ↔ c = 44 := W9 c 44 (by omega); have h4 : ((c.toNat : Int) = 61) ↔ c = 61 := W9 c 61 (by omega); have h5 : ((c.toNat : Int) = 59) ↔ c = 59 := W9 c 59 (by omega); have h6 : ((c.toNat : Int) = 34) ↔ c = 34 := W9 c 34 (by omega); rw [decide_eq_decide, c3A, h1, h2, h3, h4, h5, h6]; simp
theorem c1f (c : UInt8) : Ctr prog 181 [.d (.int .u8 c.toNat)] (.d (.bool (a5c c))) := by
  refine fv (fun _ => false) func181 (by kernel_rfl) rfl rfl rfl rfl rfl ?_; by_cases h1 : (33 : Int) ≤ c.toNat
  · by_cases h2 : (c.toNat : Int) ≤ 126
    · simp -implicitDefEqProofs [h1, h2]; refine A1 (a7Q _ c) ?_; simp -implicitDefEqProofs [h1, h2, a5c]; rw [c0j]; simp
    · simp -implicitDefEqProofs [h1, h2, a5c]
  · simp -implicitDefEqProofs [h1, a5c]
set_option maxRecDepth 100000
abbrev b8v : Str := [48, 49, 50, 51, 52, 53, 54, 55, 56, 57, 65, 66, 67, 68, 69, 70]
def a6g (n : Nat) : UInt8 := b8v.getD n 0
def b1m (c : UInt8) : Str := if a5c c then [c] else [37, a6g (c.toNat / 16), a6g (c.toNat % 16)]
def a0i (s : Str) : Str := s.flatMap b1m
theorem c1N (c : UInt8) : (b1m c).length ≤ 3 := by unfold b1m; split <;> simp
theorem a5M (s : Str) : (a0i s).length ≤ 3 * s.length := by
  induction s with
  | nil => simp [a0i]
  | cons c s ih =>
    have := c1N c; simp only [a0i, List.flatMap_cons, List.length_append, List.length_cons] at ih ⊢; omega
theorem c0x {s : Str} {k : Nat} (h : k < List.length s) : a0i (s.take (k + 1)) = a0i (s.take k) ++ b1m s[k] := by
  rw [G9 h]; simp only [a0i, List.flatMap_append, List.flatMap_cons, List.flatMap_nil, List.append_nil]
theorem b9M {n : Nat} (h : n < 16) : b8v[n]? = some (a6g n) := by
  simp only [a6g, List.getD_eq_getElem?_getD]; rw [List.getElem?_eq_getElem (by simpa using h)]; rfl
theorem d2m (c : UInt8) : (0 : Int) ≤ (c.toNat : Int) / 16 ∧ (c.toNat : Int) / 16 ≤ 255 ∧ ((c.toNat : Int) / 16).toNat = c.toNat / 16 ∧ [48, 49, 50, 51, 52, 53, 54, 55, 56, 57, 65, 66, 67, 68, 69, 70][c.toNat / 16]? = some (a6g (c.toNat / 16)) ∧ c.toNat / 16 < 16 := by
  have := c.toNat_lt; exact ⟨by omega, by omega, by omega, b9M (by omega), by omega⟩
theorem d2p (c : UInt8) : (0 : Int) ≤ (c.toNat : Int) % 16 ∧ ((c.toNat : Int) % 16).toNat = c.toNat % 16 ∧ [48, 49, 50, 51, 52, 53, 54, 55, 56, 57, 65, 66, 67, 68, 69, 70][c.toNat % 16]? = some (a6g (c.toNat % 16)) := by
  have := c.toNat_lt; exact ⟨by omega, by omega, b9M (by omega)⟩
theorem b3t {P : Program} {e : TypeId} {z : D} {σ : St} {d : Nat} {K : St → Prop} (j k : Nat) (e' : TypeId) (h1 : σ k = .undef) (h2 : (P.info? (ety e')).isSome = true) (h3 : σ j = .undef) (hjk : j ≠ k)
    (hK : ∀ g, K (put (put (put σ k (.hs (.slice none 0 0) e' [])) j (.hb (va g) e z)) d (.d (.raw (va g))))) : b4U P e z σ d K :=
  ⟨j, some (k, e'), ⟨h1, h2⟩, by simp [b7I, hjk, h3], hK⟩
theorem b3n : a3O prog true 8 175 = .agg [.nilp, .raw (.slice none 0 0)] := by kernel_rfl
def a8k (τ : St) (b : Nat) (s : Str) : Prop := ∃ p hd, (p = .nilp ∨ p = .raw (va b)) ∧ τ 1000000 = .hb (va b) 175 (.agg [p, .raw hd]) ∧ τ 1000001 = .hs hd 5 (D2 s)
theorem a7X (s : Str) (hs : List.length s < 1000000) : Ctr prog 126 [.d (.str s)] (.d (.str (a0i s))) := by
  refine fv (fun i => i == 1000003 || i == 5000017 || i == 5000018 || i == 5000022 || i == 5000026 || i == 5000028) func126 (by kernel_rfl) rfl rfl rfl rfl rfl ?_; simp -implicitDefEqProofs; refine b3t 1000000 1000001 5 (by simp) (by kernel_rfl) (by simp) (by simp) (fun b => ?_); simp -implicitDefEqProofs; refine H3 (List.length s) (fun k τ => τ 0 = .d (.str s) ∧ τ 8 = .d (.int .i64 k) ∧ τ 7 = .d (.int .i64 s.length) ∧ τ 3 = .d (.raw (va b)) ∧ a8k τ b (a0i (s.take k))) ?_ ?_
  · exact ⟨by simp, by simp, by simp, by simp, .nilp, .slice none 0 0, .inl rfl, by simp [b3n], by simp [a0i, D2]⟩
  rintro k τ hk ⟨h0, h8, h7, h3, p, hd, hp, hb, hh⟩; by_cases hlt : k < List.length s
  · have h5 := a5M (s.take k); rw [List.length_take, Nat.min_eq_left (by omega)] at h5; have h6 := c0x hlt; simp -implicitDefEqProofs [h0, h3, h7, h8, hlt]; refine A1 (c1f s[k]) ?_; by_cases hpl : a5c s[k] = true
    · simp -implicitDefEqProofs [h0, h3, h7, h8, hlt, hpl]; refine M2 [1000000, 1000001] 1000000 (I9 (s := a0i (s.take k)) (hd := hd) hp s[k] (by omega)) (by simp [hb, hh]) rfl (by simp) ?_; rintro r hs' ⟨hd1, rfl⟩; simp -implicitDefEqProofs [h0, h3, h7, h8, hlt, B8, C9]; refine ⟨by omega, E5 hlt ⟨by simp [h0], by simp, by simp [h7], by simp [h3], .raw (va b), hd1, .inr rfl, by simp, by simp [h6, b1m, hpl]⟩⟩
    · obtain ⟨q1, q2, q3, q4, q5⟩ := d2m s[k]; obtain ⟨r1, r2, r3⟩ := d2p s[k]; simp -implicitDefEqProofs [h0, h3, h7, h8, hlt, hpl]; refine M2 [1000000, 1000001] 1000000 (I9 (s := a0i (s.take k)) (hd := hd) hp 37 (by omega)) (by simp [hb, hh]) rfl (by simp) ?_; rintro r hs' ⟨hd1, rfl⟩; have hand : s[k].toNat &&& 15 = s[k].toNat % 16 := Nat.and_two_pow_sub_one_eq_mod s[k].toNat 4; have hlt8 : s[k].toNat ≤ 255 := by have := s[k].toNat_lt; omega
      simp -implicitDefEqProofs [h0, h3, h7, h8, hlt, B8, C9, q1, q2, q3, q4]; refine M2 [1000000, 1000001] 1000000 (I9 (b := b) (s := a0i (s.take k) ++ [37]) (hd := hd1) (.inr rfl) (a6g (s[k].toNat / 16)) (by simp; omega)) (by simp) rfl (by simp) ?_; rintro r hs' ⟨hd2, rfl⟩; simp -implicitDefEqProofs [h0, h3, h7, h8, hlt, B8, C9, hand, r3, q1, q2, r1, r2, hlt8]; refine ⟨by omega, ?_⟩; refine M2 [1000000, 1000001] 1000000 (I9 (b := b) (s := a0i (s.take k) ++ [37] ++ [a6g (s[k].toNat / 16)]) (hd := hd2) (.inr rfl) (a6g (s[k].toNat % 16)) (by simp; omega)) (by simp) rfl (by simp) ?_; rintro r hs' ⟨hd3, rfl⟩; simp -implicitDefEqProofs [h0, h3, h7, h8, hlt, B8, C9]; refine ⟨by omega, E5 hlt ⟨by simp [h0], by simp, by simp [h7], by simp [h3], .raw (va b), hd3, .inr rfl, by simp, by simp [h6, b1m, hpl]⟩⟩
  · simp -implicitDefEqProofs [h0, h3, h7, h8, hlt]; rw [ttl (by omega)] at hh; refine M2 [1000000, 1000001] 1000000 (a4J (s := a0i s) (hd := hd) hp) (by simp [hb, hh]) rfl (by simp) ?_; rintro r hs' ⟨rfl, rfl⟩; simp -implicitDefEqProofs [h0, h3, h7, h8, hlt, B8, C9]
abbrev c5i (c : UInt8) : Int := ixB b8v c
def hx (h l : UInt8) : UInt8 := UInt8.ofNat (16 * (c5i h).toNat + (c5i l).toNat)
theorem c0d {N k k' : Nat} {I : Nat → St → Prop} {τ : St} (hk : k < k') (hk' : k' ≤ N) (h : I k' τ) : b7s N k I τ := ⟨N - k', by omega, k', hk', rfl, h⟩
theorem a2d {α : Type} {l : List α} {k : Nat} (h : k < l.length) : l.drop k = l[k] :: l.drop (k + 1) := List.drop_eq_getElem_cons h
def D6 (c : UInt8) : List Str → Str
  | [] => []
  | [p] => p
  | p :: q :: ps => p ++ c :: D6 c (q :: ps)
def b8a {α : Type} (p : α → Bool) (l : List α) : Prop := ∀ x ∈ l, p x = true
theorem b8a.nil {α : Type} {p : α → Bool} : b8a p [] := fun _ h => by simp at h
theorem b8a.all {α : Type} {p : α → Bool} {l : List α} (h : b8a p l) : l.all p = true := List.all_eq_true.2 h
section
variable {α : Type} (line : Str → Option α) (chk : List α → Int)
end
section
variable {α : Type} {line : Str → Option α} {chk : List α → Int} {w : α → Str}
end
abbrev Csn := Int × Int × Int
def B5 (c : Csn) : D := .agg [.int .i64 c.1, .int .i64 c.2.1, .int .i64 c.2.2]
def U2 (c : Csn) : Bool := decide (0 ≤ c.1) && decide (c.1 ≤ 1099511627776) && decide (0 ≤ c.2.1) && decide (c.2.1 ≤ 4294967295) && decide (0 ≤ c.2.2) && decide (c.2.2 < 8)
def a0u (a b : Int) : Int := if a < b then -1 else if b < a then 1 else 0
def W6 (a b : Csn) : Int := if a.1 ≠ b.1 then a0u a.1 b.1 else if a.2.1 ≠ b.2.1 then a0u a.2.1 b.2.1 else a0u a.2.2 b.2.2
theorem a3e {a b : Int} : a0u a b = 0 ↔ a = b := by unfold a0u; split <;> (try split) <;> omega
theorem a9v {a b : Int} : a0u a b < 0 ↔ a < b := by unfold a0u; split <;> (try split) <;> omega
theorem a3c {a b : Csn} : W6 a b = 0 ↔ a = b := by
  unfold W6; obtain ⟨a1, a2, a3⟩ := a; obtain ⟨b1, b2, b3⟩ := b; simp only [Prod.mk.injEq]; split
  · rw [a3e]; rename_i h; constructor
    · intro e; exact absurd e h
    · intro e; exact e.1
  · rename_i h
    have h : a1 = b1 := (by simpa using h); split
    · rw [a3e]; rename_i h; constructor
      · intro e; exact absurd e h
      · intro e; exact e.2.1
    · rename_i h2
      have h2 : a2 = b2 := (by simpa using h2); rw [a3e]; exact ⟨fun e => ⟨h, h2, e⟩, fun e => e.2.2⟩
theorem c1R {a b : Csn} : W6 a b < 0 ↔ a.1 < b.1 ∨ a.1 = b.1 ∧ (a.2.1 < b.2.1 ∨ a.2.1 = b.2.1 ∧ a.2.2 < b.2.2) := by
  unfold W6; split
  · rw [a9v]; omega
  · split
    · rw [a9v]; omega
    · rw [a9v]; omega
theorem b8k {a b c : Csn} (h1 : W6 a b < 0) (h2 : W6 b c < 0) : W6 a c < 0 := by
  rw [c1R] at *; omega
abbrev L9 : Str := [48, 49, 50, 51, 52, 53, 54, 55, 56, 57, 97, 98, 99, 100, 101, 102]
def b1n (n : Nat) : UInt8 := L9.getD n 0
def a0f (n : Nat) : Nat → Str
  | 0 => []
  | w + 1 => a0f (n / 16) w ++ [b1n (n % 16)]
theorem a4f (w : Nat) : ∀ n, (a0f n w).length = w := by
  induction w with
  | zero => intro n; rfl
  | succ w ih => intro n; simp [a0f, ih]
def S7 (n : Int) : Str → Int
  | [] => n
  | c :: s => if ixB L9 c < 0 then -1 else S7 (n * 16 + ixB L9 c) s
def a4q (s : Str) : Int := S7 0 s
theorem a8e (n : Int) (hn : 0 ≤ n) : ∀ (a b : Str), S7 n (a ++ b) = if S7 n a < 0 then -1 else S7 (S7 n a) b := by
  intro a
  induction a generalizing n with
  | nil => intro b; simp [S7]; omega
  | cons c a ih =>
    intro b; simp only [List.cons_append, S7]; by_cases h : ixB L9 c < 0
    · simp [h]
    · simp only [h, if_false]; exact ih _ (by omega) b
theorem b1z {c : UInt8} (h : ¬ ixB L9 c < 0) : b1n (ixB L9 c).toNat = c ∧ (ixB L9 c).toNat < 16 := by
  have hlt : (ixB L9 c).toNat < L9.length := c5J (by omega); refine ⟨?_, by simpa using hlt⟩; have h1 : ∀ (s : Str), 0 ≤ ixB s c → s.getD (ixB s c).toNat 0 = c := by
    intro s
    induction s with
    | nil => intro h; simp [ixB, Go.Lib.indexByte] at h
    | cons x s ih =>
      intro h; have hge := Go.Lib.indexByte_ge s c; simp only [ixB, Go.Lib.indexByte] at h ih ⊢; by_cases hx : (x == c) = true
      · rw [if_pos hx]; simpa using hx
      · rw [if_neg hx] at h ⊢; by_cases h2 : (Go.Lib.indexByte s c == -1) = true
        · rw [if_pos h2] at h; simp at h
        · rw [if_neg h2] at h ⊢; have h3 : 0 ≤ Go.Lib.indexByte s c := by
            have : Go.Lib.indexByte s c ≠ -1 := (by simpa using h2); omega
          have h4 : (Go.Lib.indexByte s c + 1).toNat = (Go.Lib.indexByte s c).toNat + 1 := (by omega); rw [h4, List.getD_cons_succ]; exact ih h3
  exact h1 L9 (by omega)
theorem b5r : ∀ (s : Str) (n : Int), 0 ≤ n → S7 n s < (n + 1) * 16 ^ s.length
  | [], n, h => by simp [S7]; omega
  | c :: s, n, h => by
    simp only [S7, List.length_cons]; split
    · have : (0 : Int) < (n + 1) * 16 ^ (s.length + 1) := Int.mul_pos (by omega) (Int.pow_pos (by decide)); omega
    · rename_i hc
      have h16 := (b1z hc).2; have ih := b5r s (n * 16 + ixB L9 c) (by omega); have h2 : (n * 16 + ixB L9 c + 1) * 16 ^ s.length ≤ ((n + 1) * 16) * 16 ^ s.length := Int.mul_le_mul_of_nonneg_right (by omega) (Int.le_of_lt (Int.pow_pos (by decide))); have e : (n + 1) * 16 ^ (s.length + 1) = ((n + 1) * 16) * 16 ^ s.length := by rw [Int.pow_succ, Int.mul_assoc, Int.mul_comm 16]
      rw [e]; omega
theorem b1v : ∀ (w : Nat) (s : Str), s.length = w → 0 ≤ a4q s → a0f (a4q s).toNat w = s := by
  intro w
  induction w with
  | zero => intro s h _; have : s = [] := List.length_eq_zero_iff.1 h; subst this; rfl
  | succ w ih =>
    intro s h h0; have hsn : s ≠ [] := by rintro rfl; simp at h
    obtain ⟨a, c, rfl⟩ : ∃ a c, s = a ++ [c] := ⟨s.dropLast, s.getLast hsn, (List.dropLast_concat_getLast hsn).symm⟩; have ha : a.length = w := (by simpa using h); unfold a4q at h0 ih ⊢; rw [a8e 0 (Int.le_refl _)] at h0 ⊢; by_cases h1 : S7 0 a < 0
    · rw [if_pos h1] at h0; omega
    · rw [if_neg h1] at h0 ⊢; simp only [S7] at h0 ⊢; by_cases hc : ixB L9 c < 0
      · rw [if_pos hc] at h0; omega
      · rw [if_neg hc] at h0 ⊢; obtain ⟨e1, e2⟩ := b1z hc; have i := ih a ha (by omega); rw [a0f]; have d1 : (S7 0 a * 16 + ixB L9 c).toNat / 16 = (S7 0 a).toNat := (by omega); have d2 : (S7 0 a * 16 + ixB L9 c).toNat % 16 = (ixB L9 c).toNat := (by omega); rw [d1, d2, e1, i]
def Q1 (c : Csn) : Str := if U2 c = true then a0f c.1.toNat 11 ++ 45 :: (a0f c.2.1.toNat 8 ++ 45 :: a0f c.2.2.toNat 1) else []
def a4a (s : Str) : Csn := (a4q (s.take 11), a4q ((s.take 20).drop 12), a4q (s.drop 21))
def a0y (s : Str) : Csn × Int :=
  if s.length ≠ 22 ∨ s[11]? ≠ some 45 ∨ s[20]? ≠ some 45 then ((0, 0, 0), 4)
  else if (a4a s).1 < 0 ∨ (a4a s).2.1 < 0 ∨ (a4a s).2.2 < 0 then ((0, 0, 0), 4)
  else if U2 (a4a s) = false then ((0, 0, 0), 27) else (a4a s, 0)
theorem a8T {c : Csn} (h : U2 c = true) : (Q1 c).length = 22 := by
  rw [Q1, if_pos h]; simp [a4f]
theorem b7u {c : Csn} : U2 c = true ↔ 0 ≤ c.1 ∧ c.1 ≤ 1099511627776 ∧ 0 ≤ c.2.1 ∧ c.2.1 ≤ 4294967295 ∧ 0 ≤ c.2.2 ∧ c.2.2 < 8 := by
  simp only [U2, Bool.and_eq_true, decide_eq_true_eq]; omega
theorem b4j {s : Str} {c : Csn} (h : a0y s = (c, 0)) : Q1 c = s ∧ U2 c = true := by
  unfold a0y at h; split at h
  · simp at h
  · rename_i h1
    split at h
    · simp at h
    · rename_i h2
      split at h
      · simp at h
      · rename_i h3
        simp only [Prod.mk.injEq, and_true] at h; subst h; have hv : U2 (a4a s) = true := (by simpa using h3); refine ⟨?_, hv⟩; have h1' : s.length = 22 ∧ s[11]? = some 45 ∧ s[20]? = some 45 := by
          simp only [not_or, Classical.not_not, ne_eq] at h1; exact h1
        obtain ⟨hl, g1, g2⟩ := h1'; simp only [a4a, not_or, Int.not_lt] at h2; rw [Q1, if_pos hv]; simp only [a4a]; rw [b1v 11 _ (by simp; omega) h2.1, b1v 8 _ (by simp; omega) h2.2.1, b1v 1 _ (by simp; omega) h2.2.2]; have e1 : s = s.take 11 ++ s.drop 11 := (List.take_append_drop 11 s).symm; have e2 : s.drop 11 = 45 :: s.drop 12 := by
          rw [List.drop_eq_getElem_cons (by omega)]; congr 1
          rw [List.getElem?_eq_getElem (by omega)] at g1; exact Option.some.inj g1
        have e3 : s.drop 12 = (s.take 20).drop 12 ++ s.drop 20 := by
          rw [List.drop_take, show (20 : Nat) = 12 + 8 from rfl, ← List.drop_drop, show 12 + 8 - 12 = 8 from rfl, List.take_append_drop]
        have e4 : s.drop 20 = 45 :: s.drop 21 := by
          rw [List.drop_eq_getElem_cons (by omega)]; congr 1
          rw [List.getElem?_eq_getElem (by omega)] at g2; exact Option.some.inj g2
        rw [← e4, ← e3, ← e2, ← e1]
theorem b1W (x : Int) : Ctr prog 147 [.d (.int .i64 x)] (.d (.bool false)) := by
  refine fv (fun _ => false) func147 (by kernel_rfl) rfl rfl rfl rfl rfl ?_; simp -implicitDefEqProofs
theorem a8l (x y : Int) : Ctr prog 102 [.d (.int .i64 x), .d (.int .i64 y)] (.d (.int .i64 (a0u x y))) := by
  refine fv (fun _ => false) func102 (by kernel_rfl) rfl rfl rfl rfl rfl ?_; have c1 := b1W x; have c2 := b1W y; unfold a0u; by_cases h1 : x < y
  · simp -implicitDefEqProofs; refine A1 c1 ?_; simp -implicitDefEqProofs; refine A1 c2 ?_; simp -implicitDefEqProofs [h1]
  by_cases h2 : y < x
  · simp -implicitDefEqProofs; refine A1 c1 ?_; simp -implicitDefEqProofs; refine A1 c2 ?_; simp -implicitDefEqProofs [h1, h2]
  · simp -implicitDefEqProofs; refine A1 c1 ?_; simp -implicitDefEqProofs; refine A1 c2 ?_; simp -implicitDefEqProofs [h1, h2]
def orI : List Int → Int
  | [] => 0
  | x :: l => if x ≠ 0 then x else orI l
def a2h (l : List Int) : D := .sl (l.map (.int .i64))
theorem a6a (l : List Int) (hl : l.length < 1000000) : Ctr prog 101 [.d (a2h l)] (.d (.int .i64 (orI l))) := by
  refine fv (fun _ => false) func101 (by kernel_rfl) rfl rfl rfl rfl rfl ?_; obtain ⟨R, hR⟩ : ∃ R, orI l = R := ⟨_, rfl⟩; rw [hR]; simp -implicitDefEqProofs [a2h]; refine H3 l.length (fun k τ => τ 6 = .d (a2h l) ∧ τ 7 = .d (.int .i64 l.length) ∧ τ 8 = .d (.int .i64 k) ∧ τ 3 = .d (.int .i64 0) ∧ orI (l.drop k) = R) ⟨by simp [a2h], by simp, by simp, by simp, by simpa using hR⟩ ?_; rintro k τ hk ⟨h6, h7, h8, h3, hI⟩; by_cases hlt : k < l.length
  · have hlt' : (k : Int) < l.length := (by omega); rw [List.drop_eq_getElem_cons hlt, orI] at hI; generalize hx : l[k] = x at *; by_cases h0 : x = 0
    · rw [if_neg (by simpa using h0)] at hI; simp -implicitDefEqProofs [h6, h7, h8, h3, a2h, hlt, hlt', hx, h0]; (repeat refine ai (by omega) ?_); exact E5 hlt ⟨by simp [h6, a2h], by simp [h7], by simp, by simp [h3], hI⟩
    · rw [if_pos h0] at hI; rw [hI] at hx h0; simp -implicitDefEqProofs [h6, h7, h8, h3, a2h, hlt, hlt', hx, h0]
  · have hlt' : ¬ (k : Int) < l.length := (by omega); rw [List.drop_eq_nil_of_le (by omega), orI] at hI; subst hI; simp -implicitDefEqProofs [h6, h7, h8, h3, hlt']
theorem a7D (c : Csn) : Ctr prog 52 [.d (B5 c)] (.d (.bool (U2 c))) := by
  refine fv (fun _ => false) func52 (by kernel_rfl) rfl rfl rfl rfl rfl ?_; obtain ⟨t, s, r⟩ := c; unfold U2; by_cases h1 : 0 ≤ t <;> by_cases h2 : t ≤ 1099511627776 <;> by_cases h3 : 0 ≤ s <;> by_cases h4 : s ≤ 4294967295 <;> by_cases h5 : 0 ≤ r <;> by_cases h6 : r < 8 <;> simp -implicitDefEqProofs [B5, h1, h2, h3, h4, h5, h6]
theorem c4D (a b : Csn) : orI [a0u a.1 b.1, a0u a.2.1 b.2.1, a0u a.2.2 b.2.2] = W6 a b := by
  simp only [orI, W6, ne_eq, a3e]; by_cases h3 : a.2.2 = b.2.2
  · have := a3e.2 h3; simp [h3]; split <;> (try split) <;> first | rfl | (rw [h3] at this; exact this.symm)
  · simp [h3]
theorem b6x (a b : Csn) : Ctr prog 51 [.d (B5 a), .d (B5 b)] (.d (.int .i64 (W6 a b))) := by
  refine fv (fun _ => false) func51 (by kernel_rfl) rfl rfl rfl rfl rfl ?_; have hor := c4D a b; have hz := a3c (a := a) (b := b); obtain ⟨a1, a2, a3⟩ := a; obtain ⟨b1, b2, b3⟩ := b; have c1 := a8l a1 b1; have c2 := a8l a2 b2; have c3 := a8l a3 b3; have c4 := a6a [a0u a1 b1, a0u a2 b2, a0u a3 b3] (by simp); simp only at hor; rw [hor] at c4; simp only [a2h, List.map_cons, List.map_nil] at c4; by_cases h : ((a1, a2, a3) : Csn) = (b1, b2, b3)
  · have h0 := hz.2 h; rw [h0]; simp only [Prod.mk.injEq] at h; simp -implicitDefEqProofs [B5, O6, h]; try decide
  · generalize W6 (a1, a2, a3) (b1, b2, b3) = R at *; have hne : (decide (a1 = b1) && (decide (a2 = b2) && decide (a3 = b3))) = false := by
      simp only [Prod.mk.injEq] at h; simp only [Bool.and_eq_false_iff, decide_eq_false_iff_not]; omega
    simp -implicitDefEqProofs [B5, O6, hne]; refine D8 c1 ?_; simp -implicitDefEqProofs; refine D8 c2 ?_; simp -implicitDefEqProofs; refine D8 c3 ?_; simp -implicitDefEqProofs; refine ⟨by decide, D8 c4 ?_⟩; simp -implicitDefEqProofs
theorem b2G : ∀ (k n : Nat), a0f n (k + 1) = b1n (n / 16 ^ k % 16) :: a0f n k
  | 0, n => by simp [a0f]
  | k + 1, n => by
    rw [a0f, b2G k (n / 16), a0f]; simp [Nat.div_div_eq_div_mul, Nat.pow_succ, Nat.mul_comm]
def a0W (n w k : Nat) : List D := List.replicate (w - k) (.int .u8 0) ++ D2 (a0f n k)
theorem b6N {n w k : Nat} (h : k < w) : (a0W n w k).set (w - 1 - k) (.int .u8 (b1n (n / 16 ^ k % 16)).toNat) = a0W n w (k + 1) := by
  unfold a0W; obtain ⟨m, hm⟩ : ∃ m, w - k = m + 1 := ⟨w - k - 1, by omega⟩; have e1 : w - 1 - k = m := (by omega); have e2 : w - (k + 1) = m := (by omega); rw [hm, e1, e2, b2G, List.replicate_succ', List.append_assoc]; rw [List.set_append_right _ _ (by simp)]; simp [D2]
theorem b7n {n w k : Nat} (h : k ≤ w) : (a0W n w k).length = w := by
  simp [a0W, D2, a4f]; omega
theorem b6Z {n w k : Nat} (h : k < w) : (a0W n w k)[w - 1 - k]? = some (.int .u8 0) := by
  unfold a0W; rw [List.getElem?_append_left (by simp; omega), List.getElem?_replicate, if_pos (by omega)]
theorem c6b (x : Nat) : L9[x % 16]? = some (b1n (x % 16)) := by
  have hlt : x % 16 < 16 := Nat.mod_lt _ (by decide); unfold b1n; rw [List.getD_eq_getElem?_getD, List.getElem?_eq_getElem (by simpa using hlt)]; rfl
theorem b4q (n w : Nat) (hw : w ≤ 15) (hn : n < 4611686018427387904) : Ctr prog 80 [.d (.int .i64 n), .d (.int .i64 w)] (.d (.str (a0f n w))) := by
  refine fv (fun i => i == 8 || i == 5) func80 (by kernel_rfl) rfl rfl rfl rfl rfl ?_; simp -implicitDefEqProofs; (repeat refine ai (by omega) ?_); refine H3 w (fun k τ => τ 0 = .d (.int .i64 n) ∧ τ 1 = .d (.int .i64 w) ∧ τ 10 = .d (.int .i64 w) ∧ τ 11 = .d (.int .i64 k) ∧ τ 5 = .own true 5 (a0W n w k)) ⟨by simp, by simp, by simp, by simp, by simp [a0W, a0f, D2]⟩ ?_; rintro k τ hk ⟨h0, h1, h10, h11, h5⟩; have hlen := b7n (n := n) hk; by_cases hlt : k < w
  · have hlt' : (k : Int) < w := (by omega); have hset := b6N (n := n) hlt; have hg0 := b6Z (n := n) hlt; have hsh : (n : Int) / 2 ^ (4 * (k : Int)).toNat = ((n / 16 ^ k : Nat) : Int) := by
      rw [show (4 * (k : Int)).toNat = 4 * k by omega, Nat.pow_mul 2 4 k |> fun e => show (2 : Int) ^ (4 * k) = ((16 ^ k : Nat) : Int) by rw [show (16 : Nat) ^ k = 2 ^ (4 * k) by rw [e]]; simp]; simp
    have hle : n / 16 ^ k ≤ n := Nat.div_le_self _ _; have hand : (n / 16 ^ k) &&& 15 = n / 16 ^ k % 16 := Nat.and_two_pow_sub_one_eq_mod _ 4; have hget := c6b (n / 16 ^ k); have hix : ((w : Int) - 1 - k).toNat = w - 1 - k := (by omega); generalize n / 16 ^ k = X at *; simp only [L9] at hget; have hmod : ((X : Int) % 16).toNat = X % 16 := (by omega); simp -implicitDefEqProofs [h0, h1, h10, h11, h5, hlt, hlt', hsh, hand, hmod, hget]; (repeat refine ai (by omega) ?_); simp -implicitDefEqProofs [h0, h1, h10, h11, h5, hlt, hlt', hlen, hix, hset, hmod, hget, hg0]; (repeat refine ai (by omega) ?_); exact E5 hlt ⟨by simp [h0], by simp [h1], by simp [h10], by simp, by simp [hset]⟩
  · have hlt' : ¬ (k : Int) < w := (by omega); obtain rfl : k = w := by omega
    have hrow : a0W n k k = D2 (a0f n k) := (by simp [a0W]); rw [hrow] at h5; simp -implicitDefEqProofs [h0, h1, h10, h11, h5]
theorem b9K {n : Int} {a b : Str} (hn : 0 ≤ n) (h : S7 n a < 0) : S7 n (a ++ b) = -1 := by rw [a8e n hn, if_pos h]
def a1M (s : Str) (k : Nat) : Int := S7 0 (s.take k)
theorem b2W {s : Str} {k : Nat} (hk : k < s.length) (h0 : 0 ≤ a1M s k) : a1M s (k + 1) = if ixB L9 s[k] < 0 then -1 else a1M s k * 16 + ixB L9 s[k] := by
  unfold a1M at *; rw [List.take_add_one, List.getElem?_eq_getElem hk, Option.toList_some, a8e 0 (Int.le_refl _), if_neg (by omega)]; simp only [S7]
theorem c2J {s : Str} {k : Nat} (hk : k < s.length) (h0 : 0 ≤ a1M s k) (h : ixB L9 s[k] < 0) : a4q s = -1 := by
  have e : s = s.take (k + 1) ++ s.drop (k + 1) := (List.take_append_drop _ _).symm; have h1 := b2W hk h0; rw [if_pos h] at h1; unfold a1M at h1; unfold a4q; rw [e]; exact b9K (Int.le_refl _) (by omega)
theorem c4v {s : Str} {k : Nat} (hs : s.length ≤ 12) : a1M s k < 281474976710656 := by
  have h1 := b5r (s.take k) 0 (Int.le_refl _); have h2 : (s.take k).length ≤ 12 := by simp; omega
  have h3 : (16 : Int) ^ (s.take k).length ≤ 16 ^ 12 := by
    have : (16 : Nat) ^ (s.take k).length ≤ 16 ^ 12 := Nat.pow_le_pow_right (by decide) h2
    exact_mod_cast this
  have h4 : (16 : Int) ^ 12 = 281474976710656 := (by decide); unfold a1M; omega
theorem d1k {n d : Nat} (hd : d < 16) : n * 16 ||| d = n * 16 + d := by
  have := Nat.two_pow_add_eq_or_of_lt (i := 4) (b := d) (by simpa using hd) n; have e : (2 : Nat) ^ 4 * n = n * 16 := (by omega); rw [e] at this; exact this.symm
theorem a6N (s : Str) (hs : s.length ≤ 12) : Ctr prog 103 [.d (.str s)] (.d (.int .i64 (a4q s))) := by
  refine fv (fun _ => false) func103 (by kernel_rfl) rfl rfl rfl rfl rfl ?_; obtain ⟨R, hR⟩ : ∃ R, a4q s = R := ⟨_, rfl⟩; rw [hR]; simp -implicitDefEqProofs; (repeat refine ai (by omega) ?_); refine H3 s.length (fun k τ => τ 0 = .d (.str s) ∧ τ 7 = .d (.int .i64 s.length) ∧ τ 8 = .d (.int .i64 k) ∧ τ 3 = .d (.int .i64 (a1M s k)) ∧ 0 ≤ a1M s k) ⟨by simp, by simp, by simp, by simp [a1M, S7], by simp [a1M, S7]⟩ ?_; rintro k τ hk ⟨h0, h7, h8, h3, hI⟩; by_cases hlt : k < s.length
  · have hlt' : (k : Int) < s.length := (by omega); have hb := c2J hlt hI; have hs1 := b2W hlt hI; have hlt9 := c4v (k := k) hs; have c1 := a7Q L9 s[k]; have hix : ¬ ixB L9 s[k] < 0 → (ixB L9 s[k]).toNat < 16 := fun h => (b1z h).2
    generalize hN : a1M s k = N at *; generalize hc : s[k] = c at *; generalize hX : ixB L9 c = X at *; simp only [L9] at c1; by_cases hn : X < 0
    · rw [hb hn] at hR; subst hR; simp -implicitDefEqProofs [h0, h7, h8, h3, hlt, hlt', hc]; (repeat refine ai (by omega) ?_); refine A1 c1 ?_; simp -implicitDefEqProofs [hn]
    · have hx16 := hix hn; rw [if_neg hn] at hs1; have hor : ((N * 16).toNat ||| X.toNat) = (N * 16 + X).toNat := by
        have := d1k (n := N.toNat) hx16; rw [show (N * 16).toNat = N.toNat * 16 by omega, this]; omega
      have hor' : (((N * 16 + X).toNat : Nat) : Int) = N * 16 + X := (by omega); simp -implicitDefEqProofs [h0, h7, h8, h3, hlt, hlt', hc]; (repeat refine ai (by omega) ?_); refine A1 c1 ?_; simp -implicitDefEqProofs [hn, h0, h7, h8, h3]; (repeat refine ai (by omega) ?_); refine E5 hlt ⟨by simp [h0], by simp [h7], by simp, ?_, ?_⟩
      · simp [hs1, hor, hor']; try omega
      · omega
  · have hlt' : ¬ (k : Int) < s.length := (by omega); have he : a1M s k = R := by
      rw [← hR]; unfold a1M a4q; rw [ttl (by omega)]
    rw [he] at h3; simp -implicitDefEqProofs [h0, h7, h8, h3, hlt, hlt']
end Go.Proofs.Tz