/-
  What the functions that the statements about merged states reach compute, part 1 of 6, for data of bounded size (each theorem states its bound).
-/import Derived.Test.YtnknfnfinhagoaaGreatDoorWc
import Derived.Test.YtnknfnfinhagoaaGreatDoorProg
import Derived.KernelRfl
import Derived.WalkKit
import Derived.Lib.Builder
import Derived.Lib.UnsafeStr
import Derived.Laws.Externs
import Derived.RegionTactic
import Derived.Lib.Bytealg
import Derived.Lib.Join
open List
open Go.Proofs.Tryz
set_option linter.unusedSimpArgs false
set_option linter.unusedVariables false
namespace Go.Proofs
open Go.Vw
@[simp] theorem Tryz.ez_1 : esz prog 1 = some (1, 8) /\ E5 prog 1 = some 1 /\ tyk prog 1 = some (false, 1) /\ E3 prog 1 = some (.raw .nilFunc) := by and_intros <;> kernel_rfl
@[simp] theorem Tryz.u_2 : Program.underlying prog 2 = some (.int .i64) /\ I1 prog 2 = none /\ esz prog 2 = some (1, 8) /\ E5 prog 2 = some 1 /\ tyk prog 2 = some (false, 1) /\ E3 prog 2 = some (.int .i64 0) := by and_intros <;> kernel_rfl
@[simp] theorem Tryz.u_3 : Program.underlying prog 3 = some (.int .i64) /\ I1 prog 3 = none /\ esz prog 3 = some (1, 8) /\ E5 prog 3 = some 1 /\ tyk prog 3 = some (false, 1) /\ E3 prog 3 = some (.int .i64 0) := by and_intros <;> kernel_rfl
@[simp] theorem Tryz.u_4 : Program.underlying prog 4 = some .bool /\ I1 prog 4 = none /\ esz prog 4 = some (1, 1) /\ E5 prog 4 = some 1 /\ tyk prog 4 = some (false, 1) := by and_intros <;> kernel_rfl
@[simp] theorem Tryz.zd_4 : E3 prog 4 = some (.bool false) := by kernel_rfl
@[simp] theorem Tryz.u_5 : Program.underlying prog 5 = some (.int .u8) /\ I1 prog 5 = none /\ esz prog 5 = some (1, 1) /\ E5 prog 5 = some 1 /\ tyk prog 5 = some (false, 1) /\ E3 prog 5 = some (.int .u8 0) := by and_intros <;> kernel_rfl
@[simp] theorem Tryz.u_9 : Program.underlying prog 9 = some .string /\ I1 prog 9 = none /\ esz prog 9 = some (1, 16) := by and_intros <;> kernel_rfl
@[simp] theorem Tryz.sz_9 : E5 prog 9 = some 1 := by kernel_rfl
@[simp] theorem Tryz.tk_9 : tyk prog 9 = some (false, 1) := by kernel_rfl
@[simp] theorem Tryz.zd_9 : E3 prog 9 = some (.str []) := by kernel_rfl
@[simp] theorem Tryz.u_12 : Program.underlying prog 12 = some (.int .u64) /\ I1 prog 12 = none /\ esz prog 12 = some (1, 8) /\ E5 prog 12 = some 1 /\ tyk prog 12 = some (false, 1) /\ E3 prog 12 = some (.int .u64 0) := by and_intros <;> kernel_rfl
@[simp] theorem Tryz.ez_13 : esz prog 13 = some (2, 24) /\ E5 prog 13 = some 2 /\ tyk prog 13 = some (true, 2) /\ E3 prog 13 = some (.agg [.str [], .int .u64 0]) /\ Q7 prog 13 = some [.str [], .int .u64 0] := by and_intros <;> kernel_rfl
@[simp] theorem Tryz.fo_13_0 : E0 prog 13 0 = some 0 := by kernel_rfl
@[simp] theorem Tryz.fo_13_1 : E0 prog 13 1 = some 1 := by kernel_rfl
@[simp] theorem Tryz.u_21 : Program.underlying prog 21 = some (.int .i32) /\ I1 prog 21 = none /\ esz prog 21 = some (1, 4) /\ E5 prog 21 = some 1 /\ tyk prog 21 = some (false, 1) /\ E3 prog 21 = some (.int .i32 0) := by and_intros <;> kernel_rfl
@[simp] theorem Tryz.u_22 : Program.underlying prog 22 = some (.slice 35) /\ I1 prog 22 = some 35 /\ esz prog 22 = some (1, 24) /\ E5 prog 22 = some 1 /\ tyk prog 22 = some (false, 1) /\ E3 prog 22 = some (.sl []) := by and_intros <;> kernel_rfl
@[simp] theorem Tryz.u_25 : Program.underlying prog 25 = some (.pointer 65) /\ esz prog 25 = some (1, 8) /\ E5 prog 25 = some 1 /\ tyk prog 25 = some (false, 1) /\ E3 prog 25 = some (.nilp) := by and_intros <;> kernel_rfl
@[simp] theorem Tryz.u_27 : Program.underlying prog 27 = some (.pointer 74) /\ esz prog 27 = some (1, 8) /\ E5 prog 27 = some 1 /\ tyk prog 27 = some (false, 1) /\ E3 prog 27 = some (.nilp) := by and_intros <;> kernel_rfl
@[simp] theorem Tryz.u_29 : Program.underlying prog 29 = some (.int .i64) /\ I1 prog 29 = none /\ esz prog 29 = some (1, 8) /\ E5 prog 29 = some 1 /\ tyk prog 29 = some (false, 1) /\ E3 prog 29 = some (.int .i64 0) := by and_intros <;> kernel_rfl
@[simp] theorem Tryz.ez_32 : esz prog 32 = some (3, 24) /\ E5 prog 32 = some 3 /\ tyk prog 32 = some (true, 3) /\ E3 prog 32 = some (.agg [.int .i64 0, .int .i64 0, .int .i64 0]) /\ Q7 prog 32 = some [.int .i64 0, .int .i64 0, .int .i64 0] := by and_intros <;> kernel_rfl
@[simp] theorem Tryz.fo_32_0 : E0 prog 32 0 = some 0 := by kernel_rfl
@[simp] theorem Tryz.fo_32_1 : E0 prog 32 1 = some 1 := by kernel_rfl
@[simp] theorem Tryz.fo_32_2 : E0 prog 32 2 = some 2 := by kernel_rfl
@[simp] theorem Tryz.u_33 : Program.underlying prog 33 = some (.int .i64) /\ I1 prog 33 = none /\ esz prog 33 = some (1, 8) /\ E5 prog 33 = some 1 /\ tyk prog 33 = some (false, 1) /\ E3 prog 33 = some (.int .i64 0) := by and_intros <;> kernel_rfl
@[simp] theorem Tryz.ez_34 : esz prog 34 = some (8, 96) /\ E5 prog 34 = some 8 /\ tyk prog 34 = some (true, 8) /\ E3 prog 34 = some (.agg [.agg [.int .i64 0, .int .i64 0, .int .i64 0], .int .i64 0, .str [], .str [], .str [], .str []]) /\ Q7 prog 34 = some [.agg [.int .i64 0, .int .i64 0, .int .i64 0], .int .i64 0, .str [], .str [], .str [], .str []] := by and_intros <;> kernel_rfl
@[simp] theorem Tryz.fo_34_0 : E0 prog 34 0 = some 0 := by kernel_rfl
@[simp] theorem Tryz.fo_34_1 : E0 prog 34 1 = some 3 := by kernel_rfl
@[simp] theorem Tryz.fo_34_2 : E0 prog 34 2 = some 4 := by kernel_rfl
@[simp] theorem Tryz.fo_34_3 : E0 prog 34 3 = some 5 := by kernel_rfl
@[simp] theorem Tryz.fo_34_4 : E0 prog 34 4 = some 6 := by kernel_rfl
@[simp] theorem Tryz.fo_34_5 : E0 prog 34 5 = some 7 := by kernel_rfl
@[simp] theorem Tryz.ez_35 : esz prog 35 = some (8, 96) /\ E5 prog 35 = some 8 /\ tyk prog 35 = some (true, 8) := by and_intros <;> kernel_rfl
@[simp] theorem Tryz.zd_35 : E3 prog 35 = some (.agg [.agg [.int .i64 0, .int .i64 0, .int .i64 0], .int .i64 0, .str [], .str [], .str [], .str []]) := by kernel_rfl
@[simp] theorem Tryz.sd_35 : Q7 prog 35 = some [.agg [.int .i64 0, .int .i64 0, .int .i64 0], .int .i64 0, .str [], .str [], .str [], .str []] := by kernel_rfl
@[simp] theorem Tryz.fo_35_0 : E0 prog 35 0 = some 0 := by kernel_rfl
@[simp] theorem Tryz.fo_35_1 : E0 prog 35 1 = some 3 := by kernel_rfl
@[simp] theorem Tryz.fo_35_2 : E0 prog 35 2 = some 4 := by kernel_rfl
@[simp] theorem Tryz.fo_35_3 : E0 prog 35 3 = some 5 := by kernel_rfl
@[simp] theorem Tryz.fo_35_4 : E0 prog 35 4 = some 6 := by kernel_rfl
@[simp] theorem Tryz.fo_35_5 : E0 prog 35 5 = some 7 := by kernel_rfl
@[simp] theorem Tryz.ez_37 : esz prog 37 = some (1, 8) /\ E5 prog 37 = some 1 /\ tyk prog 37 = some (false, 1) /\ E3 prog 37 = some (.raw .nilFunc) := by and_intros <;> kernel_rfl
@[simp] theorem Tryz.u_43 : Program.underlying prog 43 = some (.slice 9) /\ I1 prog 43 = some 9 /\ esz prog 43 = some (1, 24) /\ E5 prog 43 = some 1 /\ tyk prog 43 = some (false, 1) /\ E3 prog 43 = some (.sl []) := by and_intros <;> kernel_rfl
@[simp] theorem Tryz.ez_44 : esz prog 44 = some (1, 8) /\ E5 prog 44 = some 1 /\ tyk prog 44 = some (false, 1) /\ E3 prog 44 = some (.raw .nilFunc) := by and_intros <;> kernel_rfl
@[simp] theorem Tryz.ez_45 : esz prog 45 = some (1, 8) /\ E5 prog 45 = some 1 /\ tyk prog 45 = some (false, 1) /\ E3 prog 45 = some (.raw .nilFunc) := by and_intros <;> kernel_rfl
@[simp] theorem Tryz.u_46 : Program.underlying prog 46 = some (.slice 72) /\ I1 prog 46 = some 72 /\ esz prog 46 = some (1, 24) /\ E5 prog 46 = some 1 /\ tyk prog 46 = some (false, 1) /\ E3 prog 46 = some (.sl []) := by and_intros <;> kernel_rfl
@[simp] theorem Tryz.ez_48 : esz prog 48 = some (2, 40) /\ E5 prog 48 = some 2 /\ tyk prog 48 = some (true, 2) /\ E3 prog 48 = some (.agg [.str [], .sl []]) /\ Q7 prog 48 = some [.str [], .sl []] := by and_intros <;> kernel_rfl
@[simp] theorem Tryz.fo_48_0 : E0 prog 48 0 = some 0 := by kernel_rfl
@[simp] theorem Tryz.fo_48_1 : E0 prog 48 1 = some 1 := by kernel_rfl
@[simp] theorem Tryz.ez_50 : esz prog 50 = some (1, 8) /\ E5 prog 50 = some 1 /\ tyk prog 50 = some (false, 1) /\ E3 prog 50 = some (.raw .nilFunc) := by and_intros <;> kernel_rfl
@[simp] theorem Tryz.u_56 : Program.underlying prog 56 = some (.slice 48) /\ I1 prog 56 = some 48 /\ esz prog 56 = some (1, 24) /\ E5 prog 56 = some 1 /\ tyk prog 56 = some (false, 1) /\ E3 prog 56 = some (.sl []) := by and_intros <;> kernel_rfl
@[simp] theorem Tryz.ez_57 : esz prog 57 = some (1, 8) /\ E5 prog 57 = some 1 /\ tyk prog 57 = some (false, 1) /\ E3 prog 57 = some (.raw .nilFunc) := by and_intros <;> kernel_rfl
@[simp] theorem Tryz.ez_59 : esz prog 59 = some (1, 8) /\ E5 prog 59 = some 1 /\ tyk prog 59 = some (false, 1) /\ E3 prog 59 = some (.raw .nilFunc) := by and_intros <;> kernel_rfl
@[simp] theorem Tryz.ez_61 : esz prog 61 = some (1, 8) /\ E5 prog 61 = some 1 /\ tyk prog 61 = some (false, 1) /\ E3 prog 61 = some (.raw .nilFunc) := by and_intros <;> kernel_rfl
@[simp] theorem Tryz.ez_62 : esz prog 62 = some (1, 8) /\ E5 prog 62 = some 1 /\ tyk prog 62 = some (false, 1) /\ E3 prog 62 = some (.raw (.map none)) := by and_intros <;> kernel_rfl
@[simp] theorem Tryz.ez_63 : esz prog 63 = some (1, 8) /\ E5 prog 63 = some 1 /\ tyk prog 63 = some (false, 1) /\ E3 prog 63 = some (.raw (.map none)) := by and_intros <;> kernel_rfl
@[simp] theorem Tryz.ez_64 : esz prog 64 = some (2, 16) /\ E5 prog 64 = some 2 /\ tyk prog 64 = some (true, 2) /\ E3 prog 64 = some (.agg [.raw (.map none), .raw (.map none)]) /\ Q7 prog 64 = some [.raw (.map none), .raw (.map none)] := by and_intros <;> kernel_rfl
@[simp] theorem Tryz.fo_64_0 : E0 prog 64 0 = some 0 := by kernel_rfl
@[simp] theorem Tryz.fo_64_1 : E0 prog 64 1 = some 1 := by kernel_rfl
@[simp] theorem Tryz.ez_65 : esz prog 65 = some (2, 16) /\ E5 prog 65 = some 2 /\ tyk prog 65 = some (true, 2) /\ E3 prog 65 = some (.agg [.raw (.map none), .raw (.map none)]) /\ Q7 prog 65 = some [.raw (.map none), .raw (.map none)] := by and_intros <;> kernel_rfl
@[simp] theorem Tryz.fo_65_0 : E0 prog 65 0 = some 0 := by kernel_rfl
@[simp] theorem Tryz.fo_65_1 : E0 prog 65 1 = some 1 := by kernel_rfl
@[simp] theorem Tryz.u_66 : Program.underlying prog 66 = some (.slice 5) /\ I1 prog 66 = some 5 /\ esz prog 66 = some (1, 24) /\ E5 prog 66 = some 1 /\ tyk prog 66 = some (false, 1) /\ E3 prog 66 = some (.sl []) := by and_intros <;> kernel_rfl
@[simp] theorem Tryz.ez_72 : esz prog 72 = some (2, 40) := by kernel_rfl
@[simp] theorem Tryz.sz_72 : E5 prog 72 = some 2 := by kernel_rfl
@[simp] theorem Tryz.tk_72 : tyk prog 72 = some (true, 2) /\ E3 prog 72 = some (.agg [.str [], .sl []]) /\ Q7 prog 72 = some [.str [], .sl []] := by and_intros <;> kernel_rfl
@[simp] theorem Tryz.fo_72_0 : E0 prog 72 0 = some 0 := by kernel_rfl
@[simp] theorem Tryz.fo_72_1 : E0 prog 72 1 = some 1 := by kernel_rfl
@[simp] theorem Tryz.ez_74 : esz prog 74 = some (2, 32) /\ E5 prog 74 = some 2 /\ tyk prog 74 = some (true, 2) /\ E3 prog 74 = some (.agg [.sl [], .bool false]) /\ Q7 prog 74 = some [.sl [], .bool false] := by and_intros <;> kernel_rfl
@[simp] theorem Tryz.fo_74_0 : E0 prog 74 0 = some 0 := by kernel_rfl
@[simp] theorem Tryz.fo_74_1 : E0 prog 74 1 = some 1 := by kernel_rfl
@[simp] theorem Tryz.u_75 : Program.underlying prog 75 = some (.pointer 78) /\ esz prog 75 = some (1, 8) /\ E5 prog 75 = some 1 /\ tyk prog 75 = some (false, 1) := by and_intros <;> kernel_rfl
@[simp] theorem Tryz.zd_75 : E3 prog 75 = some (.nilp) := by kernel_rfl
@[simp] theorem Tryz.ez_76 : esz prog 76 = some (1, 8) /\ E5 prog 76 = some 1 /\ tyk prog 76 = some (false, 1) /\ E3 prog 76 = some (.raw (.map none)) := by and_intros <;> kernel_rfl
@[simp] theorem Tryz.ez_78 : esz prog 78 = some (11, 112) /\ E5 prog 78 = some 11 /\ tyk prog 78 = some (true, 11) /\ E3 prog 78 = some (.agg [.bool false, .bool false, .agg [.agg [.int .i64 0, .int .i64 0, .int .i64 0], .int .i64 0, .str [], .str [], .str [], .str []], .raw (.map none)]) /\ Q7 prog 78 = some [.bool false, .bool false, .agg [.agg [.int .i64 0, .int .i64 0, .int .i64 0], .int .i64 0, .str [], .str [], .str [], .str []], .raw (.map none)] := by and_intros <;> kernel_rfl
@[simp] theorem Tryz.fo_78_0 : E0 prog 78 0 = some 0 := by kernel_rfl
@[simp] theorem Tryz.fo_78_1 : E0 prog 78 1 = some 1 := by kernel_rfl
@[simp] theorem Tryz.fo_78_2 : E0 prog 78 2 = some 2 := by kernel_rfl
@[simp] theorem Tryz.fo_78_3 : E0 prog 78 3 = some 10 := by kernel_rfl
@[simp] theorem Tryz.ez_80 : esz prog 80 = some (1, 8) /\ E5 prog 80 = some 1 /\ tyk prog 80 = some (false, 1) /\ E3 prog 80 = some (.raw (.map none)) := by and_intros <;> kernel_rfl
@[simp] theorem Tryz.ez_89 : esz prog 89 = some (1, 8) /\ E5 prog 89 = some 1 /\ tyk prog 89 = some (false, 1) /\ E3 prog 89 = some (.raw .nilFunc) := by and_intros <;> kernel_rfl
@[simp] theorem Tryz.ez_90 : esz prog 90 = some (1, 8) /\ E5 prog 90 = some 1 /\ tyk prog 90 = some (false, 1) /\ E3 prog 90 = some (.raw .nilFunc) := by and_intros <;> kernel_rfl
@[simp] theorem Tryz.ez_92 : esz prog 92 = some (1, 8) /\ E5 prog 92 = some 1 /\ tyk prog 92 = some (false, 1) /\ E3 prog 92 = some (.raw .nilFunc) := by and_intros <;> kernel_rfl
@[simp] theorem Tryz.ez_95 : esz prog 95 = some (1, 8) /\ E5 prog 95 = some 1 /\ tyk prog 95 = some (false, 1) /\ E3 prog 95 = some (.raw (.map none)) := by and_intros <;> kernel_rfl
@[simp] theorem Tryz.ez_97 : esz prog 97 = some (1, 8) /\ E5 prog 97 = some 1 /\ tyk prog 97 = some (false, 1) /\ E3 prog 97 = some (.raw .nilFunc) := by and_intros <;> kernel_rfl
@[simp] theorem Tryz.ez_100 : esz prog 100 = some (2, 32) /\ E5 prog 100 = some 2 /\ tyk prog 100 = some (true, 2) /\ E3 prog 100 = some (.agg [.str [], .str []]) /\ Q7 prog 100 = some [.str [], .str []] := by and_intros <;> kernel_rfl
@[simp] theorem Tryz.fo_100_0 : E0 prog 100 0 = some 0 := by kernel_rfl
@[simp] theorem Tryz.fo_100_1 : E0 prog 100 1 = some 1 := by kernel_rfl
@[simp] theorem Tryz.ez_101 : esz prog 101 = some (2, 32) /\ E5 prog 101 = some 2 /\ tyk prog 101 = some (true, 2) /\ E3 prog 101 = some (.agg [.str [], .str []]) /\ Q7 prog 101 = some [.str [], .str []] := by and_intros <;> kernel_rfl
@[simp] theorem Tryz.fo_101_0 : E0 prog 101 0 = some 0 := by kernel_rfl
@[simp] theorem Tryz.fo_101_1 : E0 prog 101 1 = some 1 := by kernel_rfl
@[simp] theorem Tryz.ez_106 : esz prog 106 = some (1, 8) /\ E5 prog 106 = some 1 /\ tyk prog 106 = some (false, 1) /\ E3 prog 106 = some (.raw .nilFunc) := by and_intros <;> kernel_rfl
@[simp] theorem Tryz.u_117 : Program.underlying prog 117 = some (.slice 121) /\ I1 prog 117 = some 121 /\ esz prog 117 = some (1, 24) /\ E5 prog 117 = some 1 /\ tyk prog 117 = some (false, 1) /\ E3 prog 117 = some (.sl []) := by and_intros <;> kernel_rfl
@[simp] theorem Tryz.ez_121 : esz prog 121 = some (2, 32) /\ E5 prog 121 = some 2 /\ tyk prog 121 = some (true, 2) /\ E3 prog 121 = some (.agg [.str [], .str []]) /\ Q7 prog 121 = some [.str [], .str []] := by and_intros <;> kernel_rfl
@[simp] theorem Tryz.fo_121_0 : E0 prog 121 0 = some 0 := by kernel_rfl
@[simp] theorem Tryz.fo_121_1 : E0 prog 121 1 = some 1 := by kernel_rfl
@[simp] theorem Tryz.ez_122 : esz prog 122 = some (1, 8) /\ E5 prog 122 = some 1 /\ tyk prog 122 = some (false, 1) /\ E3 prog 122 = some (.raw .nilFunc) := by and_intros <;> kernel_rfl
@[simp] theorem Tryz.ez_124 : esz prog 124 = some (1, 8) /\ E5 prog 124 = some 1 /\ tyk prog 124 = some (false, 1) /\ E3 prog 124 = some (.raw .nilFunc) := by and_intros <;> kernel_rfl
@[simp] theorem Tryz.ez_128 : esz prog 128 = some (1, 8) /\ E5 prog 128 = some 1 /\ tyk prog 128 = some (false, 1) /\ E3 prog 128 = some (.raw .nilFunc) := by and_intros <;> kernel_rfl
@[simp] theorem Tryz.ez_129 : esz prog 129 = some (1, 8) /\ E5 prog 129 = some 1 /\ tyk prog 129 = some (false, 1) /\ E3 prog 129 = some (.raw .nilFunc) := by and_intros <;> kernel_rfl
@[simp] theorem Tryz.u_132 : Program.underlying prog 132 = some (.int .u64) /\ I1 prog 132 = none /\ esz prog 132 = some (1, 8) /\ E5 prog 132 = some 1 /\ tyk prog 132 = some (false, 1) /\ E3 prog 132 = some (.int .u64 0) := by and_intros <;> kernel_rfl
@[simp] theorem Tryz.ez_135 : esz prog 135 = some (1, 8) /\ E5 prog 135 = some 1 /\ tyk prog 135 = some (false, 1) /\ E3 prog 135 = some (.raw .nilFunc) := by and_intros <;> kernel_rfl
@[simp] theorem Tryz.ez_136 : esz prog 136 = some (1, 8) /\ E5 prog 136 = some 1 /\ tyk prog 136 = some (false, 1) /\ E3 prog 136 = some (.raw .nilFunc) := by and_intros <;> kernel_rfl
@[simp] theorem Tryz.ez_149 : esz prog 149 = some (1, 8) /\ E5 prog 149 = some 1 /\ tyk prog 149 = some (false, 1) /\ E3 prog 149 = some (.raw .nilFunc) := by and_intros <;> kernel_rfl
@[simp] theorem Tryz.ez_153 : esz prog 153 = some (1, 8) /\ E5 prog 153 = some 1 /\ tyk prog 153 = some (false, 1) /\ E3 prog 153 = some (.raw .nilFunc) := by and_intros <;> kernel_rfl
@[simp] theorem Tryz.u_154 : Program.underlying prog 154 = some (.slice 3) /\ I1 prog 154 = some 3 /\ esz prog 154 = some (1, 24) /\ E5 prog 154 = some 1 /\ tyk prog 154 = some (false, 1) /\ E3 prog 154 = some (.sl []) := by and_intros <;> kernel_rfl
@[simp] theorem Tryz.u_166 : Program.underlying prog 166 = some (.int .u32) /\ I1 prog 166 = none /\ esz prog 166 = some (1, 4) /\ E5 prog 166 = some 1 /\ tyk prog 166 = some (false, 1) /\ E3 prog 166 = some (.int .u32 0) := by and_intros <;> kernel_rfl
@[simp] theorem Tryz.u_168 : Program.underlying prog 168 = some (.int .u64) /\ I1 prog 168 = none /\ esz prog 168 = some (1, 8) /\ E5 prog 168 = some 1 /\ tyk prog 168 = some (false, 1) /\ E3 prog 168 = some (.int .u64 0) := by and_intros <;> kernel_rfl
@[simp] theorem Tryz.ez_171 : esz prog 171 = some (1, 8) /\ E5 prog 171 = some 1 /\ tyk prog 171 = some (false, 1) /\ E3 prog 171 = some (.raw .nilFunc) := by and_intros <;> kernel_rfl
@[simp] theorem Tryz.u_173 : Program.underlying prog 173 = some (.pointer 175) /\ esz prog 173 = some (1, 8) /\ E5 prog 173 = some 1 /\ tyk prog 173 = some (false, 1) /\ E3 prog 173 = some (.nilp) := by and_intros <;> kernel_rfl
@[simp] theorem Tryz.ez_175 : esz prog 175 = some (2, 32) /\ E5 prog 175 = some 2 /\ tyk prog 175 = some (true, 2) /\ E3 prog 175 = some (.agg [.nilp, .sl []]) /\ Q7 prog 175 = some [.nilp, .sl []] := by and_intros <;> kernel_rfl
@[simp] theorem Tryz.fo_175_0 : E0 prog 175 0 = some 0 := by kernel_rfl
@[simp] theorem Tryz.fo_175_1 : E0 prog 175 1 = some 1 := by kernel_rfl
@[simp] theorem Tryz.u_201 : Program.underlying prog 201 = some (.pointer 3) /\ esz prog 201 = some (1, 8) /\ E5 prog 201 = some 1 /\ tyk prog 201 = some (false, 1) /\ E3 prog 201 = some (.nilp) := by and_intros <;> kernel_rfl
@[simp] theorem Tryz.u_205 : Program.underlying prog 205 = some (.pointer 5) /\ esz prog 205 = some (1, 8) /\ E5 prog 205 = some 1 /\ tyk prog 205 = some (false, 1) /\ E3 prog 205 = some (.nilp) := by and_intros <;> kernel_rfl
@[simp] theorem Tryz.eqs_32 : a1A prog 32 = true := by kernel_rfl
@[simp] theorem Tryz.kf_32 (a0 : Int) (a1 : Int) (a2 : Int) : U1 prog (Program.fieldsOf prog 32).toList 0 [.int .i64 a0, .int .i64 a1, .int .i64 a2] = true := by kernel_rfl
@[simp] theorem Tryz.lf_32 (a0 b0 : Int) (a1 b1 : Int) (a2 b2 : Int) : P7 prog (Program.fieldsOf prog 32).toList 0 [.int .i64 a0, .int .i64 a1, .int .i64 a2] [.int .i64 b0, .int .i64 b1, .int .i64 b2] = true := by kernel_rfl
@[simp] theorem Tryz.eqs_35 : a1A prog 35 = true := by kernel_rfl
@[simp] theorem Tryz.kf_35 (a0_0 : Int) (a0_1 : Int) (a0_2 : Int) (a1 : Int) (a2 : Str) (a3 : Str) (a4 : Str) (a5 : Str) : U1 prog (Program.fieldsOf prog 35).toList 0 [.agg [.int .i64 a0_0, .int .i64 a0_1, .int .i64 a0_2], .int .i64 a1, .str a2, .str a3, .str a4, .str a5] = true := by kernel_rfl
@[simp] theorem Tryz.lf_35 (a0_0 b0_0 : Int) (a0_1 b0_1 : Int) (a0_2 b0_2 : Int) (a1 b1 : Int) (a2 b2 : Str) (a3 b3 : Str) (a4 b4 : Str) (a5 b5 : Str) : P7 prog (Program.fieldsOf prog 35).toList 0 [.agg [.int .i64 a0_0, .int .i64 a0_1, .int .i64 a0_2], .int .i64 a1, .str a2, .str a3, .str a4, .str a5] [.agg [.int .i64 b0_0, .int .i64 b0_1, .int .i64 b0_2], .int .i64 b1, .str b2, .str b3, .str b4, .str b5] = true := by kernel_rfl
@[simp] theorem Tryz.eqs_101 : a1A prog 101 = true := by kernel_rfl
@[simp] theorem Tryz.kf_101 (a0 : Str) (a1 : Str) : U1 prog (Program.fieldsOf prog 101).toList 0 [.str a0, .str a1] = true := by kernel_rfl
@[simp] theorem Tryz.lf_101 (a0 b0 : Str) (a1 b1 : Str) : P7 prog (Program.fieldsOf prog 101).toList 0 [.str a0, .str a1] [.str b0, .str b1] = true := by kernel_rfl
@[simp] theorem Tryz.eqs_121 : a1A prog 121 = true := by kernel_rfl
@[simp] theorem Tryz.kf_121 (a0 : Str) (a1 : Str) : U1 prog (Program.fieldsOf prog 121).toList 0 [.str a0, .str a1] = true := by kernel_rfl
@[simp] theorem Tryz.lf_121 (a0 b0 : Str) (a1 b1 : Str) : P7 prog (Program.fieldsOf prog 121).toList 0 [.str a0, .str a1] [.str b0, .str b1] = true := by kernel_rfl
end Go.Proofs
namespace Go.Proofs.Tz
open Go.Vw Go.RowKit Go.Proofs
theorem nbl {a b : Nat} (h : Nat.ble a b = true) : a <= b := Nat.le_of_ble_eq_true h
theorem ttl {α : Type} {i : Nat} {l : List α} (h : l.length <= i) : l.take i = l := take_of_length_le h
theorem ai {a b : Prop} (h : a) (k : b) : a /\ b := ⟨h, k⟩
theorem gmm {α : Type} {l : List α} {n : Nat} (h : n < l.length) : l[n] ∈ l := getElem_mem h
theorem fv {f : FuncId} {fn : Func} {c : Code} {args : List AV} {t : Nat} {r : AV} (F : Nat -> Bool) (hf : prog.funcs[f]? = some fn) (hk : (!(fn.name == "runtime.NumGoroutine") && a1D F fn.ntmps c) = true) (hb : fn.body = some c) (hres : fn.results = #[.tmp t]) (ha : Nat.ble args.length fn.ntmps = true) (harg : (args.all b0u) = true) (hone : a4o args = true) (h : vwp prog F c (b1s t r) (a5d args)) : Ctr prog f args r :=
 b9F F (by kernel_rfl) hf (by simpa using (Bool.and_eq_true_iff.1 hk).1) hb hres (Nat.le_of_ble_eq_true ha) (Bool.and_eq_true_iff.1 hk).2 harg hone h
theorem b5b : (prog.info? 175).map (·.size) = some 2 := by kernel_rfl
theorem c3c : liesAt prog prog.depth 175 (2 / prog.cellsOf 175) 0 175 1 = true := by kernel_rfl
set_option maxRecDepth 100000 in
set_option maxHeartbeats 1000000 in
theorem c4u (b : Nat) (w : World) (h0 : w.cell? ⟨b, 0, none⟩ = some (.pointer (some ⟨b, 0, none⟩))) :
   Calls prog 206 #[.pointer (some ⟨b, 0, none⟩)] w fun e w' => e = .returned (.tuple #[]) /\ w' = w := by
 obtain ⟨j, hj, _⟩ := Option.map_eq_some_iff.1 b5b
 go_enter func206, Tryz.ntmps206
 go_wp2
 rw [Lib.run_neq_ptr_same w _ Tryz.underlying173 hj]
 go_wp2
 go_end0
 exact ⟨rfl, rfl⟩
set_option maxRecDepth 100000 in
set_option maxHeartbeats 1000000 in
theorem b4C (b : Nat) (w : World) (h0 : w.cell? ⟨b, 0, none⟩ = some (.pointer none)) (hsh : w.shape? b = some (175, 2)) (hfz : w.frozen? ⟨b, 0, none⟩ = false) :
   Calls prog 206 #[.pointer (some ⟨b, 0, none⟩)] w fun e w' => e = .returned (.tuple #[]) /\ w' = w.setCell ⟨b, 0, none⟩ (.pointer (some ⟨b, 0, none⟩)) := by
 obtain ⟨j, hj, hjs⟩ := Option.map_eq_some_iff.1 b5b
 go_enter func206, Tryz.ntmps206
 go_wp2
 rw [Lib.run_to_unsafe w ⟨b, 0, none⟩ Tryz.underlying173 Tryz.underlying226 hj (by rw [hjs]; decide) hsh (Nat.zero_lt_succ 1)]; simp only [Result.andThen]; rw [Oper.upon_value]
 go_wp2
 rw [run_callFunc_extern func240 (by kernel_rfl) (by kernel_rfl) (by kernel_rfl) (e := Extern.AbiNoEscape.same) (by kernel_rfl)]; rw [Lib.run_noEscape]; simp only [Result.andThen]; rw [Oper.upon_value]
 go_wp2
 rw [Lib.run_from_unsafe w ⟨b, 0, none⟩ Tryz.underlying226 Tryz.underlying173 hj hsh c3c]; simp only [Result.andThen]; rw [Oper.upon_value]
 go_wp2
 go_end0
 exact ⟨rfl, rfl⟩
abbrev va (b : Nat) : Value := .pointer (some ⟨b, 0, none⟩)
theorem a7N {w : World} {L : Nat -> Nat -> Prop} {b : Nat} {p : D} {hd : Value} (hp : p = .nilp \/ p = .raw (va b))
   (h : Y4 w L (some b) 175 (.agg [p, .raw hd]) (va b)) : ∃ pv, w.heap[b]? = some (.cells #[pv, hd] 175 (0, 0)) /\ (∀ o, ¬ L b o) /\ hd.oneCell' = true /\ K7 hd = false /\ ((p = .nilp /\ pv = .pointer none) \/ (p = .raw (va b) /\ pv = va b)) := by
 obtain ⟨g, C, h1, h2, h3, h4, h5⟩ := h; obtain rfl : b = g := by simpa using h1
 simp only [Rep, A8] at h4; obtain ⟨css, ⟨c, cs, rfl, hc, c2, cs2, rfl, ⟨rfl, h7, h8⟩, rfl⟩, h6⟩ := h4; rcases hp with rfl | rfl
 . simp only [Rep] at hc; subst hc; have : C = #[.pointer none, hd] := by apply Array.ext'; simpa using h6
   subst this; exact ⟨_, h3, h5, h7, h8, .inl ⟨rfl, rfl⟩⟩
 . simp only [Rep] at hc; obtain ⟨rfl, _, _⟩ := hc; have : C = #[va b, hd] := by apply Array.ext'; simpa using h6
   subst this; exact ⟨_, h3, h5, h7, h8, .inr ⟨rfl, rfl⟩⟩
theorem a9z {w : World} {L : Nat -> Nat -> Prop} {b : Nat} {hd : Value} (h1 : w.heap[b]? = some (.cells #[va b, hd] 175 (0, 0))) (h2 : ∀ o, ¬ L b o) (h3 : hd.oneCell' = true) (h4 : K7 hd = false) :
   RH prog w L (.hb (va b) 175 (.agg [.raw (va b), .raw hd])) := by
 refine ⟨rfl, b, _, rfl, rfl, h1, ?_, h2⟩; simp only [Rep, A8]; exact ⟨[[va b], [hd]], ⟨_, _, rfl, ⟨rfl, rfl, rfl⟩, _, _, rfl, ⟨rfl, h3, h4⟩, rfl⟩, rfl⟩
theorem a7j {b : Nat} {p : D} (hp : p = .nilp \/ p = .raw (va b)) {hd : Value} :
   G1 prog 206 [.d (.raw (va b))] [.hb (va b) 175 (.agg [p, .raw hd])] (fun r hs' => r = .tup [] /\ hs' = [.hb (va b) 175 (.agg [.raw (va b), .raw hd])]) := by
 refine ⟨enters_of func206 (by kernel_rfl) rfl, fun w L vals hlok hgl hv hh _ => ?_⟩; obtain ⟨v, us, rfl, hv1, hv2⟩ := hv; obtain rfl : us = [] := hv2; obtain rfl : v = va b := RepV.raw_inv hv1; have hb : Y4 w L (some b) 175 (.agg [p, .raw hd]) (va b) := (hh (.hb (va b) 175 (.agg [p, .raw hd])) (by simp)).2; obtain ⟨pv, e1, e2, e3, e4, e5⟩ := a7N hp hb; have hlt : b < w.heap.size := (Array.getElem?_eq_some_iff.1 e1).1; rcases e5 with ⟨rfl, rfl⟩ | ⟨rfl, rfl⟩
 . refine (b4C b w (by rw [Lib.cell_of_heap e1]; rfl) (by simp [World.shape?, e1]) (Lib.frozen_of_heap e1 0)).mono ?_; rintro e w' ⟨rfl, rfl⟩; have hsz : (w.setCell ⟨b, 0, none⟩ (va b)).heap.size = w.heap.size := (by simp [World.setCell]); refine ⟨_, L, none, .tup [], _, rfl, ⟨rfl, rfl, rfl, Nat.le_of_eq hsz.symm, fun k hk hn => Below.heap_setCell w _ _ k (fun e => hn (by simp [C9, e])), Nat.le_refl _⟩, fun g q hq => by rw [hsz]; exact hlok g q hq, fun _ _ _ _ => Iff.rfl, fun g hg => ?_, ?_, ⟨[], rfl, rfl⟩, fun x hx => ?_, rfl, rfl⟩
   . simp [C9] at hg; subst hg; exact ⟨by rw [hsz]; exact hlt, .inr (by simp [C9])⟩
   . simp [J6, C9]
   . simp at hx; subst hx; refine a9z ?_ e2 e3 e4; simp [World.setCell, Array.getElem?_modify, e1]
 . refine (c4u b w (by rw [Lib.cell_of_heap e1]; rfl)).mono ?_; rintro e w' ⟨rfl, rfl⟩; refine ⟨_, L, none, .tup [], _, rfl, F7.refl _ _, hlok, fun _ _ _ _ => Iff.rfl, fun g hg => ?_, ?_, ⟨[], rfl, rfl⟩, fun x hx => ?_, rfl, rfl⟩
   . simp [C9] at hg; subst hg; exact ⟨hlt, .inr (by simp [C9])⟩
   . simp [J6, C9]
   . simp at hx; subst hx; exact a9z e1 e2 e3 e4
theorem a7g : (prog.info? 5).map (·.size) = some 1 := by kernel_rfl
theorem b8f : prog.cellsOf 5 = 1 := by kernel_rfl
theorem a9m {w : World} {L : Nat -> Nat -> Prop} : ∀ {s : Str} {css : List (List Value)}, A8 w L (B5 s) css -> css.flatten = s.map fun c => Value.int .u8 (c.toNat : Int)
 | [], css, h => by simp only [B5, map_nil, A8] at h; subst h; rfl
 | c :: s, css, h => by
   simp only [B5, map_cons, A8, Rep] at h; obtain ⟨c1, cs, rfl, rfl, h2⟩ := h; simp [a9m (s := s) h2]
set_option maxRecDepth 100000 in
set_option maxHeartbeats 1000000 in
theorem c5G {b g cap : Nat} {p : Value} {l : List UInt8} (w : World) (h0 : l ≠ []) (hbk : w.heap[b]? = some (.cells #[p, .slice (some ⟨g, 0, none⟩) l.length cap] 175 (0, 0))) {cur : Array Value} (hg : w.heap[g]? = some (.cells cur 5 (0, 0)))
   (hnc : l.length <= cap) (hcm : cap <= maxLen) (hcs : cap <= cur.size) (htk : ∀ j x, l[j]? = some x -> w.cell? ((⟨g, 0, none⟩ : Addr).add j) = some (.int .u8 x.toNat)) :
   Calls prog 171 #[.pointer (some ⟨b, 0, none⟩)] w fun e w' => e = .returned (.string ⟨l.toArray⟩) /\ w' = w.drew.freeze ⟨g, 0, none⟩ l.length := by
 have hl0 : l.length ≠ 0 := (by simpa using h0); have c1 : w.drew.cell? ⟨b, 1, none⟩ = some (.slice (some ⟨g, 0, none⟩) l.length cap) := by
   have : w.drew.heap[b]? = some (.cells #[p, .slice (some ⟨g, 0, none⟩) l.length cap] 175 (0, 0)) := hbk; rw [Lib.cell_of_heap this]; rfl
 have hSD : (Builtin.unsafeSliceData_ #[66] 205 #[.slice (some ⟨g, 0, none⟩) l.length cap]).run prog w.drew = .ok (.pointer (some ⟨g, 0, none⟩)) w.drew :=
   Lib.run_unsafeSliceData_row _ _ _ _ _ _ (by omega)
 have hUS : (Builtin.unsafeString_ #[205, 3] 9 #[.pointer (some ⟨g, 0, none⟩), .int .i64 l.length]).run prog w.drew = .ok (.string ⟨l.toArray⟩) (w.drew.freeze ⟨g, 0, none⟩ l.length) := by
   refine Lib.run_unsafeString_row w.drew 205 3 9 5 Tryz.underlying205 b8f g cur.size (by have hg' : w.drew.heap[g]? = some (.cells cur 5 (0, 0)) := hg; simp [World.shape?, hg']) l h0 (by omega) (by unfold maxLen at hcm; omega) ?_; exact htk
 go_enter func171, Tryz.ntmps171
 go_wp2
 go_region
 all_goals (go_wp2; go_ret; exact ⟨rfl, rfl⟩)
theorem b1u (W : World) (q : Option Addr) : (Builtin.unsafeString_ #[205, 3] 9 #[.pointer q, .int .i64 0]).run prog W = .ok (.string .empty) W := Lib.run_unsafeString_none W _ _ _ q
set_option maxRecDepth 100000 in
set_option maxHeartbeats 1000000 in
theorem c6x {b : Nat} {p : Value} (w : World) (hbk : w.heap[b]? = some (.cells #[p, .slice none 0 0] 175 (0, 0))) :
   Calls prog 171 #[.pointer (some ⟨b, 0, none⟩)] w fun e w' => e = .returned (.string ⟨#[]⟩) /\ w' = w.drew := by
 have hUS := b1u; have c1 : w.drew.cell? ⟨b, 1, none⟩ = some (.slice none 0 0) := by
   have : w.drew.heap[b]? = some (.cells #[p, .slice none 0 0] 175 (0, 0)) := hbk; rw [Lib.cell_of_heap this]; rfl
 have hSD : (Builtin.unsafeSliceData_ #[66] 205 #[.slice none 0 0]).run prog w.drew = .ok (.pointer none) w.drew := rfl
 go_enter func171, Tryz.ntmps171
 go_wp2
 go_region
 all_goals (go_wp2; go_ret; exact ⟨rfl, rfl⟩)
set_option maxRecDepth 100000 in
set_option maxHeartbeats 1000000 in
theorem c4B {b g cap : Nat} {p : Value} (w : World) (hc0 : cap ≠ 0) (hbk : w.heap[b]? = some (.cells #[p, .slice (some ⟨g, 0, none⟩) 0 cap] 175 (0, 0))) :
   Calls prog 171 #[.pointer (some ⟨b, 0, none⟩)] w fun e w' => e = .returned (.string ⟨#[]⟩) /\ w' = w.drew := by
 have hUS := b1u; have c1 : w.drew.cell? ⟨b, 1, none⟩ = some (.slice (some ⟨g, 0, none⟩) 0 cap) := by
   have : w.drew.heap[b]? = some (.cells #[p, .slice (some ⟨g, 0, none⟩) 0 cap] 175 (0, 0)) := hbk; rw [Lib.cell_of_heap this]; rfl
 have hSD : (Builtin.unsafeSliceData_ #[66] 205 #[.slice (some ⟨g, 0, none⟩) 0 cap]).run prog w.drew = .ok (.pointer (some ⟨g, 0, none⟩)) w.drew :=
   Lib.run_unsafeSliceData_row _ _ _ _ _ _ hc0
 clear hc0
 go_enter func171, Tryz.ntmps171
 go_wp2
 go_region
 all_goals (go_wp2; go_ret; exact ⟨rfl, rfl⟩)
set_option maxRecDepth 100000 in
set_option maxHeartbeats 1000000 in
theorem c1l {b g : Nat} {p : Value} {cur : Array Value} (w : World) (hbk : w.heap[b]? = some (.cells #[p, .slice (some ⟨g, 0, none⟩) 0 0] 175 (0, 0))) (hg : w.heap[g]? = some (.cells cur 5 (0, 0))) :
   Calls prog 171 #[.pointer (some ⟨b, 0, none⟩)] w fun e w' => e = .returned (.string ⟨#[]⟩) /\ (w' = w.drew.alloc (.view ⟨g, 0, none⟩ 5) \/ w' = (w.alloc (.view ⟨g, 0, none⟩ 5)).drew) := by
 have hUS := b1u; have hlt : b < w.heap.size := (Array.getElem?_eq_some_iff.1 hbk).1; have c1 : w.drew.cell? ⟨b, 1, none⟩ = some (.slice (some ⟨g, 0, none⟩) 0 0) := by
   have : w.drew.heap[b]? = some (.cells #[p, .slice (some ⟨g, 0, none⟩) 0 0] 175 (0, 0)) := hbk; rw [Lib.cell_of_heap this]; rfl
 have hSD : (Builtin.unsafeSliceData_ #[66] 205 #[.slice (some ⟨g, 0, none⟩) 0 0]).run prog w.drew = .ok (.pointer (some ⟨w.drew.heap.size, 0, none⟩)) (w.drew.alloc (.view ⟨g, 0, none⟩ 5)) :=
   Lib.run_unsafeSliceData_zero w.drew _ _ 5 Tryz.underlying205 ⟨g, 0, none⟩ 0 (5, cur.size) (by have hg' : w.drew.heap[g]? = some (.cells cur 5 (0, 0)) := hg; simp [World.shape?, hg'])
 have c2 : (w.drew.alloc (.view ⟨g, 0, none⟩ 5)).cell? ⟨b, 1, none⟩ = some (.slice (some ⟨g, 0, none⟩) 0 0) := by
   have : (w.drew.alloc (.view ⟨g, 0, none⟩ 5)).heap[b]? = _ := (Lib.alloc_old w.drew _ b hlt).trans hbk; rw [Lib.cell_of_heap this]; rfl
 have c3 : (w.alloc (.view ⟨g, 0, none⟩ 5)).drew.cell? ⟨b, 1, none⟩ = some (.slice (some ⟨g, 0, none⟩) 0 0) := c2; have c0 : w.cell? ⟨b, 1, none⟩ = some (.slice (some ⟨g, 0, none⟩) 0 0) := c1
 go_enter func171, Tryz.ntmps171
 go_wp2
 go_region
 all_goals (go_wp2; go_ret; exact ⟨rfl, .inl rfl⟩)
abbrev bld (b : Nat) (p : D) (hd : Value) (s : Str) : List AV := [.hb (va b) 175 (.agg [p, .raw hd]), .hs hd 5 (B5 s)]
theorem a3E (s : Str) : (B5 s).length = s.length := by simp [B5]
theorem b6a (w : World) (a : Addr) (n k : Nat) (h : k ≠ a.block) : (w.freeze a n).heap[k]? = w.heap[k]? := by
 unfold World.freeze; split
 . rfl
 . simp only []; rw [Array.getElem?_modify, if_neg (fun e => h e.symm)]
theorem b5Q (w : World) (a : Addr) (n : Nat) : (w.freeze a n).heap.size = w.heap.size := by
 unfold World.freeze; split
 . rfl
 . simp
theorem a6Y (w : World) (o : Obj) : (w.alloc o).heap.size = w.heap.size + 1 := by unfold World.alloc; simp
theorem a4O (w : World) (a : Addr) (n : Nat) : (w.freeze a n).os = w.os /\ (w.freeze a n).tape = w.tape /\ (w.freeze a n).output = w.output := by
 unfold World.freeze; split <;> exact ⟨rfl, rfl, rfl⟩
theorem a4Q {b : Nat} {p : D} (hp : p = .nilp \/ p = .raw (va b)) {hd : Value} {s : Str} :
   G1 prog 171 [.d (.raw (va b))] (bld b p hd s) (fun r hs' => r = .d (.str s) /\ hs' = []) := by
 refine ⟨enters_of func171 (by kernel_rfl) rfl, fun w L vals hlok hgl hv hh hap => ?_⟩; obtain ⟨v, us, rfl, hv1, hv2⟩ := hv; obtain rfl : us = [] := hv2; obtain rfl : v = va b := RepV.raw_inv hv1; have hb : Y4 w L (some b) 175 (.agg [p, .raw hd]) (va b) := (hh (.hb (va b) 175 (.agg [p, .raw hd])) (by simp)).2; obtain ⟨pv, e1, e2, e3, e4, e5⟩ := a7N hp hb; have hs : F0 prog w L hd.ownBlock true 5 (B5 s) hd := (hh (.hs hd 5 (B5 s)) (by simp)).2; obtain ⟨css, sz, f1, f2, f3, f4, f5⟩ := hs; obtain rfl : sz = 1 := by
   have : ety 5 = 5 := rfl; rw [this, a7g] at f1; simpa using f1.symm
 have hcs := a9m f2; have done : ∀ (w' : World), F7 w w' (fun k => some k ∈ (bld b p hd s).map C9) -> ∀ st : Str, st = s -> Ending.returned (.string ⟨st.toArray⟩) = Ending.returned (.string ⟨s.toArray⟩) /\
     ∃ v L' og r hs', Ending.returned (.string ⟨s.toArray⟩) = Ending.returned v /\ F7 w w' (fun k => some k ∈ (bld b p hd s).map C9) /\ (∀ b q, L' b q -> b < w'.heap.size) /\ (∀ b' q, b' < w.heap.size -> some b' ∉ (bld b p hd s).map C9 -> (L' b' q ↔ L b' q)) /\
     (∀ g, some g ∈ og :: hs'.map C9 -> g < w'.heap.size /\ (w.heap.size <= g \/ some g ∈ (bld b p hd s).map C9)) /\ J6 (og :: hs'.map C9) /\ RC prog w' L' og r v /\ (∀ x ∈ hs', RH prog w' L' x) /\ (r = .d (.str s) /\ hs' = []) := by
   intro w' hg st hst; refine ⟨by rw [hst], _, L, none, .d (.str s), [], rfl, hg, fun b q hq => Nat.lt_of_lt_of_le (hlok b q hq) hg.size, fun _ _ _ _ => Iff.rfl, fun g hgm => by simp at hgm, by simp [J6], RepV.str, by simp, rfl, rfl⟩
 rcases f4.2 with ⟨rfl, hn⟩ | ⟨g, cap, cur, hv, hh', hnc, hcm, hsz, ht⟩
 . have hs0 : s = [] := (by simpa [B5] using hn); subst hs0; refine (c6x w e1).mono ?_; rintro e w' ⟨rfl, rfl⟩; exact (done w.drew ⟨rfl, rfl, rfl, Nat.le_refl _, fun _ _ _ => rfl, Nat.le_succ _⟩ [] rfl).2
 . subst hv; rw [a3E] at *; have hblk1 : (bld b p (.slice (some ⟨g, 0, none⟩) s.length cap) s).map C9 = [some b, some g] := (by simp [C9, Value.ownBlock]); by_cases h0 : s = []
   . subst h0; by_cases hc0 : cap = 0
     . subst hc0; refine (c1l w e1 hh').mono ?_; rintro e w' ⟨rfl, hw⟩; refine (done w' ?_ [] rfl).2; rcases hw with rfl | rfl
       . exact ⟨rfl, rfl, rfl, by rw [a6Y]; exact Nat.le_succ _, fun k hk _ => Lib.alloc_old w.drew _ k hk, Nat.le_succ _⟩
       . exact ⟨rfl, rfl, rfl, by show _ <= (w.alloc _).heap.size; rw [a6Y]; exact Nat.le_succ _, fun k hk _ => Lib.alloc_old w _ k hk, Nat.le_succ _⟩
     . refine (c4B w hc0 e1).mono ?_; rintro e w' ⟨rfl, rfl⟩; exact (done w.drew ⟨rfl, rfl, rfl, Nat.le_refl _, fun _ _ _ => rfl, Nat.le_succ _⟩ [] rfl).2
   . refine (c5G w h0 e1 hh' hnc hcm (by omega) (fun j x hx => ?_)).mono ?_
     . have := a2m.cells f4 (g := g) rfl j (.int .u8 x.toNat) (by rw [hcs, getElem?_map, hx]; rfl); exact this
     . rintro e w' ⟨rfl, rfl⟩; refine (done (w.drew.freeze ⟨g, 0, none⟩ s.length) ⟨(a4O _ _ _).1, (a4O _ _ _).2.1, (a4O _ _ _).2.2, by rw [b5Q]; exact Nat.le_refl _, fun k hk hn => ?_, by rw [a4y]; exact Nat.le_succ _⟩ s rfl).2; rw [b6a _ _ _ _ (fun e => hn (by rw [hblk1]; simp [e]))]; rfl
end Go.Proofs.Tz
namespace Go.Proofs.Tz
open Go.Vw
set_option maxRecDepth 100000
set_option maxHeartbeats 4000000
def b8b (N k : Nat) (I : Nat -> St -> Prop) (τ : St) : Prop := ∃ m', m' < N - k /\ ∃ k', k' <= N /\ m' = N - k' /\ I k' τ
theorem B8 {N k : Nat} {I : Nat -> St -> Prop} {τ : St} (hk : k < N) (h : I (k + 1) τ) : b8b N k I τ := ⟨N - (k + 1), by omega, k + 1, hk, rfl, h⟩
theorem F3 {body : (Exit -> St -> Prop) -> St -> Prop} {Q : Exit -> St -> Prop} {σ : St} (N : Nat) (I : Nat -> St -> Prop) (h0 : I 0 σ)
   (hr : ∀ k τ, k <= N -> I k τ -> body (a5n (b8b N k I) Q) τ) : a8O body Q σ :=
 ⟨fun m τ => ∃ k, k <= N /\ m = N - k /\ I k τ, N, ⟨0, Nat.zero_le _, rfl, h0⟩, by
   rintro m τ ⟨k, hk, rfl, hI⟩; exact hr k τ hk hI⟩
theorem F6 {α : Type} {l : List α} {k : Nat} (h : k < l.length) : l.take (k + 1) = l.take k ++ [l[k]] := by
 rw [take_succ_eq_append_getElem h]
def B0 (l : List Str) : D := .sl (l.map .str)
def u8 (c : UInt8) : D := .int .u8 c.toNat
def a0k (c : UInt8) : Bool := decide (97 <= (c.toNat : Int)) && decide ((c.toNat : Int) <= 122) || decide (65 <= (c.toNat : Int)) && decide ((c.toNat : Int) <= 90)
def a2N (c : UInt8) : Bool := decide (48 <= (c.toNat : Int)) && decide ((c.toNat : Int) <= 57)
theorem b3e (c : UInt8) : Ctr prog 130 [.d (u8 c)] (.d (.bool (a0k c))) := by
 refine fv (fun _ => false) func130 (by kernel_rfl) rfl rfl rfl rfl rfl ?_; by_cases h1 : 97 <= (c.toNat : Int) <;> by_cases h2 : (c.toNat : Int) <= 122 <;> by_cases h3 : 65 <= (c.toNat : Int) <;> simp -implicitDefEqProofs [u8, a0k, h1, h2, h3]
theorem c3M (c : UInt8) : Ctr prog 131 [.d (u8 c)] (.d (.bool (a2N c))) := by
 refine fv (fun _ => false) func131 (by kernel_rfl) rfl rfl rfl rfl rfl ?_; by_cases h1 : 48 <= (c.toNat : Int) <;> simp [u8, a2N, h1]
def a0H (c : UInt8) : UInt8 := if 65 <= (c.toNat : Int) /\ (c.toNat : Int) <= 90 then c + 32 else c
def D2 (s : Str) : Str := s.map a0H
theorem a3O (c : UInt8) (h1 : 65 <= (c.toNat : Int)) (h2 : (c.toNat : Int) <= 90) : ((a0H c).toNat : Int) = c.toNat + 97 - 65 := by
 rw [a0H, if_pos ⟨h1, h2⟩, UInt8.toNat_add]; have : (32 : UInt8).toNat = 32 := rfl; omega
theorem c3i (s : Str) : s.map u8 = B5 s := rfl
theorem N9 (s : Str) : (D2 s).length = s.length := by simp [D2]
theorem a6k {s : Str} {k : Nat} (h : k < List.length s) : (D2 (s.take (k + 1))).map u8 = (D2 (s.take k)).map u8 ++ [u8 (a0H s[k])] := by
 rw [F6 h]; simp only [D2, map_append, map_cons, map_nil]
theorem a0l (s : Str) (hs : List.length s < 1000000) : Ctr prog 87 [.d (.str s)] (.d (.str (D2 s))) := by
 refine fv (fun i => decide (i < 1000000)) func87 (by kernel_rfl) rfl rfl rfl rfl rfl ?_; simp -implicitDefEqProofs; refine F3 (List.length s) (fun k τ => τ 0 = .d (.str s) /\ τ 4 = .d (.int .i64 k) /\ τ 3 = .own true 5 ((D2 (s.take k)).map u8)) (by simp [D2]) ?_; rintro k τ hk ⟨h0, h4, h3⟩; by_cases hlt : k < List.length s
 . by_cases h1 : 65 <= (s[k].toNat : Int)
   . by_cases h2 : (s[k].toNat : Int) <= 90
     . simp -implicitDefEqProofs [h0, h3, h4, hlt, h1, h2, N9]; refine ⟨by omega, by omega, by omega, by omega, B8 hlt ⟨by simp [h0], by simp, ?_⟩⟩; simp -implicitDefEqProofs [a6k hlt, u8, a3O _ h1 h2]
     . simp -implicitDefEqProofs [h0, h3, h4, hlt, h1, h2, N9]; refine ⟨by omega, by omega, B8 hlt ⟨by simp [h0], by simp, ?_⟩⟩; simp -implicitDefEqProofs [a6k hlt, u8, a0H, h2]
   . simp -implicitDefEqProofs [h0, h3, h4, hlt, h1, N9]; refine ⟨by omega, by omega, B8 hlt ⟨by simp [h0], by simp, ?_⟩⟩; simp -implicitDefEqProofs [a6k hlt, u8, a0H, h1]
 . simp -implicitDefEqProofs [h0, h3, h4, hlt, c3i]; rw [ttl (by omega)]
def X2 (c : UInt8) : Bool := a0k c || a2N c || decide ((c.toNat : Int) = 45)
def K5 (s : Str) : Bool := decide (1 <= s.length) && decide (s.length <= 64) && (s.head?.any a0k) && s.all X2
def U8 (c : UInt8) : Bool := decide (32 <= (c.toNat : Int)) && decide ((c.toNat : Int) <= 126)
def I9 (s : Str) : Bool := decide (1 <= s.length) && decide (s.length <= 256) && s.head? != some 32 && s.getLast? != some 32 && s.all U8
theorem a3a {s : Str} {p : UInt8 -> Bool} {k : Nat} (h : k < List.length s) (ha : ∀ x ∈ s.take k, p x = true) (hp : p s[k] = true) : ∀ x ∈ s.take (k + 1), p x = true := by
 rw [F6 h]; intro x hx; rcases mem_append.1 hx with hx | hx
 . exact ha x hx
 . rw [mem_singleton.1 hx]; exact hp
theorem a4b {s : Str} {p : UInt8 -> Bool} {k : Nat} (h : k < List.length s) (hp : p s[k] = false) : s.all p = false := by
 rw [all_eq_false]; exact ⟨_, gmm h, by simp [hp]⟩
theorem b1I (s : Str) : Ctr prog 86 [.d (.str s)] (.d (.bool (K5 s))) := by
 refine fv (fun _ => false) func86 (by kernel_rfl) rfl rfl rfl rfl rfl ?_; by_cases hs : s = []
 . simp -implicitDefEqProofs [K5, hs]
 obtain ⟨c, t, hct⟩ : ∃ c t, s = c :: t := exists_cons_of_ne_nil hs; have hpos : 0 < List.length s := by rw [hct]; simp
 have h1 : ¬ ((List.length s : Int) < 1) := (by omega); have hc0 : s[0] = c := (by simp [hct]); have hh : s.head? = some c := (by simp [hct]); by_cases h2 : 64 < (List.length s : Int)
 . have : ¬ List.length s <= 64 := (by omega); simp -implicitDefEqProofs [K5, h1, h2, this]
 have h2' : List.length s <= 64 := (by omega); have h1' : 1 <= List.length s := hpos; simp -implicitDefEqProofs [h1, h2, hpos, hc0]; refine A0 (b3e c) ?_; by_cases hc : a0k c = true
 . simp -implicitDefEqProofs [hc]; refine F3 (List.length s) (fun k τ => τ 0 = .d (.str s) /\ τ 3 = .d (.int .i64 k) /\ ∀ x ∈ s.take k, X2 x = true) (by simp) ?_; rintro k τ hk ⟨h0, h3, ha⟩; by_cases hlt : k < List.length s
   . simp -implicitDefEqProofs [h0, h3, hlt]; refine A0 (b3e s[k]) ?_; by_cases e1 : a0k s[k] = true
     . simp -implicitDefEqProofs [e1, h0, h3, hlt]; refine ⟨by omega, B8 hlt ⟨by simp [h0], by simp, ?_⟩⟩; exact a3a hlt ha (by simp [X2, e1])
     . simp -implicitDefEqProofs [e1, h0, h3, hlt]; refine A0 (c3M s[k]) ?_; by_cases e2 : a2N s[k] = true
       . simp -implicitDefEqProofs [e2, h0, h3, hlt]; refine ⟨by omega, B8 hlt ⟨by simp [h0], by simp, ?_⟩⟩; exact a3a hlt ha (by simp [X2, e2])
       . by_cases e3 : (s[k].toNat : Int) = 45
         . simp -implicitDefEqProofs [e2, e3, h0, h3, hlt]; refine ⟨by omega, B8 hlt ⟨by simp [h0], by simp, ?_⟩⟩; exact a3a hlt ha (by simp [X2, e3])
         . simp -implicitDefEqProofs [e2, e3, h0, h3, hlt]; simp -implicitDefEqProofs [K5, a4b hlt (show X2 s[k] = false by simp [X2, e1, e2, e3])]
   . simp -implicitDefEqProofs [h0, h3, hlt]; rw [ttl (by omega)] at ha; simp -implicitDefEqProofs [K5, h1', h2', hh, hc]; exact ha
 . simp -implicitDefEqProofs [hc, K5, hh]
end Go.Proofs.Tz
namespace Go.Proofs.Tz
open Go.Vw Go.RowKit Go.Proofs
theorem N1 {P : Program} {g : FuncId} {args : List AV} {σ : St} {d : Nat} {K : St -> Prop} (ks : List Nat) (b : Nat) {hs : List AV} {Post : AV -> List AV -> Prop} (h : G1 P g args hs Post) (h1 : ks.map σ = hs) (h2 : hs.all isH = true) (h3 : ks.Nodup)
   (hk : ∀ r hs', Post r hs' -> K (E7 (put (D8 σ ks) d r) ks b hs')) : a0S P g args σ d K :=
 ⟨ks, b, Post, fun k hk => by
   have : σ k ∈ hs := by rw [<- h1]; exact mem_map.2 ⟨k, hk, rfl⟩
   exact all_eq_true.1 h2 _ this, h3, by rw [h1]; exact h, hk⟩
theorem L4 {P : Program} {s f : Nat} {u : Value} {σ : St} {C : AV -> Prop} (j : Nat) {e : TypeId} {ds : List D} (hj : σ j = .hb u e (.agg ds)) (h0 : 1000000 <= j) (h1 : f < ds.length) (h2 : E0 P s f = some (D6 (ds.take f))) (h : C (.adr j [f])) : b0M P s f u σ C :=
 ⟨j, e, ds, h0, hj, h1, h2, h⟩
theorem c8k {e : TypeId} {t : Str} {l : List D} {u : Value} {σ : St} {d : Nat} {K : St -> Prop} (j : Nat) (hj : σ j = .hs u e l) (h2 : l.length + List.length t <= 140737488355328)
   (hk : ∀ A c, K (put (put σ j (.hs (.slice A (l ++ B5 t).length c) e (l ++ B5 t))) d (.d (.raw (.slice A (l ++ B5 t).length c))))) : b3H e t u σ d K := ⟨j, l, .inl hj, h2, hk⟩
@[simp] theorem c5x : a2b Value.nilIface = .undef := rfl
theorem J8 {b : Nat} {p : D} (hp : p = .nilp \/ p = .raw (va b)) {hd : Value} {s : Str} (c : UInt8) (hl : s.length + 1 <= 140737488355328) :
   G1 prog 167 [.d (.raw (va b)), .d (.int .u8 c.toNat)] (bld b p hd s) (fun r hs' => ∃ hd', hs' = bld b (.raw (va b)) hd' (s ++ [c])) := by
 refine a1O (fun i => i == 5000006) (by kernel_rfl) (rs := [.tmp 4]) func167 (by kernel_rfl) rfl rfl (by simp) (nbl rfl) (by kernel_rfl) rfl ?_; simp -implicitDefEqProofs [A5]; refine N1 [1000000] 1000000 (a7j (hd := hd) hp) (by simp [A5]) rfl (by simp) ?_; rintro r hs' ⟨rfl, rfl⟩; simp -implicitDefEqProofs [A5, D8, E7]; refine L4 1000000 (by simp; exact ⟨rfl, rfl⟩) (by omega) (by simp) (by kernel_rfl) ?_; simp -implicitDefEqProofs [A5]; refine c3G (l := B5 s) 1000001 (by simp [A5]) (by simp) (by simp [B5]; omega) (by simp [B5]; omega) (fun A c2 => ?_); simp -implicitDefEqProofs [A5]; refine L4 1000000 (by simp; exact ⟨rfl, rfl⟩) (by omega) (by simp) (by kernel_rfl) ?_; simp -implicitDefEqProofs [A5]; refine ⟨[.undef], [1000000, 1000001], by simp, by simp [isH], by simp [T3, a0Z], .slice A ((B5 s).length + 1) c2, by simp [B5]⟩
theorem a0x {b : Nat} {p : D} (hp : p = .nilp \/ p = .raw (va b)) {hd : Value} {s : Str} (t : Str) (hl : s.length + t.length <= 140737488355328) :
   G1 prog 168 [.d (.raw (va b)), .d (.str t)] (bld b p hd s) (fun r hs' => ∃ hd', hs' = bld b (.raw (va b)) hd' (s ++ t)) := by
 refine a1O (fun i => i == 5000007) (by kernel_rfl) (rs := [.tmp 4, .tmp 5]) func168 (by kernel_rfl) rfl rfl (by simp) (nbl rfl) (by kernel_rfl) rfl ?_; simp -implicitDefEqProofs [A5]; refine N1 [1000000] 1000000 (a7j (hd := hd) hp) (by simp [A5]) rfl (by simp) ?_; rintro r hs' ⟨rfl, rfl⟩; simp -implicitDefEqProofs [A5, D8, E7]; refine L4 1000000 (by simp; exact ⟨rfl, rfl⟩) (by omega) (by simp) (by kernel_rfl) ?_; simp -implicitDefEqProofs [A5]; refine c8k (l := B5 s) 1000001 (by simp [A5]) (by simp [B5]; omega) (fun A c2 => ?_); simp -implicitDefEqProofs [A5]; refine L4 1000000 (by simp; exact ⟨rfl, rfl⟩) (by omega) (by simp) (by kernel_rfl) ?_; simp -implicitDefEqProofs [A5]; refine ⟨[.undef, .undef], [1000000, 1000001], by simp, by simp [isH], by simp [T3, a0Z], .slice A ((B5 s).length + (B5 t).length) c2, by simp [B5]⟩
theorem G1.head {P : Program} {f : FuncId} {args hs : List AV} {Post : AV -> List AV -> Prop} {u : Value} {e : TypeId} {l : List D} (hm : AV.hs u e l ∈ hs) (hE : Enters P f) (h : ∀ A c, u = .slice A l.length c -> G1 P f args hs Post) : G1 P f args hs Post := by
 refine ⟨hE, fun w L vals hlok hgl hv hh ha => ?_⟩; obtain ⟨A, c, hu⟩ := F0.shape (show F0 P w L u.ownBlock true e l u from (hh _ hm).2); exact (h A c hu).2 w L vals hlok hgl hv hh ha
theorem Ctr.same {P : Program} {f : FuncId} {xs : List D} {r : D} {vs : List Value} {v : Value} (hE : Enters P f) (h : ∀ w, Calls P f vs.toArray w fun e w' => e = .returned v /\ w' = w)
   (hx : ∀ w L og vals, RCs P w L og (xs.map .d) vals -> vals = vs) (hr : ∀ w L, RepV w L r v) : Ctr P f (xs.map .d) (.d r) := by
 refine ⟨hE, fun w L og vals hlok hgl hog hv => ?_⟩; rw [hx w L og vals hv]; refine (h w).mono ?_; rintro e w' ⟨rfl, rfl⟩; exact ⟨_, L, none, rfl, F7.refl _ _, hlok, fun _ _ _ _ => Iff.rfl, by simp, hr _ _⟩
abbrev ixB (s : Str) (c : UInt8) : Int := Go.Lib.indexByte s c
set_option maxRecDepth 100000 in
set_option maxHeartbeats 1000000 in
theorem b1x (s : Str) (c : UInt8) (w : World) : Calls prog 190 #[.string ⟨s.toArray⟩, .int .u8 c.toNat] w fun e w' => e = .returned (.int .i64 (ixB s c)) /\ w' = w := by
 go_enter func190, Tryz.ntmps190
 go_wp2
 rw [run_callFunc_extern func226 (by kernel_rfl) (by kernel_rfl) (by kernel_rfl) (e := Extern.BytealgIndexByte.indexByte) (by kernel_rfl), Lib.run_indexByteString]; simp only [Result.andThen]; rw [Oper.upon_value]
 go_wp2
 go_ret
 simp [ixB]
theorem b3u (s : Str) (c : UInt8) : Ctr prog 190 [.d (.str s), .d (.int .u8 c.toNat)] (.d (.int .i64 (ixB s c))) := by
 refine Ctr.same (xs := [.str s, .int .u8 c.toNat]) (enters_of func190 (by kernel_rfl) rfl) (b1x s c) (fun w L og vals h => ?_) (fun w L => RepV.int); obtain ⟨v, us, rfl, h1, v2, us2, rfl, h2, h3⟩ := h; obtain rfl : us2 = [] := h3; obtain rfl := RepV.str_inv h1; obtain rfl := RepV.int_inv h2; rfl
theorem a7T (s : Str) (c : UInt8) : Ctr prog 148 [.d (.str s), .d (.int .u8 c.toNat)] (.d (.int .i64 (ixB s c))) := by
 refine fv (fun _ => false) func148 (by kernel_rfl) rfl rfl rfl rfl rfl ?_; simp -implicitDefEqProofs; refine A0 (b3u s c) ?_; simp -implicitDefEqProofs
set_option maxRecDepth 100000 in
set_option maxHeartbeats 1000000 in
theorem c5Q {s : Str} {c : UInt8} (h : 0 <= ixB s c) : (ixB s c).toNat < s.length := by
 induction s with
 | nil => simp [ixB, Go.Lib.indexByte] at h
 | cons x s ih =>
   simp only [ixB, Go.Lib.indexByte] at h ih ⊢; split
   . simp
   . split
     . rename_i h1 h2; simp [h1, h2] at h
     . rename_i h1 h2
       simp only [h1, h2] at h; have h3 : Go.Lib.indexByte s c ≠ -1 := (by simpa using h2); have h4 := Go.Lib.indexByte_ge s c; have := ih (by omega); simp only [length_cons]; omega
def O6 (c : UInt8) : Bool := decide ((33 : Int) <= c.toNat /\ (c.toNat : Int) <= 126 /\ ¬ (c.toNat : Int) = 37 /\ ¬ (c.toNat : Int) = 124 /\ ¬ (c.toNat : Int) = 44 /\ ¬ (c.toNat : Int) = 61 /\ ¬ (c.toNat : Int) = 59 /\ ¬ (c.toNat : Int) = 34)
theorem b9t (c : UInt8) : Ctr prog 244 [.d (.int .u8 c.toNat)] (.d (.bool (O6 c))) := by
 refine fv (fun _ => false) func244 (by kernel_rfl) rfl rfl rfl rfl rfl ?_; by_cases h1 : (33 : Int) <= c.toNat
 . by_cases h2 : (c.toNat : Int) <= 126
   . by_cases h3 : (c.toNat : Int) = 37
     . simp -implicitDefEqProofs [h1, h2, h3, O6]
     by_cases h4 : (c.toNat : Int) = 124
     . simp -implicitDefEqProofs [h1, h2, h3, h4, O6]
     by_cases h5 : (c.toNat : Int) = 44
     . simp -implicitDefEqProofs [h1, h2, h3, h4, h5, O6]
     by_cases h6 : (c.toNat : Int) = 61
     . simp -implicitDefEqProofs [h1, h2, h3, h4, h5, h6, O6]
     by_cases h7 : (c.toNat : Int) = 59
     . simp -implicitDefEqProofs [h1, h2, h3, h4, h5, h6, h7, O6]
     . simp -implicitDefEqProofs [h1, h2, h3, h4, h5, h6, h7, O6]
   . simp -implicitDefEqProofs [h1, h2, O6]
 . simp -implicitDefEqProofs [h1, O6]
theorem c4g (s : Str) (c : UInt8) : ixB s c < 0 ↔ c ∉ s := by
 induction s with
 | nil => simp [ixB, Go.Lib.indexByte]
 | cons x s ih =>
   have h4 := Go.Lib.indexByte_ge s c; simp only [ixB, Go.Lib.indexByte] at ih ⊢; by_cases hx : x = c
   . simp [hx]
   . have hx' : (x == c) = false := (by simpa using hx); simp only [hx', Bool.false_eq_true, if_false, mem_cons, not_or]; by_cases h : Go.Lib.indexByte s c = -1
     . simp [h] at ih ⊢; exact ⟨fun e => hx e.symm, ih⟩
     . have hn : ¬ Go.Lib.indexByte s c < 0 := (by omega); have h0 : (Go.Lib.indexByte s c == -1) = false := (by simpa using h); simp only [h0, Bool.false_eq_true, if_false]; constructor
       . intro h5; omega
       . intro h5; exact absurd (ih.2 h5.2) hn
theorem J2 (c : UInt8) (k : Nat) (hk : k < 256) : ((c.toNat : Int) = k) ↔ c = UInt8.ofNat k := by
 constructor
 . intro h; have : c.toNat = k := (by omega); rw [<- this, UInt8.ofNat_toNat]
 . rintro rfl; simp [UInt8.toNat_ofNat', Nat.mod_eq_of_lt hk]
theorem c0S (c : UInt8) : decide (ixB [37, 124, 44, 61, 59, 34] c < 0) = decide (¬ (c.toNat : Int) = 37 /\ ¬ (c.toNat : Int) = 124 /\ ¬ (c.toNat : Int) = 44 /\ ¬ (c.toNat : Int) = 61 /\ ¬ (c.toNat : Int) = 59 /\ ¬ (c.toNat : Int) = 34) := by
 have h1 : ((c.toNat : Int) = 37) ↔ c = 37 := J2 c 37 (by omega); have h2 : ((c.toNat : Int) = 124) ↔ c = 124 := J2 c 124 (by omega); have h3 : ((c.toNat : Int) = 44) ↔ c = 44 := J2 c 44 (by omega); have h4 : ((c.toNat : Int) = 61) ↔ c = 61 := J2 c 61 (by omega); have h5 : ((c.toNat : Int) = 59) ↔ c = 59 := J2 c 59 (by omega); have h6 : ((c.toNat : Int) = 34) ↔ c = 34 := J2 c 34 (by omega); rw [decide_eq_decide, c4g, h1, h2, h3, h4, h5, h6]; simp
theorem c2t (c : UInt8) : Ctr prog 181 [.d (.int .u8 c.toNat)] (.d (.bool (O6 c))) := by
 refine fv (fun _ => false) func181 (by kernel_rfl) rfl rfl rfl rfl rfl ?_; by_cases h1 : (33 : Int) <= c.toNat
 . by_cases h2 : (c.toNat : Int) <= 126
   . simp -implicitDefEqProofs [h1, h2]; refine A0 (a7T _ c) ?_; simp -implicitDefEqProofs [h1, h2, O6]; rw [c0S]; simp
   . simp -implicitDefEqProofs [h1, h2, O6]
 . simp -implicitDefEqProofs [h1, O6]
set_option maxRecDepth 100000
abbrev b7K : Str := [48, 49, 50, 51, 52, 53, 54, 55, 56, 57, 65, 66, 67, 68, 69, 70]
def a2v (n : Nat) : UInt8 := b7K.getD n 0
def a2W (c : UInt8) : Str := if O6 c then [c] else [37, a2v (c.toNat / 16), a2v (c.toNat % 16)]
def Q3 (s : Str) : Str := s.flatMap a2W
theorem b5C (c : UInt8) : (a2W c).length <= 3 := by unfold a2W; split <;> simp
theorem a1l (s : Str) : (Q3 s).length <= 3 * s.length := by
 induction s with
 | nil => simp [Q3]
 | cons c s ih =>
   have := b5C c; simp only [Q3, flatMap_cons, length_append, length_cons] at ih ⊢; omega
theorem b2B {s : Str} {k : Nat} (h : k < List.length s) : Q3 (s.take (k + 1)) = Q3 (s.take k) ++ a2W s[k] := by
 rw [F6 h]; simp only [Q3, flatMap_append, flatMap_cons, flatMap_nil, append_nil]
theorem b9Y {n : Nat} (h : n < 16) : b7K[n]? = some (a2v n) := by
 simp only [a2v, getD_eq_getElem?_getD]; rw [getElem?_eq_getElem (by simpa using h)]; rfl
theorem c6u (c : UInt8) : (0 : Int) <= (c.toNat : Int) / 16 /\ (c.toNat : Int) / 16 <= 255 /\ ((c.toNat : Int) / 16).toNat = c.toNat / 16 /\ [48, 49, 50, 51, 52, 53, 54, 55, 56, 57, 65, 66, 67, 68, 69, 70][c.toNat / 16]? = some (a2v (c.toNat / 16)) /\ c.toNat / 16 < 16 := by
 have := c.toNat_lt; exact ⟨by omega, by omega, by omega, b9Y (by omega), by omega⟩
theorem c6e (c : UInt8) : (0 : Int) <= (c.toNat : Int) % 16 /\ ((c.toNat : Int) % 16).toNat = c.toNat % 16 /\ [48, 49, 50, 51, 52, 53, 54, 55, 56, 57, 65, 66, 67, 68, 69, 70][c.toNat % 16]? = some (a2v (c.toNat % 16)) := by
 have := c.toNat_lt; exact ⟨by omega, by omega, b9Y (by omega)⟩
theorem a5R (s : Str) (hs : List.length s < 1000000) : Ctr prog 217 [.d (.str s)] (.d (.str (Q3 s))) := by
 refine fv (fun i => decide (i < 1000000)) func217 (by kernel_rfl) rfl rfl rfl rfl rfl ?_; simp -implicitDefEqProofs; refine F3 (List.length s) (fun k τ => τ 0 = .d (.str s) /\ τ 4 = .d (.int .i64 k) /\ τ 3 = .own true 5 (B5 (Q3 (s.take k)))) (by simp [Q3, B5]) ?_; rintro k τ hk ⟨h0, h4, h3⟩; by_cases hlt : k < List.length s
 . simp -implicitDefEqProofs [h0, h3, h4, hlt]; refine A0 (b9t s[k]) ?_; have h5 := a1l (s.take k); rw [length_take, Nat.min_eq_left (by omega)] at h5; have h6 := b2B hlt; have h7 : (a2W s[k]).length <= 3 := b5C _; by_cases hp : O6 s[k] = true
   . simp -implicitDefEqProofs [h0, h3, h4, hlt, hp, a3E]; refine ⟨by omega, by omega, B8 hlt ⟨by simp [h0], by simp, ?_⟩⟩; simp [h6, a2W, hp, B5]
   . obtain ⟨q1, q2, q3, q4, q5⟩ := c6u s[k]; obtain ⟨r1, r2, r3⟩ := c6e s[k]; simp -implicitDefEqProofs [h0, h3, h4, hlt, hp, a3E, q1, q2, q3, q4, r1, r2, r3]; refine ⟨by decide, by omega, by omega, B8 hlt ⟨by simp [h0], by simp, ?_⟩⟩; simp [h6, a2W, hp, B5]
 . simp -implicitDefEqProofs [h0, h3, h4, hlt]; rw [ttl (by omega)]
theorem b3G {P : Program} {e : TypeId} {z : D} {σ : St} {d : Nat} {K : St -> Prop} (j k : Nat) (e' : TypeId) (h1 : σ k = .undef) (h2 : (P.info? (ety e')).isSome = true) (h3 : σ j = .undef) (hjk : j ≠ k)
   (hK : ∀ g, K (put (put (put σ k (.hs (.slice none 0 0) e' [])) j (.hb (va g) e z)) d (.d (.raw (va g))))) : b5o P e z σ d K :=
 ⟨j, some (k, e'), ⟨h1, h2⟩, by simp [b9c, hjk, h3], hK⟩
theorem b3Q : a4H prog true 8 175 = .agg [.nilp, .raw (.slice none 0 0)] := by kernel_rfl
def a8I (τ : St) (b : Nat) (s : Str) : Prop := ∃ p hd, (p = .nilp \/ p = .raw (va b)) /\ τ 1000000 = .hb (va b) 175 (.agg [p, .raw hd]) /\ τ 1000001 = .hs hd 5 (B5 s)
theorem a7A (s : Str) (hs : List.length s < 1000000) : Ctr prog 126 [.d (.str s)] (.d (.str (Q3 s))) := by
 refine fv (fun i => i == 1000003 || i == 5000017 || i == 5000018 || i == 5000022 || i == 5000026 || i == 5000028) func126 (by kernel_rfl) rfl rfl rfl rfl rfl ?_; simp -implicitDefEqProofs; refine b3G 1000000 1000001 5 (by simp) (by kernel_rfl) (by simp) (by simp) (fun b => ?_); simp -implicitDefEqProofs; refine F3 (List.length s) (fun k τ => τ 0 = .d (.str s) /\ τ 8 = .d (.int .i64 k) /\ τ 7 = .d (.int .i64 s.length) /\ τ 3 = .d (.raw (va b)) /\ a8I τ b (Q3 (s.take k))) ?_ ?_
 . exact ⟨by simp, by simp, by simp, by simp, .nilp, .slice none 0 0, .inl rfl, by simp [b3Q], by simp [Q3, B5]⟩
 rintro k τ hk ⟨h0, h8, h7, h3, p, hd, hp, hb, hh⟩; by_cases hlt : k < List.length s
 . have h5 := a1l (s.take k); rw [length_take, Nat.min_eq_left (by omega)] at h5; have h6 := b2B hlt; simp -implicitDefEqProofs [h0, h3, h7, h8, hlt]; refine A0 (c2t s[k]) ?_; by_cases hpl : O6 s[k] = true
   . simp -implicitDefEqProofs [h0, h3, h7, h8, hlt, hpl]; refine N1 [1000000, 1000001] 1000000 (J8 (s := Q3 (s.take k)) (hd := hd) hp s[k] (by omega)) (by simp [hb, hh]) rfl (by simp) ?_; rintro r hs' ⟨hd1, rfl⟩; simp -implicitDefEqProofs [h0, h3, h7, h8, hlt, D8, E7]; refine ⟨by omega, B8 hlt ⟨by simp [h0], by simp, by simp [h7], by simp [h3], .raw (va b), hd1, .inr rfl, by simp, by simp [h6, a2W, hpl]⟩⟩
   . obtain ⟨q1, q2, q3, q4, q5⟩ := c6u s[k]; obtain ⟨r1, r2, r3⟩ := c6e s[k]; simp -implicitDefEqProofs [h0, h3, h7, h8, hlt, hpl]; refine N1 [1000000, 1000001] 1000000 (J8 (s := Q3 (s.take k)) (hd := hd) hp 37 (by omega)) (by simp [hb, hh]) rfl (by simp) ?_; rintro r hs' ⟨hd1, rfl⟩; have hand : s[k].toNat &&& 15 = s[k].toNat % 16 := Nat.and_two_pow_sub_one_eq_mod s[k].toNat 4; have hlt8 : s[k].toNat <= 255 := by have := s[k].toNat_lt; omega
     simp -implicitDefEqProofs [h0, h3, h7, h8, hlt, D8, E7, q1, q2, q3, q4]; refine N1 [1000000, 1000001] 1000000 (J8 (b := b) (s := Q3 (s.take k) ++ [37]) (hd := hd1) (.inr rfl) (a2v (s[k].toNat / 16)) (by simp; omega)) (by simp) rfl (by simp) ?_; rintro r hs' ⟨hd2, rfl⟩; simp -implicitDefEqProofs [h0, h3, h7, h8, hlt, D8, E7, hand, r3, q1, q2, r1, r2, hlt8]; refine ⟨by omega, ?_⟩; refine N1 [1000000, 1000001] 1000000 (J8 (b := b) (s := Q3 (s.take k) ++ [37] ++ [a2v (s[k].toNat / 16)]) (hd := hd2) (.inr rfl) (a2v (s[k].toNat % 16)) (by simp; omega)) (by simp) rfl (by simp) ?_; rintro r hs' ⟨hd3, rfl⟩; simp -implicitDefEqProofs [h0, h3, h7, h8, hlt, D8, E7]; refine ⟨by omega, B8 hlt ⟨by simp [h0], by simp, by simp [h7], by simp [h3], .raw (va b), hd3, .inr rfl, by simp, by simp [h6, a2W, hpl]⟩⟩
 . simp -implicitDefEqProofs [h0, h3, h7, h8, hlt]; rw [ttl (by omega)] at hh; refine N1 [1000000, 1000001] 1000000 (a4Q (s := Q3 s) (hd := hd) hp) (by simp [hb, hh]) rfl (by simp) ?_; rintro r hs' ⟨rfl, rfl⟩; simp -implicitDefEqProofs [h0, h3, h7, h8, hlt, D8, E7]
abbrev a9H (c : UInt8) : Int := ixB b7K c
def hx (h l : UInt8) : UInt8 := UInt8.ofNat (16 * (a9H h).toNat + (a9H l).toNat)
def a2x : Str -> Option Str
 | [] => some []
 | c :: r => if O6 c then (a2x r).map (c :: ·) else if c = 37 then (match r with
   | h :: l :: r' => if 0 <= a9H h /\ 0 <= a9H l /\ O6 (hx h l) = false then (a2x r').map (hx h l :: ·) else none
   | _ => none) else none
 termination_by s => s.length
theorem b9K : a2x [] = some [] := by rw [a2x.eq_def]
theorem b0V (c : UInt8) (r : Str) : a2x (c :: r) = if O6 c then (a2x r).map (c :: ·) else if c = 37 then (match r with
   | h :: l :: r' => if 0 <= a9H h /\ 0 <= a9H l /\ O6 (hx h l) = false then (a2x r').map (hx h l :: ·) else none
   | _ => none) else none := by rw [a2x.eq_def]; rfl
theorem a5i : ∀ n, n < 16 -> a9H (a2v n) = n := by decide
theorem c4N (c : UInt8) : hx (a2v (c.toNat / 16)) (a2v (c.toNat % 16)) = c := by
 have := c.toNat_lt; rw [hx, a5i _ (by omega), a5i _ (by omega)]; have : 16 * ((c.toNat / 16 : Nat) : Int).toNat + ((c.toNat % 16 : Nat) : Int).toNat = c.toNat := (by omega); rw [this, UInt8.ofNat_toNat]
theorem c4X : O6 37 = false := by decide
theorem c0J (t : Str) : a2x (Q3 t) = some t := by
 induction t with
 | nil => simp [Q3, b9K]
 | cons c t ih =>
   have e : Q3 (c :: t) = a2W c ++ Q3 t := (by simp [Q3]); rw [e]; have := c.toNat_lt; by_cases hp : O6 c = true
   . simp [a2W, hp, b0V, ih]
   . have hp' : O6 c = false := (by simpa using hp); simp only [a2W, hp', Bool.false_eq_true, if_false, cons_append, nil_append]; rw [b0V]; simp only; rw [a5i _ (by omega), a5i _ (by omega), c4N]; have b1 : (0 : Int) <= ((c.toNat / 16 : Nat) : Int) := Int.natCast_nonneg _; have b2 : (0 : Int) <= ((c.toNat % 16 : Nat) : Int) := Int.natCast_nonneg _; rw [if_neg (by simp [c4X]), if_pos trivial, if_pos ⟨b1, b2, hp'⟩, ih]; rfl
theorem b0t {N k k' : Nat} {I : Nat -> St -> Prop} {τ : St} (hk : k < k') (hk' : k' <= N) (h : I k' τ) : b8b N k I τ := ⟨N - k', by omega, k', hk', rfl, h⟩
theorem c0T {c : UInt8} : ∀ {s : Str} {k : Nat} (h : k < s.length), s[k] = c -> c ∉ s.take k -> ixB s c = k
 | [], k, h, _, _ => by simp at h
 | x :: s, 0, h, he, _ => by
   simp only [getElem_cons_zero] at he; simp [ixB, Go.Lib.indexByte, he]
 | x :: s, k + 1, h, he, hn => by
   simp only [take_succ_cons, mem_cons, not_or] at hn; have := c0T (s := s) (k := k) (by simpa using h) (by simpa using he) hn.2; have hx : (x == c) = false := by simpa using fun e => hn.1 e.symm
   simp only [ixB] at this; simp only [ixB, Go.Lib.indexByte, hx, this]; have h2 : ((k : Int) == -1) = false := (by simp); simp [h2]
def a5B (s : Str) : Str × Int := match a2x s with
 | some t => (t, 0)
 | none => ([], 4)
theorem b6d {s t : Str} (h : a2x s = some t) : a5B s = (t, 0) := by simp [a5B, h]
def a0T (c : UInt8) : Str -> List Str
 | [] => [[]]
 | x :: s => if x = c then [] :: a0T c s else (match a0T c s with
   | p :: ps => (x :: p) :: ps
   | [] => [[x]])
theorem b6p {c : UInt8} {s : Str} (h : c ∉ s) : a0T c s = [s] := by
 induction s with
 | nil => rfl
 | cons x s ih =>
   simp only [mem_cons, not_or] at h; simp only [a0T, if_neg (fun e : x = c => h.1 e.symm), ih h.2]
theorem b2c {c : UInt8} : ∀ {s : Str} {k : Nat}, ixB s c = k -> a0T c s = s.take k :: a0T c (s.drop (k + 1))
 | [], k, h => by simp [ixB, Go.Lib.indexByte] at h
 | x :: s, k, h => by
   have hge := Go.Lib.indexByte_ge s c; simp only [ixB, Go.Lib.indexByte] at h; by_cases hx : x = c
   . simp only [hx, beq_self_eq_true, if_true] at h; obtain rfl : k = 0 := by omega
     simp [a0T, hx]
   . have hx' : (x == c) = false := (by simpa using hx); simp only [hx', Bool.false_eq_true, if_false] at h; by_cases h2 : Go.Lib.indexByte s c = -1
     . simp [h2] at h
     . have h3 : (Go.Lib.indexByte s c == -1) = false := (by simpa using h2); simp only [h3, Bool.false_eq_true, if_false] at h; obtain ⟨k', rfl⟩ : ∃ k', k = k' + 1 := ⟨k - 1, by omega⟩; have ih := b2c (s := s) (k := k') (by show Go.Lib.indexByte s c = _; omega); simp only [a0T, if_neg hx, ih, take_succ_cons, drop_succ_cons]
theorem a0e {α : Type} {l : List α} {k : Nat} (h : k < l.length) : l.drop k = l[k] :: l.drop (k + 1) := drop_eq_getElem_cons h
theorem b2E : ∀ n, n < 16 -> 33 <= (a2v n).toNat /\ (a2v n).toNat <= 126 := by decide
theorem b2J {s : Str} {c : UInt8} (h : c ∈ Q3 s) : 33 <= c.toNat /\ c.toNat <= 126 := by
 simp only [Q3, mem_flatMap] at h; obtain ⟨x, _, hx⟩ := h; have hlt := x.toNat_lt; unfold a2W at hx; split at hx
 . rename_i hp
   rw [mem_singleton] at hx; subst hx; simp only [O6, decide_eq_true_eq] at hp; omega
 . simp only [mem_cons, not_mem_nil, or_false] at hx; rcases hx with rfl | rfl | rfl
   . decide
   . exact b2E _ (by omega)
   . exact b2E _ (by omega)
theorem c1F (s : Str) : (10 : UInt8) ∉ Q3 s := fun h => by have := (b2J h).1; revert this; decide
theorem c1m (s : Str) : (32 : UInt8) ∉ Q3 s := fun h => by have := (b2J h).1; revert this; decide
theorem c4j {c : UInt8} {a b : Str} (h : c ∉ a) : ixB (a ++ c :: b) c = List.length a :=
 c0T (by simp) (by simp) (by simpa using h)
theorem b9h {c : UInt8} {a b : Str} (h : c ∉ a) : a0T c (a ++ c :: b) = a :: a0T c b := by
 have e1 : List.take (List.length a) (a ++ c :: b) = a := (by simp); have e2 : List.drop (List.length a + 1) (a ++ c :: b) = b := by rw [<- drop_drop]; simp
 rw [b2c (c4j h), e1, e2]
def D9 (c : UInt8) : List Str -> Str
 | [] => []
 | [p] => p
 | p :: q :: ps => p ++ c :: D9 c (q :: ps)
def b8z {α : Type} (p : α -> Bool) (l : List α) : Prop := ∀ x ∈ l, p x = true
theorem b8z.nil {α : Type} {p : α -> Bool} : b8z p [] := fun _ h => by simp at h
theorem b8z.all {α : Type} {p : α -> Bool} {l : List α} (h : b8z p l) : l.all p = true := all_eq_true.2 h
theorem b0r {c : UInt8} : ∀ {l : List Str}, l ≠ [] -> (∀ p ∈ l, c ∉ p) -> a0T c (D9 c l) = l
 | [], h, _ => absurd rfl h
 | [p], _, h => b6p (h p (by simp))
 | p :: q :: l, _, h => by
   have ih := b0r (l := q :: l) (by simp) (fun x hx => h x (by simp at hx ⊢; right; exact hx)); have e : D9 c (p :: q :: l) = p ++ c :: D9 c (q :: l) := rfl; rw [e, b9h (h p (by simp)), ih]
section
variable {α : Type} (line : Str -> Option α) (chk : List α -> Int)
end
section
variable {α : Type} {line : Str -> Option α} {chk : List α -> Int} {w : α -> Str}
end
abbrev Csn := Int × Int × Int
def A4 (c : Csn) : D := .agg [.int .i64 c.1, .int .i64 c.2.1, .int .i64 c.2.2]
def M9 (c : Csn) : Bool := decide (0 <= c.1) && decide (c.1 <= 1099511627776) && decide (0 <= c.2.1) && decide (c.2.1 <= 4294967295) && decide (0 <= c.2.2) && decide (c.2.2 < 8)
def W1 (a b : Int) : Int := if a < b then -1 else if b < a then 1 else 0
def R4 (a b : Csn) : Int := if a.1 ≠ b.1 then W1 a.1 b.1 else if a.2.1 ≠ b.2.1 then W1 a.2.1 b.2.1 else W1 a.2.2 b.2.2
theorem a3x {a b : Int} : W1 a b = 0 ↔ a = b := by unfold W1; split <;> (try split) <;> omega
theorem a9q {a b : Int} : W1 a b < 0 ↔ a < b := by unfold W1; split <;> (try split) <;> omega
theorem a8p (a b : Int) : W1 b a = - W1 a b := by unfold W1; split <;> (try split) <;> (try split) <;> omega
theorem a1q {a b : Csn} : R4 a b = 0 ↔ a = b := by
 unfold R4; obtain ⟨a1, a2, a3⟩ := a; obtain ⟨b1, b2, b3⟩ := b; simp only [Prod.mk.injEq]; split
 . rw [a3x]; rename_i h; constructor
   . intro e; exact absurd e h
   . intro e; exact e.1
 . rename_i h
   have h : a1 = b1 := (by simpa using h); split
   . rw [a3x]; rename_i h; constructor
     . intro e; exact absurd e h
     . intro e; exact e.2.1
   . rename_i h2
     have h2 : a2 = b2 := (by simpa using h2); rw [a3x]; exact ⟨fun e => ⟨h, h2, e⟩, fun e => e.2.2⟩
theorem c3a {a b : Csn} : R4 a b < 0 ↔ a.1 < b.1 \/ a.1 = b.1 /\ (a.2.1 < b.2.1 \/ a.2.1 = b.2.1 /\ a.2.2 < b.2.2) := by
 unfold R4; split
 . rw [a9q]; omega
 . split
   . rw [a9q]; omega
   . rw [a9q]; omega
theorem b3j (a b : Csn) : R4 b a = - R4 a b := by
 unfold R4; by_cases h1 : a.1 = b.1
 . by_cases h2 : a.2.1 = b.2.1
   . simp only [h1, h2, ne_eq, not_true_eq_false, if_false]; exact a8p _ _
   . have h2' : ¬ b.2.1 = a.2.1 := fun e => h2 e.symm
     simp only [h1, h2, h2', ne_eq, not_true_eq_false, not_false_eq_true, if_false, if_true]; exact a8p _ _
 . have h1' : ¬ b.1 = a.1 := fun e => h1 e.symm
   simp only [h1, h1', ne_eq, not_false_eq_true, if_true]; exact a8p _ _
theorem b8d {a b c : Csn} (h1 : R4 a b < 0) (h2 : R4 b c < 0) : R4 a c < 0 := by
 rw [c3a] at *; omega
abbrev G3 : Str := [48, 49, 50, 51, 52, 53, 54, 55, 56, 57, 97, 98, 99, 100, 101, 102]
def Z6 (n : Nat) : UInt8 := G3.getD n 0
def M7 (n : Nat) : Nat -> Str
 | 0 => []
 | w + 1 => M7 (n / 16) w ++ [Z6 (n % 16)]
theorem W0 (w : Nat) : ∀ n, (M7 n w).length = w := by
 induction w with
 | zero => intro n; rfl
 | succ w ih => intro n; simp [M7, ih]
def R3 (n : Int) : Str -> Int
 | [] => n
 | c :: s => if ixB G3 c < 0 then -1 else R3 (n * 16 + ixB G3 c) s
def a1J (s : Str) : Int := R3 0 s
theorem a5h (n : Int) (hn : 0 <= n) : ∀ (a b : Str), R3 n (a ++ b) = if R3 n a < 0 then -1 else R3 (R3 n a) b := by
 intro a
 induction a generalizing n with
 | nil => intro b; simp [R3]; omega
 | cons c a ih =>
   intro b; simp only [cons_append, R3]; by_cases h : ixB G3 c < 0
   . simp [h]
   . simp only [h, if_false]; exact ih _ (by omega) b
theorem b6R : ∀ n, n < 16 -> ixB G3 (Z6 n) = n := by decide
theorem b1w (w : Nat) : ∀ n, n < 16 ^ w -> a1J (M7 n w) = n := by
 induction w with
 | zero => intro n h; simp at h; subst h; rfl
 | succ w ih =>
   intro n h; have h1 := ih (n / 16) (by rw [Nat.div_lt_iff_lt_mul (by decide)]; rw [Nat.pow_succ] at h; exact h); unfold a1J at h1 ⊢; rw [M7, a5h 0 (Int.le_refl _), h1, if_neg (by omega)]; simp only [R3, b6R (n % 16) (by omega)]; rw [if_neg (by omega)]; omega
theorem a3Z {c : UInt8} (h : ¬ ixB G3 c < 0) : Z6 (ixB G3 c).toNat = c /\ (ixB G3 c).toNat < 16 := by
 have hlt : (ixB G3 c).toNat < G3.length := c5Q (by omega); refine ⟨?_, by simpa using hlt⟩; have h1 : ∀ (s : Str), 0 <= ixB s c -> s.getD (ixB s c).toNat 0 = c := by
   intro s
   induction s with
   | nil => intro h; simp [ixB, Go.Lib.indexByte] at h
   | cons x s ih =>
     intro h; have hge := Go.Lib.indexByte_ge s c; simp only [ixB, Go.Lib.indexByte] at h ih ⊢; by_cases hx : (x == c) = true
     . rw [if_pos hx]; simpa using hx
     . rw [if_neg hx] at h ⊢; by_cases h2 : (Go.Lib.indexByte s c == -1) = true
       . rw [if_pos h2] at h; simp at h
       . rw [if_neg h2] at h ⊢; have h3 : 0 <= Go.Lib.indexByte s c := by
           have : Go.Lib.indexByte s c ≠ -1 := (by simpa using h2); omega
         have h4 : (Go.Lib.indexByte s c + 1).toNat = (Go.Lib.indexByte s c).toNat + 1 := (by omega); rw [h4, getD_cons_succ]; exact ih h3
 exact h1 G3 (by omega)
theorem b4l : ∀ (s : Str) (n : Int), 0 <= n -> R3 n s < (n + 1) * 16 ^ s.length
 | [], n, h => by simp [R3]; omega
 | c :: s, n, h => by
   simp only [R3, length_cons]; split
   . have : (0 : Int) < (n + 1) * 16 ^ (s.length + 1) := Int.mul_pos (by omega) (Int.pow_pos (by decide)); omega
   . rename_i hc
     have h16 := (a3Z hc).2; have ih := b4l s (n * 16 + ixB G3 c) (by omega); have h2 : (n * 16 + ixB G3 c + 1) * 16 ^ s.length <= ((n + 1) * 16) * 16 ^ s.length := Int.mul_le_mul_of_nonneg_right (by omega) (Int.le_of_lt (Int.pow_pos (by decide))); have e : (n + 1) * 16 ^ (s.length + 1) = ((n + 1) * 16) * 16 ^ s.length := by rw [Int.pow_succ, Int.mul_assoc, Int.mul_comm 16]
     rw [e]; omega
theorem b1y : ∀ (w : Nat) (s : Str), s.length = w -> 0 <= a1J s -> M7 (a1J s).toNat w = s := by
 intro w
 induction w with
 | zero => intro s h _; have : s = [] := length_eq_zero_iff.1 h; subst this; rfl
 | succ w ih =>
   intro s h h0; have hsn : s ≠ [] := by rintro rfl; simp at h
   obtain ⟨a, c, rfl⟩ : ∃ a c, s = a ++ [c] := ⟨s.dropLast, s.getLast hsn, (dropLast_concat_getLast hsn).symm⟩; have ha : a.length = w := (by simpa using h); unfold a1J at h0 ih ⊢; rw [a5h 0 (Int.le_refl _)] at h0 ⊢; by_cases h1 : R3 0 a < 0
   . rw [if_pos h1] at h0; omega
   . rw [if_neg h1] at h0 ⊢; simp only [R3] at h0 ⊢; by_cases hc : ixB G3 c < 0
     . rw [if_pos hc] at h0; omega
     . rw [if_neg hc] at h0 ⊢; obtain ⟨e1, e2⟩ := a3Z hc; have i := ih a ha (by omega); rw [M7]; have d1 : (R3 0 a * 16 + ixB G3 c).toNat / 16 = (R3 0 a).toNat := (by omega); have d2 : (R3 0 a * 16 + ixB G3 c).toNat % 16 = (ixB G3 c).toNat := (by omega); rw [d1, d2, e1, i]
def G8 (c : Csn) : Str := if M9 c = true then M7 c.1.toNat 11 ++ 45 :: (M7 c.2.1.toNat 8 ++ 45 :: M7 c.2.2.toNat 1) else []
def a1H (s : Str) : Csn := (a1J (s.take 11), a1J ((s.take 20).drop 12), a1J (s.drop 21))
def J5 (s : Str) : Csn × Int :=
 if s.length ≠ 22 \/ s[11]? ≠ some 45 \/ s[20]? ≠ some 45 then ((0, 0, 0), 4)
 else if (a1H s).1 < 0 \/ (a1H s).2.1 < 0 \/ (a1H s).2.2 < 0 then ((0, 0, 0), 4)
 else if M9 (a1H s) = false then ((0, 0, 0), 27) else (a1H s, 0)
theorem a1L {c : Csn} (h : M9 c = true) : (G8 c).length = 22 := by
 rw [G8, if_pos h]; simp [W0]
theorem a6t {c : Csn} : M9 c = true ↔ 0 <= c.1 /\ c.1 <= 1099511627776 /\ 0 <= c.2.1 /\ c.2.1 <= 4294967295 /\ 0 <= c.2.2 /\ c.2.2 < 8 := by
 simp only [M9, Bool.and_eq_true, decide_eq_true_eq]; omega
theorem b4K {c : Csn} (h : M9 c = true) : J5 (G8 c) = (c, 0) := by
 have hv := a6t.1 h; obtain ⟨t, s, r⟩ := c; simp only at hv; have hl := a1L h; have l1 := W0 11 t.toNat; have l2 := W0 8 s.toNat; have l3 := W0 1 r.toNat; have e : G8 (t, s, r) = M7 t.toNat 11 ++ 45 :: (M7 s.toNat 8 ++ 45 :: M7 r.toNat 1) := by rw [G8, if_pos h]
 have n1 := b1w 11 t.toNat (by have : (16 : Nat) ^ 11 = 17592186044416 := by decide
                               omega)
 have n2 := b1w 8 s.toNat (by have : (16 : Nat) ^ 8 = 4294967296 := by decide
                              omega)
 have n3 := b1w 1 r.toNat (by have : (16 : Nat) ^ 1 = 16 := by decide
                              omega)
 generalize M7 t.toNat 11 = A at *; generalize M7 s.toNat 8 = B at *; generalize M7 r.toNat 1 = C at *; have g1 : (G8 (t, s, r))[11]? = some 45 := by
   rw [e, getElem?_append_right (by omega), l1]; rfl
 have g2 : (G8 (t, s, r))[20]? = some 45 := by
   rw [e, getElem?_append_right (by omega), l1]
   show (B ++ 45 :: C)[8]? = _
   rw [getElem?_append_right (by omega), l2]; rfl
 have t1 : (G8 (t, s, r)).take 11 = A := by rw [e, <- l1, take_left]
 have t2 : ((G8 (t, s, r)).take 20).drop 12 = B := by
   have : G8 (t, s, r) = (A ++ [45]) ++ B ++ (45 :: C) := by rw [e]; simp
   rw [this, take_append_of_le_length (by simp; omega), ttl (by simp; omega)]; have l4 : (A ++ [45]).length = 12 := by simp; omega
   rw [<- l4, drop_left]
 have t3 : (G8 (t, s, r)).drop 21 = C := by
   have : G8 (t, s, r) = (A ++ [45] ++ B ++ [45]) ++ C := by rw [e]; simp
   have l4 : (A ++ [45] ++ B ++ [45]).length = 21 := by simp; omega
   rw [this, <- l4, drop_left]
 have hr : a1H (G8 (t, s, r)) = (t, s, r) := by
   rw [a1H, t1, t2, t3, n1, n2, n3]; simp only [Prod.mk.injEq]; omega
 rw [J5, if_neg (by rw [g1, g2]; simp [hl]), hr, if_neg (by simp only; omega), if_neg (by rw [h]; simp)]
theorem a2B {s : Str} {c : Csn} (h : J5 s = (c, 0)) : G8 c = s /\ M9 c = true := by
 unfold J5 at h; split at h
 . simp at h
 . rename_i h1
   split at h
   . simp at h
   . rename_i h2
     split at h
     . simp at h
     . rename_i h3
       simp only [Prod.mk.injEq, and_true] at h; subst h; have hv : M9 (a1H s) = true := (by simpa using h3); refine ⟨?_, hv⟩; have h1' : s.length = 22 /\ s[11]? = some 45 /\ s[20]? = some 45 := by
         simp only [not_or, Classical.not_not, ne_eq] at h1; exact h1
       obtain ⟨hl, g1, g2⟩ := h1'; simp only [a1H, not_or, Int.not_lt] at h2; rw [G8, if_pos hv]; simp only [a1H]; rw [b1y 11 _ (by simp; omega) h2.1, b1y 8 _ (by simp; omega) h2.2.1, b1y 1 _ (by simp; omega) h2.2.2]; have e1 : s = s.take 11 ++ s.drop 11 := (take_append_drop 11 s).symm; have e2 : s.drop 11 = 45 :: s.drop 12 := by
         rw [drop_eq_getElem_cons (by omega)]; congr 1
         rw [getElem?_eq_getElem (by omega)] at g1; exact Option.some.inj g1
       have e3 : s.drop 12 = (s.take 20).drop 12 ++ s.drop 20 := by
         rw [drop_take, show (20 : Nat) = 12 + 8 from rfl, <- drop_drop, show 12 + 8 - 12 = 8 from rfl, take_append_drop]
       have e4 : s.drop 20 = 45 :: s.drop 21 := by
         rw [drop_eq_getElem_cons (by omega)]; congr 1
         rw [getElem?_eq_getElem (by omega)] at g2; exact Option.some.inj g2
       rw [<- e4, <- e3, <- e2, <- e1]
theorem a3X {c : Csn} {d : UInt8} (hd : d ∉ G3) (h0 : d ≠ 0) (h45 : d ≠ 45) : d ∉ G8 c := by
 have hx : ∀ w n, d ∉ M7 n w := by
   intro w
   induction w with
   | zero => intro n; simp [M7]
   | succ w ih =>
     intro n; rw [M7, mem_append, mem_singleton]; rintro (h | h)
     . exact ih _ h
     . have : Z6 (n % 16) ∈ G3 := by
         have hlt : n % 16 < 16 := Nat.mod_lt _ (by decide); unfold Z6; rw [getD_eq_getElem?_getD, getElem?_eq_getElem (by simpa using hlt)]; exact gmm _
       exact hd (h ▸ this)
 unfold G8; split
 . simp only [mem_append, mem_cons, not_or]; exact ⟨hx _ _, h45, hx _ _, h45, hx _ _⟩
 . simp
theorem b2U (x : Int) : Ctr prog 147 [.d (.int .i64 x)] (.d (.bool false)) := by
 refine fv (fun _ => false) func147 (by kernel_rfl) rfl rfl rfl rfl rfl ?_; simp -implicitDefEqProofs
theorem a8H (x y : Int) : Ctr prog 102 [.d (.int .i64 x), .d (.int .i64 y)] (.d (.int .i64 (W1 x y))) := by
 refine fv (fun _ => false) func102 (by kernel_rfl) rfl rfl rfl rfl rfl ?_; have c1 := b2U x; have c2 := b2U y; unfold W1; by_cases h1 : x < y
 . simp -implicitDefEqProofs; refine A0 c1 ?_; simp -implicitDefEqProofs; refine A0 c2 ?_; simp -implicitDefEqProofs [h1]
 by_cases h2 : y < x
 . simp -implicitDefEqProofs; refine A0 c1 ?_; simp -implicitDefEqProofs; refine A0 c2 ?_; simp -implicitDefEqProofs [h1, h2]
 . simp -implicitDefEqProofs; refine A0 c1 ?_; simp -implicitDefEqProofs; refine A0 c2 ?_; simp -implicitDefEqProofs [h1, h2]
def orI : List Int -> Int
 | [] => 0
 | x :: l => if x ≠ 0 then x else orI l
def a2r (l : List Int) : D := .sl (l.map (.int .i64))
theorem a6x (l : List Int) (hl : l.length < 1000000) : Ctr prog 101 [.d (a2r l)] (.d (.int .i64 (orI l))) := by
 refine fv (fun _ => false) func101 (by kernel_rfl) rfl rfl rfl rfl rfl ?_; obtain ⟨R, hR⟩ : ∃ R, orI l = R := ⟨_, rfl⟩; rw [hR]; simp -implicitDefEqProofs [a2r]; refine F3 l.length (fun k τ => τ 6 = .d (a2r l) /\ τ 7 = .d (.int .i64 l.length) /\ τ 8 = .d (.int .i64 k) /\ τ 3 = .d (.int .i64 0) /\ orI (l.drop k) = R) ⟨by simp [a2r], by simp, by simp, by simp, by simpa using hR⟩ ?_; rintro k τ hk ⟨h6, h7, h8, h3, hI⟩; by_cases hlt : k < l.length
 . have hlt' : (k : Int) < l.length := (by omega); rw [drop_eq_getElem_cons hlt, orI] at hI; generalize hx : l[k] = x at *; by_cases h0 : x = 0
   . rw [if_neg (by simpa using h0)] at hI; simp -implicitDefEqProofs [h6, h7, h8, h3, a2r, hlt, hlt', hx, h0]; (repeat refine ai (by omega) ?_); exact B8 hlt ⟨by simp [h6, a2r], by simp [h7], by simp, by simp [h3], hI⟩
   . rw [if_pos h0] at hI; rw [hI] at hx h0; simp -implicitDefEqProofs [h6, h7, h8, h3, a2r, hlt, hlt', hx, h0]
 . have hlt' : ¬ (k : Int) < l.length := (by omega); rw [drop_eq_nil_of_le (by omega), orI] at hI; subst hI; simp -implicitDefEqProofs [h6, h7, h8, h3, hlt']
theorem a7m (c : Csn) : Ctr prog 52 [.d (A4 c)] (.d (.bool (M9 c))) := by
 refine fv (fun _ => false) func52 (by kernel_rfl) rfl rfl rfl rfl rfl ?_; obtain ⟨t, s, r⟩ := c; unfold M9; by_cases h1 : 0 <= t <;> by_cases h2 : t <= 1099511627776 <;> by_cases h3 : 0 <= s <;> by_cases h4 : s <= 4294967295 <;> by_cases h5 : 0 <= r <;> by_cases h6 : r < 8 <;> simp -implicitDefEqProofs [A4, h1, h2, h3, h4, h5, h6]
theorem a6b (c : Csn) : Ctr prog 82 [.d (A4 c)] (.d (.bool (M9 c))) := by
 refine fv (fun _ => false) func82 (by kernel_rfl) rfl rfl rfl rfl rfl ?_; obtain ⟨t, s, r⟩ := c; unfold M9; by_cases h1 : 0 <= t <;> by_cases h2 : t <= 1099511627776 <;> by_cases h3 : 0 <= s <;> by_cases h4 : s <= 4294967295 <;> by_cases h5 : 0 <= r <;> by_cases h6 : r < 8 <;> simp -implicitDefEqProofs [A4, h1, h2, h3, h4, h5, h6]
theorem a9D (x y : Int) : Ctr prog 214 [.d (.int .i64 x), .d (.int .i64 y)] (.d (.int .i64 (W1 x y))) := by
 refine fv (fun _ => false) func214 (by kernel_rfl) rfl rfl rfl rfl rfl ?_; unfold W1; by_cases h1 : x < y
 . simp -implicitDefEqProofs [h1]
 by_cases h2 : y < x
 . simp -implicitDefEqProofs [h1, h2]
 . simp -implicitDefEqProofs [h1, h2]
theorem c2I (a b : Csn) : Ctr prog 185 [.d (A4 a), .d (A4 b)] (.d (.int .i64 (R4 a b))) := by
 refine fv (fun _ => false) func185 (by kernel_rfl) rfl rfl rfl rfl rfl ?_; obtain ⟨a1, a2, a3⟩ := a; obtain ⟨b1, b2, b3⟩ := b; unfold R4; simp only; have c1 := a9D a1 b1; have c2 := a9D a2 b2; have c3 := a9D a3 b3; by_cases h1 : a1 = b1
 case neg =>
   rw [if_pos h1]; simp -implicitDefEqProofs [A4, h1]; refine A0 c1 ?_; simp -implicitDefEqProofs
 rw [if_neg (by simpa using h1)]; by_cases h2 : a2 = b2
 case neg =>
   rw [if_pos h2]; simp -implicitDefEqProofs [A4, h1, h2]; refine A0 c2 ?_; simp -implicitDefEqProofs
 rw [if_neg (by simpa using h2)]; simp -implicitDefEqProofs [A4, h1, h2]; refine A0 c3 ?_; simp -implicitDefEqProofs
theorem c5a (a b : Csn) : orI [W1 a.1 b.1, W1 a.2.1 b.2.1, W1 a.2.2 b.2.2] = R4 a b := by
 simp only [orI, R4, ne_eq, a3x]; by_cases h3 : a.2.2 = b.2.2
 . have := a3x.2 h3; simp [h3]; split <;> (try split) <;> first | rfl | (rw [h3] at this; exact this.symm)
 . simp [h3]
theorem c4H (a b : Csn) : Ctr prog 51 [.d (A4 a), .d (A4 b)] (.d (.int .i64 (R4 a b))) := by
 refine fv (fun _ => false) func51 (by kernel_rfl) rfl rfl rfl rfl rfl ?_; have hor := c5a a b; have hz := a1q (a := a) (b := b); obtain ⟨a1, a2, a3⟩ := a; obtain ⟨b1, b2, b3⟩ := b; have c1 := a8H a1 b1; have c2 := a8H a2 b2; have c3 := a8H a3 b3; have c4 := a6x [W1 a1 b1, W1 a2 b2, W1 a3 b3] (by simp); simp only at hor; rw [hor] at c4; simp only [a2r, map_cons, map_nil] at c4; by_cases h : ((a1, a2, a3) : Csn) = (b1, b2, b3)
 . have h0 := hz.2 h; rw [h0]; simp only [Prod.mk.injEq] at h; simp -implicitDefEqProofs [A4, O5, h]; try decide
 . generalize R4 (a1, a2, a3) (b1, b2, b3) = R at *; have hne : (decide (a1 = b1) && (decide (a2 = b2) && decide (a3 = b3))) = false := by
     simp only [Prod.mk.injEq] at h; simp only [Bool.and_eq_false_iff, decide_eq_false_iff_not]; omega
   simp -implicitDefEqProofs [A4, O5, hne]; refine B6 c1 ?_; simp -implicitDefEqProofs; refine B6 c2 ?_; simp -implicitDefEqProofs; refine B6 c3 ?_; simp -implicitDefEqProofs; refine ⟨by decide, B6 c4 ?_⟩; simp -implicitDefEqProofs
theorem a7Y : ∀ (k n : Nat), M7 n (k + 1) = Z6 (n / 16 ^ k % 16) :: M7 n k
 | 0, n => by simp [M7]
 | k + 1, n => by
   rw [M7, a7Y k (n / 16), M7]; simp [Nat.div_div_eq_div_mul, Nat.pow_succ, Nat.mul_comm]
def a1m (n w k : Nat) : List D := replicate (w - k) (.int .u8 0) ++ B5 (M7 n k)
theorem b7H {n w k : Nat} (h : k < w) : (a1m n w k).set (w - 1 - k) (.int .u8 (Z6 (n / 16 ^ k % 16)).toNat) = a1m n w (k + 1) := by
 unfold a1m; obtain ⟨m, hm⟩ : ∃ m, w - k = m + 1 := ⟨w - k - 1, by omega⟩; have e1 : w - 1 - k = m := (by omega); have e2 : w - (k + 1) = m := (by omega); rw [hm, e1, e2, a7Y, replicate_succ', append_assoc]; rw [set_append_right _ _ (by simp)]; simp [B5]
theorem b8r {n w k : Nat} (h : k <= w) : (a1m n w k).length = w := by
 simp [a1m, B5, W0]; omega
theorem b8o {n w k : Nat} (h : k < w) : (a1m n w k)[w - 1 - k]? = some (.int .u8 0) := by
 unfold a1m; rw [getElem?_append_left (by simp; omega), getElem?_replicate, if_pos (by omega)]
theorem b9n (x : Nat) : G3[x % 16]? = some (Z6 (x % 16)) := by
 have hlt : x % 16 < 16 := Nat.mod_lt _ (by decide); unfold Z6; rw [getD_eq_getElem?_getD, getElem?_eq_getElem (by simpa using hlt)]; rfl
theorem b5g (n w : Nat) (hw : w <= 15) (hn : n < 4611686018427387904) : Ctr prog 80 [.d (.int .i64 n), .d (.int .i64 w)] (.d (.str (M7 n w))) := by
 refine fv (fun i => i == 8 || i == 5) func80 (by kernel_rfl) rfl rfl rfl rfl rfl ?_; simp -implicitDefEqProofs; (repeat refine ai (by omega) ?_); refine F3 w (fun k τ => τ 0 = .d (.int .i64 n) /\ τ 1 = .d (.int .i64 w) /\ τ 10 = .d (.int .i64 w) /\ τ 11 = .d (.int .i64 k) /\ τ 5 = .own true 5 (a1m n w k)) ⟨by simp, by simp, by simp, by simp, by simp [a1m, M7, B5]⟩ ?_; rintro k τ hk ⟨h0, h1, h10, h11, h5⟩; have hlen := b8r (n := n) hk; by_cases hlt : k < w
 . have hlt' : (k : Int) < w := (by omega); have hset := b7H (n := n) hlt; have hg0 := b8o (n := n) hlt; have hsh : (n : Int) / 2 ^ (4 * (k : Int)).toNat = ((n / 16 ^ k : Nat) : Int) := by
     rw [show (4 * (k : Int)).toNat = 4 * k by omega, Nat.pow_mul 2 4 k |> fun e => show (2 : Int) ^ (4 * k) = ((16 ^ k : Nat) : Int) by rw [show (16 : Nat) ^ k = 2 ^ (4 * k) by rw [e]]; simp]; simp
   have hle : n / 16 ^ k <= n := Nat.div_le_self _ _; have hand : (n / 16 ^ k) &&& 15 = n / 16 ^ k % 16 := Nat.and_two_pow_sub_one_eq_mod _ 4; have hget := b9n (n / 16 ^ k); have hix : ((w : Int) - 1 - k).toNat = w - 1 - k := (by omega); generalize n / 16 ^ k = X at *; simp only [G3] at hget; have hmod : ((X : Int) % 16).toNat = X % 16 := (by omega); simp -implicitDefEqProofs [h0, h1, h10, h11, h5, hlt, hlt', hsh, hand, hmod, hget]; (repeat refine ai (by omega) ?_); simp -implicitDefEqProofs [h0, h1, h10, h11, h5, hlt, hlt', hlen, hix, hset, hmod, hget, hg0]; (repeat refine ai (by omega) ?_); exact B8 hlt ⟨by simp [h0], by simp [h1], by simp [h10], by simp, by simp [hset]⟩
 . have hlt' : ¬ (k : Int) < w := (by omega); obtain rfl : k = w := by omega
   have hrow : a1m n k k = B5 (M7 n k) := (by simp [a1m]); rw [hrow] at h5; simp -implicitDefEqProofs [h0, h1, h10, h11, h5]
theorem b5S (c : UInt8) : K0 [D.int .u8 c.toNat] = some [c] := b1E [c]
theorem b1P (n w : Nat) (hw : w <= 15) (hn : n < 4611686018427387904) : Ctr prog 243 [.d (.int .i64 n), .d (.int .i64 w)] (.d (.str (M7 n w))) := by
 refine fv (fun _ => false) func243 (by kernel_rfl) rfl rfl rfl rfl rfl ?_; simp -implicitDefEqProofs; refine F3 w (fun k τ => τ 0 = .d (.int .i64 ((n / 16 ^ k : Nat) : Int)) /\ τ 1 = .d (.int .i64 w) /\ τ 6 = .d (.int .i64 k) /\ τ 5 = .d (.str (M7 n k))) ⟨by simp, by simp, by simp, by simp [M7]⟩ ?_; rintro k τ hk ⟨h0, h1, h6, h5⟩; by_cases hlt : k < w
 . have hlt' : (k : Int) < w := (by omega); have hle : n / 16 ^ k <= n := Nat.div_le_self _ _; have hget := b9n (n / 16 ^ k); have hc := a7Y k n; have hl := W0 k n; have hd : n / 16 ^ (k + 1) = n / 16 ^ k / 16 := by rw [Nat.div_div_eq_div_mul, Nat.pow_succ]
   have hY0 : (n : Int) / 16 ^ (k + 1) = ((n / 16 ^ (k + 1) : Nat) : Int) := (by simp); generalize n / 16 ^ (k + 1) = Y at *; generalize n / 16 ^ k = X at *; simp only [G3] at hget; have hmod : ((X : Int) % 16).toNat = X % 16 := (by omega); have hdiv : (X : Int) / 16 = (Y : Int) := (by omega); simp -implicitDefEqProofs [h0, h1, h6, h5, hlt, hlt', hmod, hget, hdiv, b5S]; (repeat refine ai (by omega) ?_); exact B8 hlt ⟨by simp [hY0], by simp [h1], by simp, by simp [hc]⟩
 . have hlt' : ¬ (k : Int) < w := (by omega); obtain rfl : k = w := by omega
   simp -implicitDefEqProofs [h0, h1, h6, h5]
theorem c0E {n : Int} {a b : Str} (hn : 0 <= n) (h : R3 n a < 0) : R3 n (a ++ b) = -1 := by rw [a5h n hn, if_pos h]
def Z4 (s : Str) (k : Nat) : Int := R3 0 (s.take k)
theorem a8a {s : Str} {k : Nat} (hk : k < s.length) (h0 : 0 <= Z4 s k) : Z4 s (k + 1) = if ixB G3 s[k] < 0 then -1 else Z4 s k * 16 + ixB G3 s[k] := by
 unfold Z4 at *; rw [take_add_one, getElem?_eq_getElem hk, Option.toList_some, a5h 0 (Int.le_refl _), if_neg (by omega)]; simp only [R3]
theorem b4T {s : Str} {k : Nat} (hk : k < s.length) (h0 : 0 <= Z4 s k) (h : ixB G3 s[k] < 0) : a1J s = -1 := by
 have e : s = s.take (k + 1) ++ s.drop (k + 1) := (take_append_drop _ _).symm; have h1 := a8a hk h0; rw [if_pos h] at h1; unfold Z4 at h1; unfold a1J; rw [e]; exact c0E (Int.le_refl _) (by omega)
theorem b7g {s : Str} {k : Nat} (hs : s.length <= 12) : Z4 s k < 281474976710656 := by
 have h1 := b4l (s.take k) 0 (Int.le_refl _); have h2 : (s.take k).length <= 12 := by simp; omega
 have h3 : (16 : Int) ^ (s.take k).length <= 16 ^ 12 := by
   have : (16 : Nat) ^ (s.take k).length <= 16 ^ 12 := Nat.pow_le_pow_right (by decide) h2
   exact_mod_cast this
 have h4 : (16 : Int) ^ 12 = 281474976710656 := (by decide); unfold Z4; omega
theorem d0X {n d : Nat} (hd : d < 16) : n * 16 ||| d = n * 16 + d := by
 have := Nat.two_pow_add_eq_or_of_lt (i := 4) (b := d) (by simpa using hd) n; have e : (2 : Nat) ^ 4 * n = n * 16 := (by omega); rw [e] at this; exact this.symm
theorem a8y (s : Str) (hs : s.length <= 12) : Ctr prog 103 [.d (.str s)] (.d (.int .i64 (a1J s))) := by
 refine fv (fun _ => false) func103 (by kernel_rfl) rfl rfl rfl rfl rfl ?_; obtain ⟨R, hR⟩ : ∃ R, a1J s = R := ⟨_, rfl⟩; rw [hR]; simp -implicitDefEqProofs; (repeat refine ai (by omega) ?_); refine F3 s.length (fun k τ => τ 0 = .d (.str s) /\ τ 7 = .d (.int .i64 s.length) /\ τ 8 = .d (.int .i64 k) /\ τ 3 = .d (.int .i64 (Z4 s k)) /\ 0 <= Z4 s k) ⟨by simp, by simp, by simp, by simp [Z4, R3], by simp [Z4, R3]⟩ ?_; rintro k τ hk ⟨h0, h7, h8, h3, hI⟩; by_cases hlt : k < s.length
 . have hlt' : (k : Int) < s.length := (by omega); have hb := b4T hlt hI; have hs1 := a8a hlt hI; have hlt9 := b7g (k := k) hs; have c1 := a7T G3 s[k]; have hix : ¬ ixB G3 s[k] < 0 -> (ixB G3 s[k]).toNat < 16 := fun h => (a3Z h).2
   generalize hN : Z4 s k = N at *; generalize hc : s[k] = c at *; generalize hX : ixB G3 c = X at *; simp only [G3] at c1; by_cases hn : X < 0
   . rw [hb hn] at hR; subst hR; simp -implicitDefEqProofs [h0, h7, h8, h3, hlt, hlt', hc]; (repeat refine ai (by omega) ?_); refine A0 c1 ?_; simp -implicitDefEqProofs [hn]
   . have hx16 := hix hn; rw [if_neg hn] at hs1; have hor : ((N * 16).toNat ||| X.toNat) = (N * 16 + X).toNat := by
       have := d0X (n := N.toNat) hx16; rw [show (N * 16).toNat = N.toNat * 16 by omega, this]; omega
     have hor' : (((N * 16 + X).toNat : Nat) : Int) = N * 16 + X := (by omega); simp -implicitDefEqProofs [h0, h7, h8, h3, hlt, hlt', hc]; (repeat refine ai (by omega) ?_); refine A0 c1 ?_; simp -implicitDefEqProofs [hn, h0, h7, h8, h3]; (repeat refine ai (by omega) ?_); refine B8 hlt ⟨by simp [h0], by simp [h7], by simp, ?_, ?_⟩
     . simp [hs1, hor, hor']; try omega
     . omega
 . have hlt' : ¬ (k : Int) < s.length := (by omega); have he : Z4 s k = R := by
     rw [<- hR]; unfold Z4 a1J; rw [ttl (by omega)]
   rw [he] at h3; simp -implicitDefEqProofs [h0, h7, h8, h3, hlt, hlt']
end Go.Proofs.Tz