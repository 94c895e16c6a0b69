/-
  What the functions that the statements about layer 14 (access) reach compute, part 1 of 3: contracts and plain laws, for lists and strings of bounded size (each theorem states its bound).
-/
import Derived.Test.YtlekjboiacnjhaaGreatDoorWm
import Derived.Test.YtlekjboiacnjhaaGreatDoorProg
import Derived.KernelRfl
import Derived.WalkKit
import Derived.Lib.Builder
import Derived.Lib.UnsafeStr
import Derived.Laws.Externs
import Derived.RegionTactic
import Derived.Lib.Bytealg
import Derived.Lib.Join

set_option linter.unusedSimpArgs false
set_option linter.unusedVariables false

/- Facts on the types of this translation, as rewrite rules of the abstract walk. -/
namespace Go.Proofs
open Go.Vw
@[simp] theorem Tryz.ez_1 : esz Tryz.prog 1 = some (1, 8) := by kernel_rfl
@[simp] theorem Tryz.sz_1 : szOf Tryz.prog 1 = some 1 := by kernel_rfl
@[simp] theorem Tryz.tk_1 : tyk Tryz.prog 1 = some (false, 1) := by kernel_rfl
@[simp] theorem Tryz.zd_1 : zeroD Tryz.prog 1 = some (.raw .nilFunc) := by kernel_rfl
@[simp] theorem Tryz.u_2 : Program.underlying Tryz.prog 2 = some (.int .i64) := by kernel_rfl
@[simp] theorem Tryz.se_2 : sliceE Tryz.prog 2 = none := by kernel_rfl
@[simp] theorem Tryz.ez_2 : esz Tryz.prog 2 = some (1, 8) := by kernel_rfl
@[simp] theorem Tryz.sz_2 : szOf Tryz.prog 2 = some 1 := by kernel_rfl
@[simp] theorem Tryz.tk_2 : tyk Tryz.prog 2 = some (false, 1) := by kernel_rfl
@[simp] theorem Tryz.zd_2 : zeroD Tryz.prog 2 = some (.int .i64 0) := by kernel_rfl
@[simp] theorem Tryz.u_3 : Program.underlying Tryz.prog 3 = some (.int .i64) := by kernel_rfl
@[simp] theorem Tryz.se_3 : sliceE Tryz.prog 3 = none := by kernel_rfl
@[simp] theorem Tryz.ez_3 : esz Tryz.prog 3 = some (1, 8) := by kernel_rfl
@[simp] theorem Tryz.sz_3 : szOf Tryz.prog 3 = some 1 := by kernel_rfl
@[simp] theorem Tryz.tk_3 : tyk Tryz.prog 3 = some (false, 1) := by kernel_rfl
@[simp] theorem Tryz.zd_3 : zeroD Tryz.prog 3 = some (.int .i64 0) := by kernel_rfl
@[simp] theorem Tryz.u_4 : Program.underlying Tryz.prog 4 = some .bool := by kernel_rfl
@[simp] theorem Tryz.se_4 : sliceE Tryz.prog 4 = none := by kernel_rfl
@[simp] theorem Tryz.ez_4 : esz Tryz.prog 4 = some (1, 1) := by kernel_rfl
@[simp] theorem Tryz.sz_4 : szOf Tryz.prog 4 = some 1 := by kernel_rfl
@[simp] theorem Tryz.tk_4 : tyk Tryz.prog 4 = some (false, 1) := by kernel_rfl
@[simp] theorem Tryz.zd_4 : zeroD Tryz.prog 4 = some (.bool false) := by kernel_rfl
@[simp] theorem Tryz.u_5 : Program.underlying Tryz.prog 5 = some (.int .u8) := by kernel_rfl
@[simp] theorem Tryz.se_5 : sliceE Tryz.prog 5 = none := by kernel_rfl
@[simp] theorem Tryz.ez_5 : esz Tryz.prog 5 = some (1, 1) := by kernel_rfl
@[simp] theorem Tryz.sz_5 : szOf Tryz.prog 5 = some 1 := by kernel_rfl
@[simp] theorem Tryz.tk_5 : tyk Tryz.prog 5 = some (false, 1) := by kernel_rfl
@[simp] theorem Tryz.zd_5 : zeroD Tryz.prog 5 = some (.int .u8 0) := by kernel_rfl
@[simp] theorem Tryz.u_9 : Program.underlying Tryz.prog 9 = some .string := by kernel_rfl
@[simp] theorem Tryz.se_9 : sliceE Tryz.prog 9 = none := by kernel_rfl
@[simp] theorem Tryz.ez_9 : esz Tryz.prog 9 = some (1, 16) := by kernel_rfl
@[simp] theorem Tryz.sz_9 : szOf Tryz.prog 9 = some 1 := by kernel_rfl
@[simp] theorem Tryz.tk_9 : tyk Tryz.prog 9 = some (false, 1) := by kernel_rfl
@[simp] theorem Tryz.zd_9 : zeroD Tryz.prog 9 = some (.str []) := by kernel_rfl
@[simp] theorem Tryz.u_12 : Program.underlying Tryz.prog 12 = some (.int .u64) := by kernel_rfl
@[simp] theorem Tryz.se_12 : sliceE Tryz.prog 12 = none := by kernel_rfl
@[simp] theorem Tryz.ez_12 : esz Tryz.prog 12 = some (1, 8) := by kernel_rfl
@[simp] theorem Tryz.sz_12 : szOf Tryz.prog 12 = some 1 := by kernel_rfl
@[simp] theorem Tryz.tk_12 : tyk Tryz.prog 12 = some (false, 1) := by kernel_rfl
@[simp] theorem Tryz.zd_12 : zeroD Tryz.prog 12 = some (.int .u64 0) := by kernel_rfl
@[simp] theorem Tryz.ez_13 : esz Tryz.prog 13 = some (2, 24) := by kernel_rfl
@[simp] theorem Tryz.sz_13 : szOf Tryz.prog 13 = some 2 := by kernel_rfl
@[simp] theorem Tryz.tk_13 : tyk Tryz.prog 13 = some (true, 2) := by kernel_rfl
@[simp] theorem Tryz.zd_13 : zeroD Tryz.prog 13 = some (.agg [.str [], .int .u64 0]) := by kernel_rfl
@[simp] theorem Tryz.sd_13 : structD Tryz.prog 13 = some [.str [], .int .u64 0] := by kernel_rfl
@[simp] theorem Tryz.fo_13_0 : fieldOff Tryz.prog 13 0 = some 0 := by kernel_rfl
@[simp] theorem Tryz.fo_13_1 : fieldOff Tryz.prog 13 1 = some 1 := by kernel_rfl
@[simp] theorem Tryz.u_21 : Program.underlying Tryz.prog 21 = some (.int .i32) := by kernel_rfl
@[simp] theorem Tryz.se_21 : sliceE Tryz.prog 21 = none := by kernel_rfl
@[simp] theorem Tryz.ez_21 : esz Tryz.prog 21 = some (1, 4) := by kernel_rfl
@[simp] theorem Tryz.sz_21 : szOf Tryz.prog 21 = some 1 := by kernel_rfl
@[simp] theorem Tryz.tk_21 : tyk Tryz.prog 21 = some (false, 1) := by kernel_rfl
@[simp] theorem Tryz.zd_21 : zeroD Tryz.prog 21 = some (.int .i32 0) := by kernel_rfl
@[simp] theorem Tryz.u_22 : Program.underlying Tryz.prog 22 = some (.slice 58) := by kernel_rfl
@[simp] theorem Tryz.se_22 : sliceE Tryz.prog 22 = some 58 := by kernel_rfl
@[simp] theorem Tryz.ez_22 : esz Tryz.prog 22 = some (1, 24) := by kernel_rfl
@[simp] theorem Tryz.sz_22 : szOf Tryz.prog 22 = some 1 := by kernel_rfl
@[simp] theorem Tryz.tk_22 : tyk Tryz.prog 22 = some (false, 1) := by kernel_rfl
@[simp] theorem Tryz.zd_22 : zeroD Tryz.prog 22 = some (.sl []) := by kernel_rfl
@[simp] theorem Tryz.ez_23 : esz Tryz.prog 23 = some (1, 8) := by kernel_rfl
@[simp] theorem Tryz.sz_23 : szOf Tryz.prog 23 = some 1 := by kernel_rfl
@[simp] theorem Tryz.tk_23 : tyk Tryz.prog 23 = some (false, 1) := by kernel_rfl
@[simp] theorem Tryz.zd_23 : zeroD Tryz.prog 23 = some (.raw .nilFunc) := by kernel_rfl
@[simp] theorem Tryz.ez_24 : esz Tryz.prog 24 = some (1, 8) := by kernel_rfl
@[simp] theorem Tryz.sz_24 : szOf Tryz.prog 24 = some 1 := by kernel_rfl
@[simp] theorem Tryz.tk_24 : tyk Tryz.prog 24 = some (false, 1) := by kernel_rfl
@[simp] theorem Tryz.zd_24 : zeroD Tryz.prog 24 = some (.raw .nilFunc) := by kernel_rfl
@[simp] theorem Tryz.u_25 : Program.underlying Tryz.prog 25 = some (.int .i64) := by kernel_rfl
@[simp] theorem Tryz.se_25 : sliceE Tryz.prog 25 = none := by kernel_rfl
@[simp] theorem Tryz.ez_25 : esz Tryz.prog 25 = some (1, 8) := by kernel_rfl
@[simp] theorem Tryz.sz_25 : szOf Tryz.prog 25 = some 1 := by kernel_rfl
@[simp] theorem Tryz.tk_25 : tyk Tryz.prog 25 = some (false, 1) := by kernel_rfl
@[simp] theorem Tryz.zd_25 : zeroD Tryz.prog 25 = some (.int .i64 0) := by kernel_rfl
@[simp] theorem Tryz.ez_27 : esz Tryz.prog 27 = some (1, 8) := by kernel_rfl
@[simp] theorem Tryz.sz_27 : szOf Tryz.prog 27 = some 1 := by kernel_rfl
@[simp] theorem Tryz.tk_27 : tyk Tryz.prog 27 = some (false, 1) := by kernel_rfl
@[simp] theorem Tryz.zd_27 : zeroD Tryz.prog 27 = some (.raw .nilFunc) := by kernel_rfl
@[simp] theorem Tryz.ez_29 : esz Tryz.prog 29 = some (1, 8) := by kernel_rfl
@[simp] theorem Tryz.sz_29 : szOf Tryz.prog 29 = some 1 := by kernel_rfl
@[simp] theorem Tryz.tk_29 : tyk Tryz.prog 29 = some (false, 1) := by kernel_rfl
@[simp] theorem Tryz.zd_29 : zeroD Tryz.prog 29 = some (.raw .nilFunc) := by kernel_rfl
@[simp] theorem Tryz.ez_30 : esz Tryz.prog 30 = some (1, 8) := by kernel_rfl
@[simp] theorem Tryz.sz_30 : szOf Tryz.prog 30 = some 1 := by kernel_rfl
@[simp] theorem Tryz.tk_30 : tyk Tryz.prog 30 = some (false, 1) := by kernel_rfl
@[simp] theorem Tryz.zd_30 : zeroD Tryz.prog 30 = some (.raw .nilFunc) := by kernel_rfl
@[simp] theorem Tryz.ez_31 : esz Tryz.prog 31 = some (1, 8) := by kernel_rfl
@[simp] theorem Tryz.sz_31 : szOf Tryz.prog 31 = some 1 := by kernel_rfl
@[simp] theorem Tryz.tk_31 : tyk Tryz.prog 31 = some (false, 1) := by kernel_rfl
@[simp] theorem Tryz.zd_31 : zeroD Tryz.prog 31 = some (.raw .nilFunc) := by kernel_rfl
@[simp] theorem Tryz.ez_32 : esz Tryz.prog 32 = some (1, 8) := by kernel_rfl
@[simp] theorem Tryz.sz_32 : szOf Tryz.prog 32 = some 1 := by kernel_rfl
@[simp] theorem Tryz.tk_32 : tyk Tryz.prog 32 = some (false, 1) := by kernel_rfl
@[simp] theorem Tryz.zd_32 : zeroD Tryz.prog 32 = some (.raw .nilFunc) := by kernel_rfl
@[simp] theorem Tryz.u_33 : Program.underlying Tryz.prog 33 = some (.slice 9) := by kernel_rfl
@[simp] theorem Tryz.se_33 : sliceE Tryz.prog 33 = some 9 := by kernel_rfl
@[simp] theorem Tryz.ez_33 : esz Tryz.prog 33 = some (1, 24) := by kernel_rfl
@[simp] theorem Tryz.sz_33 : szOf Tryz.prog 33 = some 1 := by kernel_rfl
@[simp] theorem Tryz.tk_33 : tyk Tryz.prog 33 = some (false, 1) := by kernel_rfl
@[simp] theorem Tryz.zd_33 : zeroD Tryz.prog 33 = some (.sl []) := by kernel_rfl
@[simp] theorem Tryz.ez_34 : esz Tryz.prog 34 = some (2, 40) := by kernel_rfl
@[simp] theorem Tryz.sz_34 : szOf Tryz.prog 34 = some 2 := by kernel_rfl
@[simp] theorem Tryz.tk_34 : tyk Tryz.prog 34 = some (true, 2) := by kernel_rfl
@[simp] theorem Tryz.zd_34 : zeroD Tryz.prog 34 = some (.agg [.str [], .sl []]) := by kernel_rfl
@[simp] theorem Tryz.sd_34 : structD Tryz.prog 34 = some [.str [], .sl []] := by kernel_rfl
@[simp] theorem Tryz.fo_34_0 : fieldOff Tryz.prog 34 0 = some 0 := by kernel_rfl
@[simp] theorem Tryz.fo_34_1 : fieldOff Tryz.prog 34 1 = some 1 := by kernel_rfl
@[simp] theorem Tryz.ez_35 : esz Tryz.prog 35 = some (2, 40) := by kernel_rfl
@[simp] theorem Tryz.sz_35 : szOf Tryz.prog 35 = some 2 := by kernel_rfl
@[simp] theorem Tryz.tk_35 : tyk Tryz.prog 35 = some (true, 2) := by kernel_rfl
@[simp] theorem Tryz.zd_35 : zeroD Tryz.prog 35 = some (.agg [.str [], .sl []]) := by kernel_rfl
@[simp] theorem Tryz.sd_35 : structD Tryz.prog 35 = some [.str [], .sl []] := by kernel_rfl
@[simp] theorem Tryz.fo_35_0 : fieldOff Tryz.prog 35 0 = some 0 := by kernel_rfl
@[simp] theorem Tryz.fo_35_1 : fieldOff Tryz.prog 35 1 = some 1 := by kernel_rfl
@[simp] theorem Tryz.u_36 : Program.underlying Tryz.prog 36 = some (.slice 46) := by kernel_rfl
@[simp] theorem Tryz.se_36 : sliceE Tryz.prog 36 = some 46 := by kernel_rfl
@[simp] theorem Tryz.ez_36 : esz Tryz.prog 36 = some (1, 24) := by kernel_rfl
@[simp] theorem Tryz.sz_36 : szOf Tryz.prog 36 = some 1 := by kernel_rfl
@[simp] theorem Tryz.tk_36 : tyk Tryz.prog 36 = some (false, 1) := by kernel_rfl
@[simp] theorem Tryz.zd_36 : zeroD Tryz.prog 36 = some (.sl []) := by kernel_rfl
@[simp] theorem Tryz.ez_37 : esz Tryz.prog 37 = some (2, 40) := by kernel_rfl
@[simp] theorem Tryz.sz_37 : szOf Tryz.prog 37 = some 2 := by kernel_rfl
@[simp] theorem Tryz.tk_37 : tyk Tryz.prog 37 = some (true, 2) := by kernel_rfl
@[simp] theorem Tryz.zd_37 : zeroD Tryz.prog 37 = some (.agg [.str [], .sl []]) := by kernel_rfl
@[simp] theorem Tryz.sd_37 : structD Tryz.prog 37 = some [.str [], .sl []] := by kernel_rfl
@[simp] theorem Tryz.fo_37_0 : fieldOff Tryz.prog 37 0 = some 0 := by kernel_rfl
@[simp] theorem Tryz.fo_37_1 : fieldOff Tryz.prog 37 1 = some 1 := by kernel_rfl
@[simp] theorem Tryz.ez_38 : esz Tryz.prog 38 = some (2, 40) := by kernel_rfl
@[simp] theorem Tryz.sz_38 : szOf Tryz.prog 38 = some 2 := by kernel_rfl
@[simp] theorem Tryz.tk_38 : tyk Tryz.prog 38 = some (true, 2) := by kernel_rfl
@[simp] theorem Tryz.zd_38 : zeroD Tryz.prog 38 = some (.agg [.str [], .sl []]) := by kernel_rfl
@[simp] theorem Tryz.sd_38 : structD Tryz.prog 38 = some [.str [], .sl []] := by kernel_rfl
@[simp] theorem Tryz.fo_38_0 : fieldOff Tryz.prog 38 0 = some 0 := by kernel_rfl
@[simp] theorem Tryz.fo_38_1 : fieldOff Tryz.prog 38 1 = some 1 := by kernel_rfl
@[simp] theorem Tryz.ez_39 : esz Tryz.prog 39 = some (1, 8) := by kernel_rfl
@[simp] theorem Tryz.sz_39 : szOf Tryz.prog 39 = some 1 := by kernel_rfl
@[simp] theorem Tryz.tk_39 : tyk Tryz.prog 39 = some (false, 1) := by kernel_rfl
@[simp] theorem Tryz.zd_39 : zeroD Tryz.prog 39 = some (.raw .nilFunc) := by kernel_rfl
@[simp] theorem Tryz.ez_40 : esz Tryz.prog 40 = some (1, 8) := by kernel_rfl
@[simp] theorem Tryz.sz_40 : szOf Tryz.prog 40 = some 1 := by kernel_rfl
@[simp] theorem Tryz.tk_40 : tyk Tryz.prog 40 = some (false, 1) := by kernel_rfl
@[simp] theorem Tryz.zd_40 : zeroD Tryz.prog 40 = some (.raw .nilFunc) := by kernel_rfl
@[simp] theorem Tryz.ez_42 : esz Tryz.prog 42 = some (1, 8) := by kernel_rfl
@[simp] theorem Tryz.sz_42 : szOf Tryz.prog 42 = some 1 := by kernel_rfl
@[simp] theorem Tryz.tk_42 : tyk Tryz.prog 42 = some (false, 1) := by kernel_rfl
@[simp] theorem Tryz.zd_42 : zeroD Tryz.prog 42 = some (.raw .nilFunc) := by kernel_rfl
@[simp] theorem Tryz.u_43 : Program.underlying Tryz.prog 43 = some (.slice 48) := by kernel_rfl
@[simp] theorem Tryz.se_43 : sliceE Tryz.prog 43 = some 48 := by kernel_rfl
@[simp] theorem Tryz.ez_43 : esz Tryz.prog 43 = some (1, 24) := by kernel_rfl
@[simp] theorem Tryz.sz_43 : szOf Tryz.prog 43 = some 1 := by kernel_rfl
@[simp] theorem Tryz.tk_43 : tyk Tryz.prog 43 = some (false, 1) := by kernel_rfl
@[simp] theorem Tryz.zd_43 : zeroD Tryz.prog 43 = some (.sl []) := by kernel_rfl
@[simp] theorem Tryz.u_44 : Program.underlying Tryz.prog 44 = some (.int .i64) := by kernel_rfl
@[simp] theorem Tryz.se_44 : sliceE Tryz.prog 44 = none := by kernel_rfl
@[simp] theorem Tryz.ez_44 : esz Tryz.prog 44 = some (1, 8) := by kernel_rfl
@[simp] theorem Tryz.sz_44 : szOf Tryz.prog 44 = some 1 := by kernel_rfl
@[simp] theorem Tryz.tk_44 : tyk Tryz.prog 44 = some (false, 1) := by kernel_rfl
@[simp] theorem Tryz.zd_44 : zeroD Tryz.prog 44 = some (.int .i64 0) := by kernel_rfl
@[simp] theorem Tryz.ez_45 : esz Tryz.prog 45 = some (2, 40) := by kernel_rfl
@[simp] theorem Tryz.sz_45 : szOf Tryz.prog 45 = some 2 := by kernel_rfl
@[simp] theorem Tryz.tk_45 : tyk Tryz.prog 45 = some (true, 2) := by kernel_rfl
@[simp] theorem Tryz.zd_45 : zeroD Tryz.prog 45 = some (.agg [.str [], .sl []]) := by kernel_rfl
@[simp] theorem Tryz.sd_45 : structD Tryz.prog 45 = some [.str [], .sl []] := by kernel_rfl
@[simp] theorem Tryz.fo_45_0 : fieldOff Tryz.prog 45 0 = some 0 := by kernel_rfl
@[simp] theorem Tryz.fo_45_1 : fieldOff Tryz.prog 45 1 = some 1 := by kernel_rfl
@[simp] theorem Tryz.ez_46 : esz Tryz.prog 46 = some (2, 40) := by kernel_rfl
@[simp] theorem Tryz.sz_46 : szOf Tryz.prog 46 = some 2 := by kernel_rfl
@[simp] theorem Tryz.tk_46 : tyk Tryz.prog 46 = some (true, 2) := by kernel_rfl
@[simp] theorem Tryz.zd_46 : zeroD Tryz.prog 46 = some (.agg [.str [], .sl []]) := by kernel_rfl
@[simp] theorem Tryz.sd_46 : structD Tryz.prog 46 = some [.str [], .sl []] := by kernel_rfl
@[simp] theorem Tryz.fo_46_0 : fieldOff Tryz.prog 46 0 = some 0 := by kernel_rfl
@[simp] theorem Tryz.fo_46_1 : fieldOff Tryz.prog 46 1 = some 1 := by kernel_rfl
@[simp] theorem Tryz.ez_47 : esz Tryz.prog 47 = some (3, 48) := by kernel_rfl
@[simp] theorem Tryz.sz_47 : szOf Tryz.prog 47 = some 3 := by kernel_rfl
@[simp] theorem Tryz.tk_47 : tyk Tryz.prog 47 = some (true, 3) := by kernel_rfl
@[simp] theorem Tryz.zd_47 : zeroD Tryz.prog 47 = some (.agg [.int .i64 0, .str [], .sl []]) := by kernel_rfl
@[simp] theorem Tryz.sd_47 : structD Tryz.prog 47 = some [.int .i64 0, .str [], .sl []] := by kernel_rfl
@[simp] theorem Tryz.fo_47_0 : fieldOff Tryz.prog 47 0 = some 0 := by kernel_rfl
@[simp] theorem Tryz.fo_47_1 : fieldOff Tryz.prog 47 1 = some 1 := by kernel_rfl
@[simp] theorem Tryz.fo_47_2 : fieldOff Tryz.prog 47 2 = some 2 := by kernel_rfl
@[simp] theorem Tryz.ez_48 : esz Tryz.prog 48 = some (3, 48) := by kernel_rfl
@[simp] theorem Tryz.sz_48 : szOf Tryz.prog 48 = some 3 := by kernel_rfl
@[simp] theorem Tryz.tk_48 : tyk Tryz.prog 48 = some (true, 3) := by kernel_rfl
@[simp] theorem Tryz.zd_48 : zeroD Tryz.prog 48 = some (.agg [.int .i64 0, .str [], .sl []]) := by kernel_rfl
@[simp] theorem Tryz.sd_48 : structD Tryz.prog 48 = some [.int .i64 0, .str [], .sl []] := by kernel_rfl
@[simp] theorem Tryz.fo_48_0 : fieldOff Tryz.prog 48 0 = some 0 := by kernel_rfl
@[simp] theorem Tryz.fo_48_1 : fieldOff Tryz.prog 48 1 = some 1 := by kernel_rfl
@[simp] theorem Tryz.fo_48_2 : fieldOff Tryz.prog 48 2 = some 2 := by kernel_rfl
@[simp] theorem Tryz.ez_49 : esz Tryz.prog 49 = some (1, 8) := by kernel_rfl
@[simp] theorem Tryz.sz_49 : szOf Tryz.prog 49 = some 1 := by kernel_rfl
@[simp] theorem Tryz.tk_49 : tyk Tryz.prog 49 = some (false, 1) := by kernel_rfl
@[simp] theorem Tryz.zd_49 : zeroD Tryz.prog 49 = some (.raw .nilFunc) := by kernel_rfl
@[simp] theorem Tryz.ez_50 : esz Tryz.prog 50 = some (1, 8) := by kernel_rfl
@[simp] theorem Tryz.sz_50 : szOf Tryz.prog 50 = some 1 := by kernel_rfl
@[simp] theorem Tryz.tk_50 : tyk Tryz.prog 50 = some (false, 1) := by kernel_rfl
@[simp] theorem Tryz.zd_50 : zeroD Tryz.prog 50 = some (.raw .nilFunc) := by kernel_rfl
@[simp] theorem Tryz.ez_51 : esz Tryz.prog 51 = some (1, 8) := by kernel_rfl
@[simp] theorem Tryz.sz_51 : szOf Tryz.prog 51 = some 1 := by kernel_rfl
@[simp] theorem Tryz.tk_51 : tyk Tryz.prog 51 = some (false, 1) := by kernel_rfl
@[simp] theorem Tryz.zd_51 : zeroD Tryz.prog 51 = some (.raw .nilFunc) := by kernel_rfl
@[simp] theorem Tryz.ez_52 : esz Tryz.prog 52 = some (1, 8) := by kernel_rfl
@[simp] theorem Tryz.sz_52 : szOf Tryz.prog 52 = some 1 := by kernel_rfl
@[simp] theorem Tryz.tk_52 : tyk Tryz.prog 52 = some (false, 1) := by kernel_rfl
@[simp] theorem Tryz.zd_52 : zeroD Tryz.prog 52 = some (.raw .nilFunc) := by kernel_rfl
@[simp] theorem Tryz.u_53 : Program.underlying Tryz.prog 53 = some (.int .i64) := by kernel_rfl
@[simp] theorem Tryz.se_53 : sliceE Tryz.prog 53 = none := by kernel_rfl
@[simp] theorem Tryz.ez_53 : esz Tryz.prog 53 = some (1, 8) := by kernel_rfl
@[simp] theorem Tryz.sz_53 : szOf Tryz.prog 53 = some 1 := by kernel_rfl
@[simp] theorem Tryz.tk_53 : tyk Tryz.prog 53 = some (false, 1) := by kernel_rfl
@[simp] theorem Tryz.zd_53 : zeroD Tryz.prog 53 = some (.int .i64 0) := by kernel_rfl
@[simp] theorem Tryz.ez_54 : esz Tryz.prog 54 = some (5, 80) := by kernel_rfl
@[simp] theorem Tryz.sz_54 : szOf Tryz.prog 54 = some 5 := by kernel_rfl
@[simp] theorem Tryz.tk_54 : tyk Tryz.prog 54 = some (true, 5) := by kernel_rfl
@[simp] theorem Tryz.zd_54 : zeroD Tryz.prog 54 = some (.agg [.agg [.str [], .sl []], .str [], .str [], .int .i64 0]) := by kernel_rfl
@[simp] theorem Tryz.sd_54 : structD Tryz.prog 54 = some [.agg [.str [], .sl []], .str [], .str [], .int .i64 0] := by kernel_rfl
@[simp] theorem Tryz.fo_54_0 : fieldOff Tryz.prog 54 0 = some 0 := by kernel_rfl
@[simp] theorem Tryz.fo_54_1 : fieldOff Tryz.prog 54 1 = some 2 := by kernel_rfl
@[simp] theorem Tryz.fo_54_2 : fieldOff Tryz.prog 54 2 = some 3 := by kernel_rfl
@[simp] theorem Tryz.fo_54_3 : fieldOff Tryz.prog 54 3 = some 4 := by kernel_rfl
@[simp] theorem Tryz.ez_55 : esz Tryz.prog 55 = some (5, 80) := by kernel_rfl
@[simp] theorem Tryz.sz_55 : szOf Tryz.prog 55 = some 5 := by kernel_rfl
@[simp] theorem Tryz.tk_55 : tyk Tryz.prog 55 = some (true, 5) := by kernel_rfl
@[simp] theorem Tryz.zd_55 : zeroD Tryz.prog 55 = some (.agg [.agg [.str [], .sl []], .str [], .str [], .int .i64 0]) := by kernel_rfl
@[simp] theorem Tryz.sd_55 : structD Tryz.prog 55 = some [.agg [.str [], .sl []], .str [], .str [], .int .i64 0] := by kernel_rfl
@[simp] theorem Tryz.fo_55_0 : fieldOff Tryz.prog 55 0 = some 0 := by kernel_rfl
@[simp] theorem Tryz.fo_55_1 : fieldOff Tryz.prog 55 1 = some 2 := by kernel_rfl
@[simp] theorem Tryz.fo_55_2 : fieldOff Tryz.prog 55 2 = some 3 := by kernel_rfl
@[simp] theorem Tryz.fo_55_3 : fieldOff Tryz.prog 55 3 = some 4 := by kernel_rfl
@[simp] theorem Tryz.u_56 : Program.underlying Tryz.prog 56 = some (.slice 53) := by kernel_rfl
@[simp] theorem Tryz.se_56 : sliceE Tryz.prog 56 = some 53 := by kernel_rfl
@[simp] theorem Tryz.ez_56 : esz Tryz.prog 56 = some (1, 24) := by kernel_rfl
@[simp] theorem Tryz.sz_56 : szOf Tryz.prog 56 = some 1 := by kernel_rfl
@[simp] theorem Tryz.tk_56 : tyk Tryz.prog 56 = some (false, 1) := by kernel_rfl
@[simp] theorem Tryz.zd_56 : zeroD Tryz.prog 56 = some (.sl []) := by kernel_rfl
@[simp] theorem Tryz.ez_57 : esz Tryz.prog 57 = some (5, 88) := by kernel_rfl
@[simp] theorem Tryz.sz_57 : szOf Tryz.prog 57 = some 5 := by kernel_rfl
@[simp] theorem Tryz.tk_57 : tyk Tryz.prog 57 = some (true, 5) := by kernel_rfl
@[simp] theorem Tryz.zd_57 : zeroD Tryz.prog 57 = some (.agg [.bool false, .str [], .str [], .sl [], .sl []]) := by kernel_rfl
@[simp] theorem Tryz.sd_57 : structD Tryz.prog 57 = some [.bool false, .str [], .str [], .sl [], .sl []] := by kernel_rfl
@[simp] theorem Tryz.fo_57_0 : fieldOff Tryz.prog 57 0 = some 0 := by kernel_rfl
@[simp] theorem Tryz.fo_57_1 : fieldOff Tryz.prog 57 1 = some 1 := by kernel_rfl
@[simp] theorem Tryz.fo_57_2 : fieldOff Tryz.prog 57 2 = some 2 := by kernel_rfl
@[simp] theorem Tryz.fo_57_3 : fieldOff Tryz.prog 57 3 = some 3 := by kernel_rfl
@[simp] theorem Tryz.fo_57_4 : fieldOff Tryz.prog 57 4 = some 4 := by kernel_rfl
@[simp] theorem Tryz.ez_58 : esz Tryz.prog 58 = some (5, 88) := by kernel_rfl
@[simp] theorem Tryz.sz_58 : szOf Tryz.prog 58 = some 5 := by kernel_rfl
@[simp] theorem Tryz.tk_58 : tyk Tryz.prog 58 = some (true, 5) := by kernel_rfl
@[simp] theorem Tryz.zd_58 : zeroD Tryz.prog 58 = some (.agg [.bool false, .str [], .str [], .sl [], .sl []]) := by kernel_rfl
@[simp] theorem Tryz.sd_58 : structD Tryz.prog 58 = some [.bool false, .str [], .str [], .sl [], .sl []] := by kernel_rfl
@[simp] theorem Tryz.fo_58_0 : fieldOff Tryz.prog 58 0 = some 0 := by kernel_rfl
@[simp] theorem Tryz.fo_58_1 : fieldOff Tryz.prog 58 1 = some 1 := by kernel_rfl
@[simp] theorem Tryz.fo_58_2 : fieldOff Tryz.prog 58 2 = some 2 := by kernel_rfl
@[simp] theorem Tryz.fo_58_3 : fieldOff Tryz.prog 58 3 = some 3 := by kernel_rfl
@[simp] theorem Tryz.fo_58_4 : fieldOff Tryz.prog 58 4 = some 4 := by kernel_rfl
@[simp] theorem Tryz.ez_60 : esz Tryz.prog 60 = some (1, 8) := by kernel_rfl
@[simp] theorem Tryz.sz_60 : szOf Tryz.prog 60 = some 1 := by kernel_rfl
@[simp] theorem Tryz.tk_60 : tyk Tryz.prog 60 = some (false, 1) := by kernel_rfl
@[simp] theorem Tryz.zd_60 : zeroD Tryz.prog 60 = some (.raw .nilFunc) := by kernel_rfl
@[simp] theorem Tryz.ez_61 : esz Tryz.prog 61 = some (1, 8) := by kernel_rfl
@[simp] theorem Tryz.sz_61 : szOf Tryz.prog 61 = some 1 := by kernel_rfl
@[simp] theorem Tryz.tk_61 : tyk Tryz.prog 61 = some (false, 1) := by kernel_rfl
@[simp] theorem Tryz.zd_61 : zeroD Tryz.prog 61 = some (.raw .nilFunc) := by kernel_rfl
@[simp] theorem Tryz.ez_62 : esz Tryz.prog 62 = some (1, 8) := by kernel_rfl
@[simp] theorem Tryz.sz_62 : szOf Tryz.prog 62 = some 1 := by kernel_rfl
@[simp] theorem Tryz.tk_62 : tyk Tryz.prog 62 = some (false, 1) := by kernel_rfl
@[simp] theorem Tryz.zd_62 : zeroD Tryz.prog 62 = some (.raw .nilFunc) := by kernel_rfl
@[simp] theorem Tryz.ez_63 : esz Tryz.prog 63 = some (1, 8) := by kernel_rfl
@[simp] theorem Tryz.sz_63 : szOf Tryz.prog 63 = some 1 := by kernel_rfl
@[simp] theorem Tryz.tk_63 : tyk Tryz.prog 63 = some (false, 1) := by kernel_rfl
@[simp] theorem Tryz.zd_63 : zeroD Tryz.prog 63 = some (.raw .nilFunc) := by kernel_rfl
@[simp] theorem Tryz.ez_64 : esz Tryz.prog 64 = some (1, 8) := by kernel_rfl
@[simp] theorem Tryz.sz_64 : szOf Tryz.prog 64 = some 1 := by kernel_rfl
@[simp] theorem Tryz.tk_64 : tyk Tryz.prog 64 = some (false, 1) := by kernel_rfl
@[simp] theorem Tryz.zd_64 : zeroD Tryz.prog 64 = some (.raw .nilFunc) := by kernel_rfl
@[simp] theorem Tryz.ez_65 : esz Tryz.prog 65 = some (1, 8) := by kernel_rfl
@[simp] theorem Tryz.sz_65 : szOf Tryz.prog 65 = some 1 := by kernel_rfl
@[simp] theorem Tryz.tk_65 : tyk Tryz.prog 65 = some (false, 1) := by kernel_rfl
@[simp] theorem Tryz.zd_65 : zeroD Tryz.prog 65 = some (.raw .nilFunc) := by kernel_rfl
@[simp] theorem Tryz.ez_66 : esz Tryz.prog 66 = some (1, 8) := by kernel_rfl
@[simp] theorem Tryz.sz_66 : szOf Tryz.prog 66 = some 1 := by kernel_rfl
@[simp] theorem Tryz.tk_66 : tyk Tryz.prog 66 = some (false, 1) := by kernel_rfl
@[simp] theorem Tryz.zd_66 : zeroD Tryz.prog 66 = some (.raw .nilFunc) := by kernel_rfl
@[simp] theorem Tryz.ez_67 : esz Tryz.prog 67 = some (1, 8) := by kernel_rfl
@[simp] theorem Tryz.sz_67 : szOf Tryz.prog 67 = some 1 := by kernel_rfl
@[simp] theorem Tryz.tk_67 : tyk Tryz.prog 67 = some (false, 1) := by kernel_rfl
@[simp] theorem Tryz.zd_67 : zeroD Tryz.prog 67 = some (.raw .nilFunc) := by kernel_rfl
@[simp] theorem Tryz.ez_68 : esz Tryz.prog 68 = some (1, 8) := by kernel_rfl
@[simp] theorem Tryz.sz_68 : szOf Tryz.prog 68 = some 1 := by kernel_rfl
@[simp] theorem Tryz.tk_68 : tyk Tryz.prog 68 = some (false, 1) := by kernel_rfl
@[simp] theorem Tryz.zd_68 : zeroD Tryz.prog 68 = some (.raw .nilFunc) := by kernel_rfl
@[simp] theorem Tryz.ez_69 : esz Tryz.prog 69 = some (1, 8) := by kernel_rfl
@[simp] theorem Tryz.sz_69 : szOf Tryz.prog 69 = some 1 := by kernel_rfl
@[simp] theorem Tryz.tk_69 : tyk Tryz.prog 69 = some (false, 1) := by kernel_rfl
@[simp] theorem Tryz.zd_69 : zeroD Tryz.prog 69 = some (.raw .nilFunc) := by kernel_rfl
@[simp] theorem Tryz.ez_70 : esz Tryz.prog 70 = some (1, 8) := by kernel_rfl
@[simp] theorem Tryz.sz_70 : szOf Tryz.prog 70 = some 1 := by kernel_rfl
@[simp] theorem Tryz.tk_70 : tyk Tryz.prog 70 = some (false, 1) := by kernel_rfl
@[simp] theorem Tryz.zd_70 : zeroD Tryz.prog 70 = some (.raw .nilFunc) := by kernel_rfl
@[simp] theorem Tryz.u_71 : Program.underlying Tryz.prog 71 = some (.pointer 74) := by kernel_rfl
@[simp] theorem Tryz.ez_71 : esz Tryz.prog 71 = some (1, 8) := by kernel_rfl
@[simp] theorem Tryz.sz_71 : szOf Tryz.prog 71 = some 1 := by kernel_rfl
@[simp] theorem Tryz.tk_71 : tyk Tryz.prog 71 = some (false, 1) := by kernel_rfl
@[simp] theorem Tryz.zd_71 : zeroD Tryz.prog 71 = some (.nilp) := by kernel_rfl
@[simp] theorem Tryz.u_72 : Program.underlying Tryz.prog 72 = some (.slice 5) := by kernel_rfl
@[simp] theorem Tryz.se_72 : sliceE Tryz.prog 72 = some 5 := by kernel_rfl
@[simp] theorem Tryz.ez_72 : esz Tryz.prog 72 = some (1, 24) := by kernel_rfl
@[simp] theorem Tryz.sz_72 : szOf Tryz.prog 72 = some 1 := by kernel_rfl
@[simp] theorem Tryz.tk_72 : tyk Tryz.prog 72 = some (false, 1) := by kernel_rfl
@[simp] theorem Tryz.zd_72 : zeroD Tryz.prog 72 = some (.sl []) := by kernel_rfl
@[simp] theorem Tryz.ez_73 : esz Tryz.prog 73 = some (2, 32) := by kernel_rfl
@[simp] theorem Tryz.sz_73 : szOf Tryz.prog 73 = some 2 := by kernel_rfl
@[simp] theorem Tryz.tk_73 : tyk Tryz.prog 73 = some (true, 2) := by kernel_rfl
@[simp] theorem Tryz.zd_73 : zeroD Tryz.prog 73 = some (.agg [.nilp, .sl []]) := by kernel_rfl
@[simp] theorem Tryz.sd_73 : structD Tryz.prog 73 = some [.nilp, .sl []] := by kernel_rfl
@[simp] theorem Tryz.fo_73_0 : fieldOff Tryz.prog 73 0 = some 0 := by kernel_rfl
@[simp] theorem Tryz.fo_73_1 : fieldOff Tryz.prog 73 1 = some 1 := by kernel_rfl
@[simp] theorem Tryz.ez_74 : esz Tryz.prog 74 = some (2, 32) := by kernel_rfl
@[simp] theorem Tryz.sz_74 : szOf Tryz.prog 74 = some 2 := by kernel_rfl
@[simp] theorem Tryz.tk_74 : tyk Tryz.prog 74 = some (true, 2) := by kernel_rfl
@[simp] theorem Tryz.zd_74 : zeroD Tryz.prog 74 = some (.agg [.nilp, .sl []]) := by kernel_rfl
@[simp] theorem Tryz.sd_74 : structD Tryz.prog 74 = some [.nilp, .sl []] := by kernel_rfl
@[simp] theorem Tryz.fo_74_0 : fieldOff Tryz.prog 74 0 = some 0 := by kernel_rfl
@[simp] theorem Tryz.fo_74_1 : fieldOff Tryz.prog 74 1 = some 1 := by kernel_rfl
@[simp] theorem Tryz.ez_78 : esz Tryz.prog 78 = some (1, 8) := by kernel_rfl
@[simp] theorem Tryz.sz_78 : szOf Tryz.prog 78 = some 1 := by kernel_rfl
@[simp] theorem Tryz.tk_78 : tyk Tryz.prog 78 = some (false, 1) := by kernel_rfl
@[simp] theorem Tryz.zd_78 : zeroD Tryz.prog 78 = some (.raw .nilFunc) := by kernel_rfl
@[simp] theorem Tryz.ez_79 : esz Tryz.prog 79 = some (1, 8) := by kernel_rfl
@[simp] theorem Tryz.sz_79 : szOf Tryz.prog 79 = some 1 := by kernel_rfl
@[simp] theorem Tryz.tk_79 : tyk Tryz.prog 79 = some (false, 1) := by kernel_rfl
@[simp] theorem Tryz.zd_79 : zeroD Tryz.prog 79 = some (.raw .nilFunc) := by kernel_rfl
@[simp] theorem Tryz.ez_80 : esz Tryz.prog 80 = some (1, 8) := by kernel_rfl
@[simp] theorem Tryz.sz_80 : szOf Tryz.prog 80 = some 1 := by kernel_rfl
@[simp] theorem Tryz.tk_80 : tyk Tryz.prog 80 = some (false, 1) := by kernel_rfl
@[simp] theorem Tryz.zd_80 : zeroD Tryz.prog 80 = some (.raw .nilFunc) := by kernel_rfl
@[simp] theorem Tryz.ez_81 : esz Tryz.prog 81 = some (1, 8) := by kernel_rfl
@[simp] theorem Tryz.sz_81 : szOf Tryz.prog 81 = some 1 := by kernel_rfl
@[simp] theorem Tryz.tk_81 : tyk Tryz.prog 81 = some (false, 1) := by kernel_rfl
@[simp] theorem Tryz.zd_81 : zeroD Tryz.prog 81 = some (.raw .nilFunc) := by kernel_rfl
@[simp] theorem Tryz.ez_83 : esz Tryz.prog 83 = some (1, 8) := by kernel_rfl
@[simp] theorem Tryz.sz_83 : szOf Tryz.prog 83 = some 1 := by kernel_rfl
@[simp] theorem Tryz.tk_83 : tyk Tryz.prog 83 = some (false, 1) := by kernel_rfl
@[simp] theorem Tryz.zd_83 : zeroD Tryz.prog 83 = some (.raw .nilFunc) := by kernel_rfl
@[simp] theorem Tryz.ez_85 : esz Tryz.prog 85 = some (1, 8) := by kernel_rfl
@[simp] theorem Tryz.sz_85 : szOf Tryz.prog 85 = some 1 := by kernel_rfl
@[simp] theorem Tryz.tk_85 : tyk Tryz.prog 85 = some (false, 1) := by kernel_rfl
@[simp] theorem Tryz.zd_85 : zeroD Tryz.prog 85 = some (.raw .nilFunc) := by kernel_rfl
@[simp] theorem Tryz.ez_86 : esz Tryz.prog 86 = some (1, 8) := by kernel_rfl
@[simp] theorem Tryz.sz_86 : szOf Tryz.prog 86 = some 1 := by kernel_rfl
@[simp] theorem Tryz.tk_86 : tyk Tryz.prog 86 = some (false, 1) := by kernel_rfl
@[simp] theorem Tryz.zd_86 : zeroD Tryz.prog 86 = some (.raw .nilFunc) := by kernel_rfl
@[simp] theorem Tryz.ez_87 : esz Tryz.prog 87 = some (1, 8) := by kernel_rfl
@[simp] theorem Tryz.sz_87 : szOf Tryz.prog 87 = some 1 := by kernel_rfl
@[simp] theorem Tryz.tk_87 : tyk Tryz.prog 87 = some (false, 1) := by kernel_rfl
@[simp] theorem Tryz.zd_87 : zeroD Tryz.prog 87 = some (.raw .nilFunc) := by kernel_rfl
@[simp] theorem Tryz.ez_88 : esz Tryz.prog 88 = some (1, 8) := by kernel_rfl
@[simp] theorem Tryz.sz_88 : szOf Tryz.prog 88 = some 1 := by kernel_rfl
@[simp] theorem Tryz.tk_88 : tyk Tryz.prog 88 = some (false, 1) := by kernel_rfl
@[simp] theorem Tryz.zd_88 : zeroD Tryz.prog 88 = some (.raw .nilFunc) := by kernel_rfl
@[simp] theorem Tryz.ez_89 : esz Tryz.prog 89 = some (1, 8) := by kernel_rfl
@[simp] theorem Tryz.sz_89 : szOf Tryz.prog 89 = some 1 := by kernel_rfl
@[simp] theorem Tryz.tk_89 : tyk Tryz.prog 89 = some (false, 1) := by kernel_rfl
@[simp] theorem Tryz.zd_89 : zeroD Tryz.prog 89 = some (.raw .nilFunc) := by kernel_rfl
@[simp] theorem Tryz.ez_90 : esz Tryz.prog 90 = some (1, 8) := by kernel_rfl
@[simp] theorem Tryz.sz_90 : szOf Tryz.prog 90 = some 1 := by kernel_rfl
@[simp] theorem Tryz.tk_90 : tyk Tryz.prog 90 = some (false, 1) := by kernel_rfl
@[simp] theorem Tryz.zd_90 : zeroD Tryz.prog 90 = some (.raw .nilFunc) := by kernel_rfl
@[simp] theorem Tryz.ez_91 : esz Tryz.prog 91 = some (1, 8) := by kernel_rfl
@[simp] theorem Tryz.sz_91 : szOf Tryz.prog 91 = some 1 := by kernel_rfl
@[simp] theorem Tryz.tk_91 : tyk Tryz.prog 91 = some (false, 1) := by kernel_rfl
@[simp] theorem Tryz.zd_91 : zeroD Tryz.prog 91 = some (.raw .nilFunc) := by kernel_rfl
@[simp] theorem Tryz.ez_92 : esz Tryz.prog 92 = some (1, 8) := by kernel_rfl
@[simp] theorem Tryz.sz_92 : szOf Tryz.prog 92 = some 1 := by kernel_rfl
@[simp] theorem Tryz.tk_92 : tyk Tryz.prog 92 = some (false, 1) := by kernel_rfl
@[simp] theorem Tryz.zd_92 : zeroD Tryz.prog 92 = some (.raw .nilFunc) := by kernel_rfl
@[simp] theorem Tryz.ez_93 : esz Tryz.prog 93 = some (5, 80) := by kernel_rfl
@[simp] theorem Tryz.sz_93 : szOf Tryz.prog 93 = some 5 := by kernel_rfl
@[simp] theorem Tryz.tk_93 : tyk Tryz.prog 93 = some (true, 5) := by kernel_rfl
@[simp] theorem Tryz.zd_93 : zeroD Tryz.prog 93 = some (.agg [.agg [.str [], .sl []], .str [], .str [], .int .i64 0]) := by kernel_rfl
@[simp] theorem Tryz.sd_93 : structD Tryz.prog 93 = some [.agg [.str [], .sl []], .str [], .str [], .int .i64 0] := by kernel_rfl
@[simp] theorem Tryz.fo_93_0 : fieldOff Tryz.prog 93 0 = some 0 := by kernel_rfl
@[simp] theorem Tryz.fo_93_1 : fieldOff Tryz.prog 93 1 = some 2 := by kernel_rfl
@[simp] theorem Tryz.fo_93_2 : fieldOff Tryz.prog 93 2 = some 3 := by kernel_rfl
@[simp] theorem Tryz.fo_93_3 : fieldOff Tryz.prog 93 3 = some 4 := by kernel_rfl
@[simp] theorem Tryz.ez_94 : esz Tryz.prog 94 = some (5, 80) := by kernel_rfl
@[simp] theorem Tryz.sz_94 : szOf Tryz.prog 94 = some 5 := by kernel_rfl
@[simp] theorem Tryz.tk_94 : tyk Tryz.prog 94 = some (true, 5) := by kernel_rfl
@[simp] theorem Tryz.zd_94 : zeroD Tryz.prog 94 = some (.agg [.agg [.str [], .sl []], .str [], .str [], .int .i64 0]) := by kernel_rfl
@[simp] theorem Tryz.sd_94 : structD Tryz.prog 94 = some [.agg [.str [], .sl []], .str [], .str [], .int .i64 0] := by kernel_rfl
@[simp] theorem Tryz.fo_94_0 : fieldOff Tryz.prog 94 0 = some 0 := by kernel_rfl
@[simp] theorem Tryz.fo_94_1 : fieldOff Tryz.prog 94 1 = some 2 := by kernel_rfl
@[simp] theorem Tryz.fo_94_2 : fieldOff Tryz.prog 94 2 = some 3 := by kernel_rfl
@[simp] theorem Tryz.fo_94_3 : fieldOff Tryz.prog 94 3 = some 4 := by kernel_rfl
@[simp] theorem Tryz.ez_95 : esz Tryz.prog 95 = some (1, 8) := by kernel_rfl
@[simp] theorem Tryz.sz_95 : szOf Tryz.prog 95 = some 1 := by kernel_rfl
@[simp] theorem Tryz.tk_95 : tyk Tryz.prog 95 = some (false, 1) := by kernel_rfl
@[simp] theorem Tryz.zd_95 : zeroD Tryz.prog 95 = some (.raw .nilFunc) := by kernel_rfl
@[simp] theorem Tryz.u_96 : Program.underlying Tryz.prog 96 = some (.slice 133) := by kernel_rfl
@[simp] theorem Tryz.se_96 : sliceE Tryz.prog 96 = some 133 := by kernel_rfl
@[simp] theorem Tryz.ez_96 : esz Tryz.prog 96 = some (1, 24) := by kernel_rfl
@[simp] theorem Tryz.sz_96 : szOf Tryz.prog 96 = some 1 := by kernel_rfl
@[simp] theorem Tryz.tk_96 : tyk Tryz.prog 96 = some (false, 1) := by kernel_rfl
@[simp] theorem Tryz.zd_96 : zeroD Tryz.prog 96 = some (.sl []) := by kernel_rfl
@[simp] theorem Tryz.ez_98 : esz Tryz.prog 98 = some (1, 8) := by kernel_rfl
@[simp] theorem Tryz.sz_98 : szOf Tryz.prog 98 = some 1 := by kernel_rfl
@[simp] theorem Tryz.tk_98 : tyk Tryz.prog 98 = some (false, 1) := by kernel_rfl
@[simp] theorem Tryz.zd_98 : zeroD Tryz.prog 98 = some (.raw .nilFunc) := by kernel_rfl
@[simp] theorem Tryz.ez_99 : esz Tryz.prog 99 = some (1, 8) := by kernel_rfl
@[simp] theorem Tryz.sz_99 : szOf Tryz.prog 99 = some 1 := by kernel_rfl
@[simp] theorem Tryz.tk_99 : tyk Tryz.prog 99 = some (false, 1) := by kernel_rfl
@[simp] theorem Tryz.zd_99 : zeroD Tryz.prog 99 = some (.raw .nilFunc) := by kernel_rfl
@[simp] theorem Tryz.ez_100 : esz Tryz.prog 100 = some (1, 8) := by kernel_rfl
@[simp] theorem Tryz.sz_100 : szOf Tryz.prog 100 = some 1 := by kernel_rfl
@[simp] theorem Tryz.tk_100 : tyk Tryz.prog 100 = some (false, 1) := by kernel_rfl
@[simp] theorem Tryz.zd_100 : zeroD Tryz.prog 100 = some (.raw .nilFunc) := by kernel_rfl
@[simp] theorem Tryz.ez_101 : esz Tryz.prog 101 = some (1, 8) := by kernel_rfl
@[simp] theorem Tryz.sz_101 : szOf Tryz.prog 101 = some 1 := by kernel_rfl
@[simp] theorem Tryz.tk_101 : tyk Tryz.prog 101 = some (false, 1) := by kernel_rfl
@[simp] theorem Tryz.zd_101 : zeroD Tryz.prog 101 = some (.raw .nilFunc) := by kernel_rfl
@[simp] theorem Tryz.u_102 : Program.underlying Tryz.prog 102 = some (.int .u64) := by kernel_rfl
@[simp] theorem Tryz.se_102 : sliceE Tryz.prog 102 = none := by kernel_rfl
@[simp] theorem Tryz.ez_102 : esz Tryz.prog 102 = some (1, 8) := by kernel_rfl
@[simp] theorem Tryz.sz_102 : szOf Tryz.prog 102 = some 1 := by kernel_rfl
@[simp] theorem Tryz.tk_102 : tyk Tryz.prog 102 = some (false, 1) := by kernel_rfl
@[simp] theorem Tryz.zd_102 : zeroD Tryz.prog 102 = some (.int .u64 0) := by kernel_rfl
@[simp] theorem Tryz.ez_103 : esz Tryz.prog 103 = some (1, 8) := by kernel_rfl
@[simp] theorem Tryz.sz_103 : szOf Tryz.prog 103 = some 1 := by kernel_rfl
@[simp] theorem Tryz.tk_103 : tyk Tryz.prog 103 = some (false, 1) := by kernel_rfl
@[simp] theorem Tryz.zd_103 : zeroD Tryz.prog 103 = some (.raw .nilFunc) := by kernel_rfl
@[simp] theorem Tryz.ez_104 : esz Tryz.prog 104 = some (1, 8) := by kernel_rfl
@[simp] theorem Tryz.sz_104 : szOf Tryz.prog 104 = some 1 := by kernel_rfl
@[simp] theorem Tryz.tk_104 : tyk Tryz.prog 104 = some (false, 1) := by kernel_rfl
@[simp] theorem Tryz.zd_104 : zeroD Tryz.prog 104 = some (.raw .nilFunc) := by kernel_rfl
@[simp] theorem Tryz.ez_105 : esz Tryz.prog 105 = some (1, 8) := by kernel_rfl
@[simp] theorem Tryz.sz_105 : szOf Tryz.prog 105 = some 1 := by kernel_rfl
@[simp] theorem Tryz.tk_105 : tyk Tryz.prog 105 = some (false, 1) := by kernel_rfl
@[simp] theorem Tryz.zd_105 : zeroD Tryz.prog 105 = some (.raw .nilFunc) := by kernel_rfl
@[simp] theorem Tryz.ez_106 : esz Tryz.prog 106 = some (1, 8) := by kernel_rfl
@[simp] theorem Tryz.sz_106 : szOf Tryz.prog 106 = some 1 := by kernel_rfl
@[simp] theorem Tryz.tk_106 : tyk Tryz.prog 106 = some (false, 1) := by kernel_rfl
@[simp] theorem Tryz.zd_106 : zeroD Tryz.prog 106 = some (.raw .nilFunc) := by kernel_rfl
@[simp] theorem Tryz.u_107 : Program.underlying Tryz.prog 107 = some (.pointer 5) := by kernel_rfl
@[simp] theorem Tryz.ez_107 : esz Tryz.prog 107 = some (1, 8) := by kernel_rfl
@[simp] theorem Tryz.sz_107 : szOf Tryz.prog 107 = some 1 := by kernel_rfl
@[simp] theorem Tryz.tk_107 : tyk Tryz.prog 107 = some (false, 1) := by kernel_rfl
@[simp] theorem Tryz.zd_107 : zeroD Tryz.prog 107 = some (.nilp) := by kernel_rfl
@[simp] theorem Tryz.ez_108 : esz Tryz.prog 108 = some (1, 8) := by kernel_rfl
@[simp] theorem Tryz.sz_108 : szOf Tryz.prog 108 = some 1 := by kernel_rfl
@[simp] theorem Tryz.tk_108 : tyk Tryz.prog 108 = some (false, 1) := by kernel_rfl
@[simp] theorem Tryz.zd_108 : zeroD Tryz.prog 108 = some (.raw .nilFunc) := by kernel_rfl
@[simp] theorem Tryz.ez_109 : esz Tryz.prog 109 = some (1, 8) := by kernel_rfl
@[simp] theorem Tryz.sz_109 : szOf Tryz.prog 109 = some 1 := by kernel_rfl
@[simp] theorem Tryz.tk_109 : tyk Tryz.prog 109 = some (false, 1) := by kernel_rfl
@[simp] theorem Tryz.zd_109 : zeroD Tryz.prog 109 = some (.raw .nilFunc) := by kernel_rfl
@[simp] theorem Tryz.ez_110 : esz Tryz.prog 110 = some (1, 8) := by kernel_rfl
@[simp] theorem Tryz.sz_110 : szOf Tryz.prog 110 = some 1 := by kernel_rfl
@[simp] theorem Tryz.tk_110 : tyk Tryz.prog 110 = some (false, 1) := by kernel_rfl
@[simp] theorem Tryz.zd_110 : zeroD Tryz.prog 110 = some (.raw .nilFunc) := by kernel_rfl
@[simp] theorem Tryz.ez_112 : esz Tryz.prog 112 = some (1, 8) := by kernel_rfl
@[simp] theorem Tryz.sz_112 : szOf Tryz.prog 112 = some 1 := by kernel_rfl
@[simp] theorem Tryz.tk_112 : tyk Tryz.prog 112 = some (false, 1) := by kernel_rfl
@[simp] theorem Tryz.zd_112 : zeroD Tryz.prog 112 = some (.raw .nilFunc) := by kernel_rfl
@[simp] theorem Tryz.ez_113 : esz Tryz.prog 113 = some (1, 8) := by kernel_rfl
@[simp] theorem Tryz.sz_113 : szOf Tryz.prog 113 = some 1 := by kernel_rfl
@[simp] theorem Tryz.tk_113 : tyk Tryz.prog 113 = some (false, 1) := by kernel_rfl
@[simp] theorem Tryz.zd_113 : zeroD Tryz.prog 113 = some (.raw .nilFunc) := by kernel_rfl
@[simp] theorem Tryz.ez_114 : esz Tryz.prog 114 = some (1, 8) := by kernel_rfl
@[simp] theorem Tryz.sz_114 : szOf Tryz.prog 114 = some 1 := by kernel_rfl
@[simp] theorem Tryz.tk_114 : tyk Tryz.prog 114 = some (false, 1) := by kernel_rfl
@[simp] theorem Tryz.zd_114 : zeroD Tryz.prog 114 = some (.raw .nilFunc) := by kernel_rfl
@[simp] theorem Tryz.ez_115 : esz Tryz.prog 115 = some (1, 8) := by kernel_rfl
@[simp] theorem Tryz.sz_115 : szOf Tryz.prog 115 = some 1 := by kernel_rfl
@[simp] theorem Tryz.tk_115 : tyk Tryz.prog 115 = some (false, 1) := by kernel_rfl
@[simp] theorem Tryz.zd_115 : zeroD Tryz.prog 115 = some (.raw .nilFunc) := by kernel_rfl
@[simp] theorem Tryz.ez_117 : esz Tryz.prog 117 = some (1, 8) := by kernel_rfl
@[simp] theorem Tryz.sz_117 : szOf Tryz.prog 117 = some 1 := by kernel_rfl
@[simp] theorem Tryz.tk_117 : tyk Tryz.prog 117 = some (false, 1) := by kernel_rfl
@[simp] theorem Tryz.zd_117 : zeroD Tryz.prog 117 = some (.raw .nilFunc) := by kernel_rfl
@[simp] theorem Tryz.ez_118 : esz Tryz.prog 118 = some (1, 8) := by kernel_rfl
@[simp] theorem Tryz.sz_118 : szOf Tryz.prog 118 = some 1 := by kernel_rfl
@[simp] theorem Tryz.tk_118 : tyk Tryz.prog 118 = some (false, 1) := by kernel_rfl
@[simp] theorem Tryz.zd_118 : zeroD Tryz.prog 118 = some (.raw .nilFunc) := by kernel_rfl
@[simp] theorem Tryz.ez_119 : esz Tryz.prog 119 = some (1, 8) := by kernel_rfl
@[simp] theorem Tryz.sz_119 : szOf Tryz.prog 119 = some 1 := by kernel_rfl
@[simp] theorem Tryz.tk_119 : tyk Tryz.prog 119 = some (false, 1) := by kernel_rfl
@[simp] theorem Tryz.zd_119 : zeroD Tryz.prog 119 = some (.raw .nilFunc) := by kernel_rfl
@[simp] theorem Tryz.ez_120 : esz Tryz.prog 120 = some (1, 8) := by kernel_rfl
@[simp] theorem Tryz.sz_120 : szOf Tryz.prog 120 = some 1 := by kernel_rfl
@[simp] theorem Tryz.tk_120 : tyk Tryz.prog 120 = some (false, 1) := by kernel_rfl
@[simp] theorem Tryz.zd_120 : zeroD Tryz.prog 120 = some (.raw .nilFunc) := by kernel_rfl
@[simp] theorem Tryz.ez_121 : esz Tryz.prog 121 = some (1, 8) := by kernel_rfl
@[simp] theorem Tryz.sz_121 : szOf Tryz.prog 121 = some 1 := by kernel_rfl
@[simp] theorem Tryz.tk_121 : tyk Tryz.prog 121 = some (false, 1) := by kernel_rfl
@[simp] theorem Tryz.zd_121 : zeroD Tryz.prog 121 = some (.raw .nilFunc) := by kernel_rfl
@[simp] theorem Tryz.ez_122 : esz Tryz.prog 122 = some (1, 8) := by kernel_rfl
@[simp] theorem Tryz.sz_122 : szOf Tryz.prog 122 = some 1 := by kernel_rfl
@[simp] theorem Tryz.tk_122 : tyk Tryz.prog 122 = some (false, 1) := by kernel_rfl
@[simp] theorem Tryz.zd_122 : zeroD Tryz.prog 122 = some (.raw .nilFunc) := by kernel_rfl
@[simp] theorem Tryz.ez_123 : esz Tryz.prog 123 = some (1, 8) := by kernel_rfl
@[simp] theorem Tryz.sz_123 : szOf Tryz.prog 123 = some 1 := by kernel_rfl
@[simp] theorem Tryz.tk_123 : tyk Tryz.prog 123 = some (false, 1) := by kernel_rfl
@[simp] theorem Tryz.zd_123 : zeroD Tryz.prog 123 = some (.raw .nilFunc) := by kernel_rfl
@[simp] theorem Tryz.ez_124 : esz Tryz.prog 124 = some (1, 8) := by kernel_rfl
@[simp] theorem Tryz.sz_124 : szOf Tryz.prog 124 = some 1 := by kernel_rfl
@[simp] theorem Tryz.tk_124 : tyk Tryz.prog 124 = some (false, 1) := by kernel_rfl
@[simp] theorem Tryz.zd_124 : zeroD Tryz.prog 124 = some (.raw .nilFunc) := by kernel_rfl
@[simp] theorem Tryz.ez_125 : esz Tryz.prog 125 = some (1, 8) := by kernel_rfl
@[simp] theorem Tryz.sz_125 : szOf Tryz.prog 125 = some 1 := by kernel_rfl
@[simp] theorem Tryz.tk_125 : tyk Tryz.prog 125 = some (false, 1) := by kernel_rfl
@[simp] theorem Tryz.zd_125 : zeroD Tryz.prog 125 = some (.raw .nilFunc) := by kernel_rfl
@[simp] theorem Tryz.ez_126 : esz Tryz.prog 126 = some (1, 8) := by kernel_rfl
@[simp] theorem Tryz.sz_126 : szOf Tryz.prog 126 = some 1 := by kernel_rfl
@[simp] theorem Tryz.tk_126 : tyk Tryz.prog 126 = some (false, 1) := by kernel_rfl
@[simp] theorem Tryz.zd_126 : zeroD Tryz.prog 126 = some (.raw .nilFunc) := by kernel_rfl
@[simp] theorem Tryz.ez_127 : esz Tryz.prog 127 = some (1, 8) := by kernel_rfl
@[simp] theorem Tryz.sz_127 : szOf Tryz.prog 127 = some 1 := by kernel_rfl
@[simp] theorem Tryz.tk_127 : tyk Tryz.prog 127 = some (false, 1) := by kernel_rfl
@[simp] theorem Tryz.zd_127 : zeroD Tryz.prog 127 = some (.raw .nilFunc) := by kernel_rfl
@[simp] theorem Tryz.ez_128 : esz Tryz.prog 128 = some (1, 8) := by kernel_rfl
@[simp] theorem Tryz.sz_128 : szOf Tryz.prog 128 = some 1 := by kernel_rfl
@[simp] theorem Tryz.tk_128 : tyk Tryz.prog 128 = some (false, 1) := by kernel_rfl
@[simp] theorem Tryz.zd_128 : zeroD Tryz.prog 128 = some (.raw .nilFunc) := by kernel_rfl
@[simp] theorem Tryz.ez_129 : esz Tryz.prog 129 = some (1, 8) := by kernel_rfl
@[simp] theorem Tryz.sz_129 : szOf Tryz.prog 129 = some 1 := by kernel_rfl
@[simp] theorem Tryz.tk_129 : tyk Tryz.prog 129 = some (false, 1) := by kernel_rfl
@[simp] theorem Tryz.zd_129 : zeroD Tryz.prog 129 = some (.raw .nilFunc) := by kernel_rfl
@[simp] theorem Tryz.ez_131 : esz Tryz.prog 131 = some (1, 8) := by kernel_rfl
@[simp] theorem Tryz.sz_131 : szOf Tryz.prog 131 = some 1 := by kernel_rfl
@[simp] theorem Tryz.tk_131 : tyk Tryz.prog 131 = some (false, 1) := by kernel_rfl
@[simp] theorem Tryz.zd_131 : zeroD Tryz.prog 131 = some (.raw .nilFunc) := by kernel_rfl
@[simp] theorem Tryz.ez_132 : esz Tryz.prog 132 = some (2, 32) := by kernel_rfl
@[simp] theorem Tryz.sz_132 : szOf Tryz.prog 132 = some 2 := by kernel_rfl
@[simp] theorem Tryz.tk_132 : tyk Tryz.prog 132 = some (true, 2) := by kernel_rfl
@[simp] theorem Tryz.zd_132 : zeroD Tryz.prog 132 = some (.agg [.str [], .str []]) := by kernel_rfl
@[simp] theorem Tryz.sd_132 : structD Tryz.prog 132 = some [.str [], .str []] := by kernel_rfl
@[simp] theorem Tryz.fo_132_0 : fieldOff Tryz.prog 132 0 = some 0 := by kernel_rfl
@[simp] theorem Tryz.fo_132_1 : fieldOff Tryz.prog 132 1 = some 1 := by kernel_rfl
@[simp] theorem Tryz.ez_133 : esz Tryz.prog 133 = some (2, 32) := by kernel_rfl
@[simp] theorem Tryz.sz_133 : szOf Tryz.prog 133 = some 2 := by kernel_rfl
@[simp] theorem Tryz.tk_133 : tyk Tryz.prog 133 = some (true, 2) := by kernel_rfl
@[simp] theorem Tryz.zd_133 : zeroD Tryz.prog 133 = some (.agg [.str [], .str []]) := by kernel_rfl
@[simp] theorem Tryz.sd_133 : structD Tryz.prog 133 = some [.str [], .str []] := by kernel_rfl
@[simp] theorem Tryz.fo_133_0 : fieldOff Tryz.prog 133 0 = some 0 := by kernel_rfl
@[simp] theorem Tryz.fo_133_1 : fieldOff Tryz.prog 133 1 = some 1 := by kernel_rfl
@[simp] theorem Tryz.ez_135 : esz Tryz.prog 135 = some (1, 8) := by kernel_rfl
@[simp] theorem Tryz.sz_135 : szOf Tryz.prog 135 = some 1 := by kernel_rfl
@[simp] theorem Tryz.tk_135 : tyk Tryz.prog 135 = some (false, 1) := by kernel_rfl
@[simp] theorem Tryz.zd_135 : zeroD Tryz.prog 135 = some (.raw .nilFunc) := by kernel_rfl
@[simp] theorem Tryz.ez_136 : esz Tryz.prog 136 = some (1, 8) := by kernel_rfl
@[simp] theorem Tryz.sz_136 : szOf Tryz.prog 136 = some 1 := by kernel_rfl
@[simp] theorem Tryz.tk_136 : tyk Tryz.prog 136 = some (false, 1) := by kernel_rfl
@[simp] theorem Tryz.zd_136 : zeroD Tryz.prog 136 = some (.raw .nilFunc) := by kernel_rfl
@[simp] theorem Tryz.ez_137 : esz Tryz.prog 137 = some (1, 8) := by kernel_rfl
@[simp] theorem Tryz.sz_137 : szOf Tryz.prog 137 = some 1 := by kernel_rfl
@[simp] theorem Tryz.tk_137 : tyk Tryz.prog 137 = some (false, 1) := by kernel_rfl
@[simp] theorem Tryz.zd_137 : zeroD Tryz.prog 137 = some (.raw .nilFunc) := by kernel_rfl
@[simp] theorem Tryz.ez_138 : esz Tryz.prog 138 = some (1, 8) := by kernel_rfl
@[simp] theorem Tryz.sz_138 : szOf Tryz.prog 138 = some 1 := by kernel_rfl
@[simp] theorem Tryz.tk_138 : tyk Tryz.prog 138 = some (false, 1) := by kernel_rfl
@[simp] theorem Tryz.zd_138 : zeroD Tryz.prog 138 = some (.raw .nilFunc) := by kernel_rfl
@[simp] theorem Tryz.ez_139 : esz Tryz.prog 139 = some (1, 8) := by kernel_rfl
@[simp] theorem Tryz.sz_139 : szOf Tryz.prog 139 = some 1 := by kernel_rfl
@[simp] theorem Tryz.tk_139 : tyk Tryz.prog 139 = some (false, 1) := by kernel_rfl
@[simp] theorem Tryz.zd_139 : zeroD Tryz.prog 139 = some (.raw .nilFunc) := by kernel_rfl
@[simp] theorem Tryz.ez_140 : esz Tryz.prog 140 = some (1, 8) := by kernel_rfl
@[simp] theorem Tryz.sz_140 : szOf Tryz.prog 140 = some 1 := by kernel_rfl
@[simp] theorem Tryz.tk_140 : tyk Tryz.prog 140 = some (false, 1) := by kernel_rfl
@[simp] theorem Tryz.zd_140 : zeroD Tryz.prog 140 = some (.raw .nilFunc) := by kernel_rfl
@[simp] theorem Tryz.ez_141 : esz Tryz.prog 141 = some (1, 8) := by kernel_rfl
@[simp] theorem Tryz.sz_141 : szOf Tryz.prog 141 = some 1 := by kernel_rfl
@[simp] theorem Tryz.tk_141 : tyk Tryz.prog 141 = some (false, 1) := by kernel_rfl
@[simp] theorem Tryz.zd_141 : zeroD Tryz.prog 141 = some (.raw .nilFunc) := by kernel_rfl
@[simp] theorem Tryz.ez_142 : esz Tryz.prog 142 = some (1, 8) := by kernel_rfl
@[simp] theorem Tryz.sz_142 : szOf Tryz.prog 142 = some 1 := by kernel_rfl
@[simp] theorem Tryz.tk_142 : tyk Tryz.prog 142 = some (false, 1) := by kernel_rfl
@[simp] theorem Tryz.zd_142 : zeroD Tryz.prog 142 = some (.raw .nilFunc) := by kernel_rfl
@[simp] theorem Tryz.ez_143 : esz Tryz.prog 143 = some (1, 8) := by kernel_rfl
@[simp] theorem Tryz.sz_143 : szOf Tryz.prog 143 = some 1 := by kernel_rfl
@[simp] theorem Tryz.tk_143 : tyk Tryz.prog 143 = some (false, 1) := by kernel_rfl
@[simp] theorem Tryz.zd_143 : zeroD Tryz.prog 143 = some (.raw .nilFunc) := by kernel_rfl
@[simp] theorem Tryz.ez_144 : esz Tryz.prog 144 = some (1, 8) := by kernel_rfl
@[simp] theorem Tryz.sz_144 : szOf Tryz.prog 144 = some 1 := by kernel_rfl
@[simp] theorem Tryz.tk_144 : tyk Tryz.prog 144 = some (false, 1) := by kernel_rfl
@[simp] theorem Tryz.zd_144 : zeroD Tryz.prog 144 = some (.raw .nilFunc) := by kernel_rfl
@[simp] theorem Tryz.ez_146 : esz Tryz.prog 146 = some (1, 8) := by kernel_rfl
@[simp] theorem Tryz.sz_146 : szOf Tryz.prog 146 = some 1 := by kernel_rfl
@[simp] theorem Tryz.tk_146 : tyk Tryz.prog 146 = some (false, 1) := by kernel_rfl
@[simp] theorem Tryz.zd_146 : zeroD Tryz.prog 146 = some (.raw .nilFunc) := by kernel_rfl
@[simp] theorem Tryz.ez_147 : esz Tryz.prog 147 = some (1, 8) := by kernel_rfl
@[simp] theorem Tryz.sz_147 : szOf Tryz.prog 147 = some 1 := by kernel_rfl
@[simp] theorem Tryz.tk_147 : tyk Tryz.prog 147 = some (false, 1) := by kernel_rfl
@[simp] theorem Tryz.zd_147 : zeroD Tryz.prog 147 = some (.raw .nilFunc) := by kernel_rfl
@[simp] theorem Tryz.ez_148 : esz Tryz.prog 148 = some (1, 8) := by kernel_rfl
@[simp] theorem Tryz.sz_148 : szOf Tryz.prog 148 = some 1 := by kernel_rfl
@[simp] theorem Tryz.tk_148 : tyk Tryz.prog 148 = some (false, 1) := by kernel_rfl
@[simp] theorem Tryz.zd_148 : zeroD Tryz.prog 148 = some (.raw .nilFunc) := by kernel_rfl
@[simp] theorem Tryz.ez_149 : esz Tryz.prog 149 = some (1, 8) := by kernel_rfl
@[simp] theorem Tryz.sz_149 : szOf Tryz.prog 149 = some 1 := by kernel_rfl
@[simp] theorem Tryz.tk_149 : tyk Tryz.prog 149 = some (false, 1) := by kernel_rfl
@[simp] theorem Tryz.zd_149 : zeroD Tryz.prog 149 = some (.raw .nilFunc) := by kernel_rfl
@[simp] theorem Tryz.ez_150 : esz Tryz.prog 150 = some (1, 8) := by kernel_rfl
@[simp] theorem Tryz.sz_150 : szOf Tryz.prog 150 = some 1 := by kernel_rfl
@[simp] theorem Tryz.tk_150 : tyk Tryz.prog 150 = some (false, 1) := by kernel_rfl
@[simp] theorem Tryz.zd_150 : zeroD Tryz.prog 150 = some (.raw .nilFunc) := by kernel_rfl
@[simp] theorem Tryz.ez_151 : esz Tryz.prog 151 = some (1, 8) := by kernel_rfl
@[simp] theorem Tryz.sz_151 : szOf Tryz.prog 151 = some 1 := by kernel_rfl
@[simp] theorem Tryz.tk_151 : tyk Tryz.prog 151 = some (false, 1) := by kernel_rfl
@[simp] theorem Tryz.zd_151 : zeroD Tryz.prog 151 = some (.raw .nilFunc) := by kernel_rfl
@[simp] theorem Tryz.ez_152 : esz Tryz.prog 152 = some (1, 8) := by kernel_rfl
@[simp] theorem Tryz.sz_152 : szOf Tryz.prog 152 = some 1 := by kernel_rfl
@[simp] theorem Tryz.tk_152 : tyk Tryz.prog 152 = some (false, 1) := by kernel_rfl
@[simp] theorem Tryz.zd_152 : zeroD Tryz.prog 152 = some (.raw .nilFunc) := by kernel_rfl
@[simp] theorem Tryz.ez_155 : esz Tryz.prog 155 = some (1, 8) := by kernel_rfl
@[simp] theorem Tryz.sz_155 : szOf Tryz.prog 155 = some 1 := by kernel_rfl
@[simp] theorem Tryz.tk_155 : tyk Tryz.prog 155 = some (false, 1) := by kernel_rfl
@[simp] theorem Tryz.zd_155 : zeroD Tryz.prog 155 = some (.raw .nilFunc) := by kernel_rfl
@[simp] theorem Tryz.ez_156 : esz Tryz.prog 156 = some (1, 8) := by kernel_rfl
@[simp] theorem Tryz.sz_156 : szOf Tryz.prog 156 = some 1 := by kernel_rfl
@[simp] theorem Tryz.tk_156 : tyk Tryz.prog 156 = some (false, 1) := by kernel_rfl
@[simp] theorem Tryz.zd_156 : zeroD Tryz.prog 156 = some (.raw .nilFunc) := by kernel_rfl
@[simp] theorem Tryz.ez_157 : esz Tryz.prog 157 = some (1, 8) := by kernel_rfl
@[simp] theorem Tryz.sz_157 : szOf Tryz.prog 157 = some 1 := by kernel_rfl
@[simp] theorem Tryz.tk_157 : tyk Tryz.prog 157 = some (false, 1) := by kernel_rfl
@[simp] theorem Tryz.zd_157 : zeroD Tryz.prog 157 = some (.raw .nilFunc) := by kernel_rfl
@[simp] theorem Tryz.ez_159 : esz Tryz.prog 159 = some (1, 8) := by kernel_rfl
@[simp] theorem Tryz.sz_159 : szOf Tryz.prog 159 = some 1 := by kernel_rfl
@[simp] theorem Tryz.tk_159 : tyk Tryz.prog 159 = some (false, 1) := by kernel_rfl
@[simp] theorem Tryz.zd_159 : zeroD Tryz.prog 159 = some (.raw .nilFunc) := by kernel_rfl
@[simp] theorem Tryz.ez_160 : esz Tryz.prog 160 = some (1, 8) := by kernel_rfl
@[simp] theorem Tryz.sz_160 : szOf Tryz.prog 160 = some 1 := by kernel_rfl
@[simp] theorem Tryz.tk_160 : tyk Tryz.prog 160 = some (false, 1) := by kernel_rfl
@[simp] theorem Tryz.zd_160 : zeroD Tryz.prog 160 = some (.raw .nilFunc) := by kernel_rfl
@[simp] theorem Tryz.u_161 : Program.underlying Tryz.prog 161 = some (.int .u32) := by kernel_rfl
@[simp] theorem Tryz.se_161 : sliceE Tryz.prog 161 = none := by kernel_rfl
@[simp] theorem Tryz.ez_161 : esz Tryz.prog 161 = some (1, 4) := by kernel_rfl
@[simp] theorem Tryz.sz_161 : szOf Tryz.prog 161 = some 1 := by kernel_rfl
@[simp] theorem Tryz.tk_161 : tyk Tryz.prog 161 = some (false, 1) := by kernel_rfl
@[simp] theorem Tryz.zd_161 : zeroD Tryz.prog 161 = some (.int .u32 0) := by kernel_rfl
@[simp] theorem Tryz.ez_162 : esz Tryz.prog 162 = some (1, 8) := by kernel_rfl
@[simp] theorem Tryz.sz_162 : szOf Tryz.prog 162 = some 1 := by kernel_rfl
@[simp] theorem Tryz.tk_162 : tyk Tryz.prog 162 = some (false, 1) := by kernel_rfl
@[simp] theorem Tryz.zd_162 : zeroD Tryz.prog 162 = some (.raw .nilFunc) := by kernel_rfl
@[simp] theorem Tryz.u_163 : Program.underlying Tryz.prog 163 = some (.int .u64) := by kernel_rfl
@[simp] theorem Tryz.se_163 : sliceE Tryz.prog 163 = none := by kernel_rfl
@[simp] theorem Tryz.ez_163 : esz Tryz.prog 163 = some (1, 8) := by kernel_rfl
@[simp] theorem Tryz.sz_163 : szOf Tryz.prog 163 = some 1 := by kernel_rfl
@[simp] theorem Tryz.tk_163 : tyk Tryz.prog 163 = some (false, 1) := by kernel_rfl
@[simp] theorem Tryz.zd_163 : zeroD Tryz.prog 163 = some (.int .u64 0) := by kernel_rfl
@[simp] theorem Tryz.ez_164 : esz Tryz.prog 164 = some (1, 8) := by kernel_rfl
@[simp] theorem Tryz.sz_164 : szOf Tryz.prog 164 = some 1 := by kernel_rfl
@[simp] theorem Tryz.tk_164 : tyk Tryz.prog 164 = some (false, 1) := by kernel_rfl
@[simp] theorem Tryz.zd_164 : zeroD Tryz.prog 164 = some (.raw .nilFunc) := by kernel_rfl
@[simp] theorem Tryz.ez_165 : esz Tryz.prog 165 = some (1, 8) := by kernel_rfl
@[simp] theorem Tryz.sz_165 : szOf Tryz.prog 165 = some 1 := by kernel_rfl
@[simp] theorem Tryz.tk_165 : tyk Tryz.prog 165 = some (false, 1) := by kernel_rfl
@[simp] theorem Tryz.zd_165 : zeroD Tryz.prog 165 = some (.raw .nilFunc) := by kernel_rfl
@[simp] theorem Tryz.ez_166 : esz Tryz.prog 166 = some (1, 8) := by kernel_rfl
@[simp] theorem Tryz.sz_166 : szOf Tryz.prog 166 = some 1 := by kernel_rfl
@[simp] theorem Tryz.tk_166 : tyk Tryz.prog 166 = some (false, 1) := by kernel_rfl
@[simp] theorem Tryz.zd_166 : zeroD Tryz.prog 166 = some (.raw .nilFunc) := by kernel_rfl
@[simp] theorem Tryz.ez_167 : esz Tryz.prog 167 = some (1, 8) := by kernel_rfl
@[simp] theorem Tryz.sz_167 : szOf Tryz.prog 167 = some 1 := by kernel_rfl
@[simp] theorem Tryz.tk_167 : tyk Tryz.prog 167 = some (false, 1) := by kernel_rfl
@[simp] theorem Tryz.zd_167 : zeroD Tryz.prog 167 = some (.raw .nilFunc) := by kernel_rfl
@[simp] theorem Tryz.ez_168 : esz Tryz.prog 168 = some (1, 8) := by kernel_rfl
@[simp] theorem Tryz.sz_168 : szOf Tryz.prog 168 = some 1 := by kernel_rfl
@[simp] theorem Tryz.tk_168 : tyk Tryz.prog 168 = some (false, 1) := by kernel_rfl
@[simp] theorem Tryz.zd_168 : zeroD Tryz.prog 168 = some (.raw .nilFunc) := by kernel_rfl
@[simp] theorem Tryz.ez_169 : esz Tryz.prog 169 = some (1, 8) := by kernel_rfl
@[simp] theorem Tryz.sz_169 : szOf Tryz.prog 169 = some 1 := by kernel_rfl
@[simp] theorem Tryz.tk_169 : tyk Tryz.prog 169 = some (false, 1) := by kernel_rfl
@[simp] theorem Tryz.zd_169 : zeroD Tryz.prog 169 = some (.raw .nilFunc) := by kernel_rfl
@[simp] theorem Tryz.ez_171 : esz Tryz.prog 171 = some (1, 8) := by kernel_rfl
@[simp] theorem Tryz.sz_171 : szOf Tryz.prog 171 = some 1 := by kernel_rfl
@[simp] theorem Tryz.tk_171 : tyk Tryz.prog 171 = some (false, 1) := by kernel_rfl
@[simp] theorem Tryz.zd_171 : zeroD Tryz.prog 171 = some (.raw .nilFunc) := by kernel_rfl
@[simp] theorem Tryz.ez_173 : esz Tryz.prog 173 = some (1, 8) := by kernel_rfl
@[simp] theorem Tryz.sz_173 : szOf Tryz.prog 173 = some 1 := by kernel_rfl
@[simp] theorem Tryz.tk_173 : tyk Tryz.prog 173 = some (false, 1) := by kernel_rfl
@[simp] theorem Tryz.zd_173 : zeroD Tryz.prog 173 = some (.raw .nilFunc) := by kernel_rfl
@[simp] theorem Tryz.ez_174 : esz Tryz.prog 174 = some (1, 8) := by kernel_rfl
@[simp] theorem Tryz.sz_174 : szOf Tryz.prog 174 = some 1 := by kernel_rfl
@[simp] theorem Tryz.tk_174 : tyk Tryz.prog 174 = some (false, 1) := by kernel_rfl
@[simp] theorem Tryz.zd_174 : zeroD Tryz.prog 174 = some (.raw .nilFunc) := by kernel_rfl
@[simp] theorem Tryz.ez_175 : esz Tryz.prog 175 = some (1, 8) := by kernel_rfl
@[simp] theorem Tryz.sz_175 : szOf Tryz.prog 175 = some 1 := by kernel_rfl
@[simp] theorem Tryz.tk_175 : tyk Tryz.prog 175 = some (false, 1) := by kernel_rfl
@[simp] theorem Tryz.zd_175 : zeroD Tryz.prog 175 = some (.raw .nilFunc) := by kernel_rfl
@[simp] theorem Tryz.ez_177 : esz Tryz.prog 177 = some (1, 8) := by kernel_rfl
@[simp] theorem Tryz.sz_177 : szOf Tryz.prog 177 = some 1 := by kernel_rfl
@[simp] theorem Tryz.tk_177 : tyk Tryz.prog 177 = some (false, 1) := by kernel_rfl
@[simp] theorem Tryz.zd_177 : zeroD Tryz.prog 177 = some (.raw .nilFunc) := by kernel_rfl
@[simp] theorem Tryz.ez_178 : esz Tryz.prog 178 = some (1, 8) := by kernel_rfl
@[simp] theorem Tryz.sz_178 : szOf Tryz.prog 178 = some 1 := by kernel_rfl
@[simp] theorem Tryz.tk_178 : tyk Tryz.prog 178 = some (false, 1) := by kernel_rfl
@[simp] theorem Tryz.zd_178 : zeroD Tryz.prog 178 = some (.raw .nilFunc) := by kernel_rfl
@[simp] theorem Tryz.ez_179 : esz Tryz.prog 179 = some (1, 8) := by kernel_rfl
@[simp] theorem Tryz.sz_179 : szOf Tryz.prog 179 = some 1 := by kernel_rfl
@[simp] theorem Tryz.tk_179 : tyk Tryz.prog 179 = some (false, 1) := by kernel_rfl
@[simp] theorem Tryz.zd_179 : zeroD Tryz.prog 179 = some (.raw .nilFunc) := by kernel_rfl
@[simp] theorem Tryz.u_180 : Program.underlying Tryz.prog 180 = some (.pointer 3) := by kernel_rfl
@[simp] theorem Tryz.ez_180 : esz Tryz.prog 180 = some (1, 8) := by kernel_rfl
@[simp] theorem Tryz.sz_180 : szOf Tryz.prog 180 = some 1 := by kernel_rfl
@[simp] theorem Tryz.tk_180 : tyk Tryz.prog 180 = some (false, 1) := by kernel_rfl
@[simp] theorem Tryz.zd_180 : zeroD Tryz.prog 180 = some (.nilp) := by kernel_rfl
@[simp] theorem Tryz.ez_181 : esz Tryz.prog 181 = some (1, 8) := by kernel_rfl
@[simp] theorem Tryz.sz_181 : szOf Tryz.prog 181 = some 1 := by kernel_rfl
@[simp] theorem Tryz.tk_181 : tyk Tryz.prog 181 = some (false, 1) := by kernel_rfl
@[simp] theorem Tryz.zd_181 : zeroD Tryz.prog 181 = some (.raw .nilFunc) := by kernel_rfl
@[simp] theorem Tryz.ez_182 : esz Tryz.prog 182 = some (1, 8) := by kernel_rfl
@[simp] theorem Tryz.sz_182 : szOf Tryz.prog 182 = some 1 := by kernel_rfl
@[simp] theorem Tryz.tk_182 : tyk Tryz.prog 182 = some (false, 1) := by kernel_rfl
@[simp] theorem Tryz.zd_182 : zeroD Tryz.prog 182 = some (.raw .nilFunc) := by kernel_rfl
@[simp] theorem Tryz.ez_183 : esz Tryz.prog 183 = some (1, 8) := by kernel_rfl
@[simp] theorem Tryz.sz_183 : szOf Tryz.prog 183 = some 1 := by kernel_rfl
@[simp] theorem Tryz.tk_183 : tyk Tryz.prog 183 = some (false, 1) := by kernel_rfl
@[simp] theorem Tryz.zd_183 : zeroD Tryz.prog 183 = some (.raw .nilFunc) := by kernel_rfl
@[simp] theorem Tryz.ez_186 : esz Tryz.prog 186 = some (1, 8) := by kernel_rfl
@[simp] theorem Tryz.sz_186 : szOf Tryz.prog 186 = some 1 := by kernel_rfl
@[simp] theorem Tryz.tk_186 : tyk Tryz.prog 186 = some (false, 1) := by kernel_rfl
@[simp] theorem Tryz.zd_186 : zeroD Tryz.prog 186 = some (.raw .nilFunc) := by kernel_rfl
@[simp] theorem Tryz.ez_187 : esz Tryz.prog 187 = some (1, 8) := by kernel_rfl
@[simp] theorem Tryz.sz_187 : szOf Tryz.prog 187 = some 1 := by kernel_rfl
@[simp] theorem Tryz.tk_187 : tyk Tryz.prog 187 = some (false, 1) := by kernel_rfl
@[simp] theorem Tryz.zd_187 : zeroD Tryz.prog 187 = some (.raw .nilFunc) := by kernel_rfl
@[simp] theorem Tryz.u_188 : Program.underlying Tryz.prog 188 = some (.array 256 5) := by kernel_rfl
@[simp] theorem Tryz.ez_188 : esz Tryz.prog 188 = some (256, 256) := by kernel_rfl
@[simp] theorem Tryz.sz_188 : szOf Tryz.prog 188 = some 256 := by kernel_rfl
@[simp] theorem Tryz.tk_188 : tyk Tryz.prog 188 = some (true, 256) := by kernel_rfl
@[simp] theorem Tryz.ez_189 : esz Tryz.prog 189 = some (2, 2) := by kernel_rfl
@[simp] theorem Tryz.sz_189 : szOf Tryz.prog 189 = some 2 := by kernel_rfl
@[simp] theorem Tryz.tk_189 : tyk Tryz.prog 189 = some (true, 2) := by kernel_rfl
@[simp] theorem Tryz.zd_189 : zeroD Tryz.prog 189 = some (.agg [.int .u8 0, .int .u8 0]) := by kernel_rfl
@[simp] theorem Tryz.sd_189 : structD Tryz.prog 189 = some [.int .u8 0, .int .u8 0] := by kernel_rfl
@[simp] theorem Tryz.fo_189_0 : fieldOff Tryz.prog 189 0 = some 0 := by kernel_rfl
@[simp] theorem Tryz.fo_189_1 : fieldOff Tryz.prog 189 1 = some 1 := by kernel_rfl
@[simp] theorem Tryz.ez_192 : esz Tryz.prog 192 = some (1, 8) := by kernel_rfl
@[simp] theorem Tryz.sz_192 : szOf Tryz.prog 192 = some 1 := by kernel_rfl
@[simp] theorem Tryz.tk_192 : tyk Tryz.prog 192 = some (false, 1) := by kernel_rfl
@[simp] theorem Tryz.zd_192 : zeroD Tryz.prog 192 = some (.raw .nilFunc) := by kernel_rfl
@[simp] theorem Tryz.ez_193 : esz Tryz.prog 193 = some (1, 8) := by kernel_rfl
@[simp] theorem Tryz.sz_193 : szOf Tryz.prog 193 = some 1 := by kernel_rfl
@[simp] theorem Tryz.tk_193 : tyk Tryz.prog 193 = some (false, 1) := by kernel_rfl
@[simp] theorem Tryz.zd_193 : zeroD Tryz.prog 193 = some (.raw .nilFunc) := by kernel_rfl
@[simp] theorem Tryz.u_194 : Program.underlying Tryz.prog 194 = some (.array 256 4) := by kernel_rfl
@[simp] theorem Tryz.ez_194 : esz Tryz.prog 194 = some (256, 256) := by kernel_rfl
@[simp] theorem Tryz.sz_194 : szOf Tryz.prog 194 = some 256 := by kernel_rfl
@[simp] theorem Tryz.tk_194 : tyk Tryz.prog 194 = some (true, 256) := by kernel_rfl
@[simp] theorem Tryz.ez_197 : esz Tryz.prog 197 = some (1, 8) := by kernel_rfl
@[simp] theorem Tryz.sz_197 : szOf Tryz.prog 197 = some 1 := by kernel_rfl
@[simp] theorem Tryz.tk_197 : tyk Tryz.prog 197 = some (false, 1) := by kernel_rfl
@[simp] theorem Tryz.zd_197 : zeroD Tryz.prog 197 = some (.raw .nilFunc) := by kernel_rfl
@[simp] theorem Tryz.ez_198 : esz Tryz.prog 198 = some (1, 8) := by kernel_rfl
@[simp] theorem Tryz.sz_198 : szOf Tryz.prog 198 = some 1 := by kernel_rfl
@[simp] theorem Tryz.tk_198 : tyk Tryz.prog 198 = some (false, 1) := by kernel_rfl
@[simp] theorem Tryz.zd_198 : zeroD Tryz.prog 198 = some (.raw .nilFunc) := by kernel_rfl
@[simp] theorem Tryz.ez_200 : esz Tryz.prog 200 = some (1, 8) := by kernel_rfl
@[simp] theorem Tryz.sz_200 : szOf Tryz.prog 200 = some 1 := by kernel_rfl
@[simp] theorem Tryz.tk_200 : tyk Tryz.prog 200 = some (false, 1) := by kernel_rfl
@[simp] theorem Tryz.zd_200 : zeroD Tryz.prog 200 = some (.raw .nilFunc) := by kernel_rfl
@[simp] theorem Tryz.ez_201 : esz Tryz.prog 201 = some (1, 8) := by kernel_rfl
@[simp] theorem Tryz.sz_201 : szOf Tryz.prog 201 = some 1 := by kernel_rfl
@[simp] theorem Tryz.tk_201 : tyk Tryz.prog 201 = some (false, 1) := by kernel_rfl
@[simp] theorem Tryz.zd_201 : zeroD Tryz.prog 201 = some (.raw .nilFunc) := by kernel_rfl
@[simp] theorem Tryz.ez_202 : esz Tryz.prog 202 = some (1, 8) := by kernel_rfl
@[simp] theorem Tryz.sz_202 : szOf Tryz.prog 202 = some 1 := by kernel_rfl
@[simp] theorem Tryz.tk_202 : tyk Tryz.prog 202 = some (false, 1) := by kernel_rfl
@[simp] theorem Tryz.zd_202 : zeroD Tryz.prog 202 = some (.raw .nilFunc) := by kernel_rfl
@[simp] theorem Tryz.ez_210 : esz Tryz.prog 210 = some (1, 8) := by kernel_rfl
@[simp] theorem Tryz.sz_210 : szOf Tryz.prog 210 = some 1 := by kernel_rfl
@[simp] theorem Tryz.tk_210 : tyk Tryz.prog 210 = some (false, 1) := by kernel_rfl
@[simp] theorem Tryz.zd_210 : zeroD Tryz.prog 210 = some (.raw .nilFunc) := by kernel_rfl
@[simp] theorem Tryz.eqs_133 : eqsOk Tryz.prog 133 = true := by kernel_rfl
@[simp] theorem Tryz.lf_133 (a0 b0 : Str) (a1 b1 : Str) : leafOk Tryz.prog (Program.fieldsOf Tryz.prog 133).toList 0 [.str a0, .str a1] [.str b0, .str b1] = true := by kernel_rfl
end Go.Proofs

/- strings.Builder: copyCheck. -/
set_option linter.unusedVariables false
namespace Go.Proofs.Tz
open Go.Vw Go.RowKit Go.Proofs

/-- strings.Builder's size. -/
theorem bld_size : (Tryz.prog.info? 74).map (·.size) = some 2 := by kernel_rfl
theorem bld_lies : liesAt Tryz.prog Tryz.prog.depth 74 (2 / Tryz.prog.cellsOf 74) 0 74 1 = true := by kernel_rfl

set_option maxRecDepth 100000 in
set_option maxHeartbeats 1000000 in
theorem cc_used (b : Nat) (w : World) (h0 : w.cell? ⟨b, 0, none⟩ = some (.pointer (some ⟨b, 0, none⟩))) :
    Calls Tryz.prog 65 #[.pointer (some ⟨b, 0, none⟩)] w fun e w' => e = .returned (.tuple #[]) ∧ w' = w := by
  obtain ⟨j, hj, _⟩ := Option.map_eq_some_iff.1 bld_size
  go_enter Tryz.func65, Tryz.ntmps65
  go_wp2
  rw [Lib.run_neq_ptr_same w _ Tryz.underlying71 hj]
  go_wp2
  go_end0
  exact ⟨rfl, rfl⟩

set_option maxRecDepth 100000 in
set_option maxHeartbeats 1000000 in
theorem cc_fresh (b : Nat) (w : World) (h0 : w.cell? ⟨b, 0, none⟩ = some (.pointer none)) (hsh : w.shape? b = some (74, 2)) (hfz : w.frozen? ⟨b, 0, none⟩ = false) :
    Calls Tryz.prog 65 #[.pointer (some ⟨b, 0, none⟩)] w fun e w' => e = .returned (.tuple #[]) ∧ w' = w.setCell ⟨b, 0, none⟩ (.pointer (some ⟨b, 0, none⟩)) := by
  obtain ⟨j, hj, hjs⟩ := Option.map_eq_some_iff.1 bld_size
  go_enter Tryz.func65, Tryz.ntmps65
  go_wp2
  rw [Lib.run_to_unsafe w ⟨b, 0, none⟩ Tryz.underlying71 Tryz.underlying134 hj (by rw [hjs]; decide) hsh (Nat.zero_lt_succ 1)]
  simp only [Result.andThen]
  rw [Oper.upon_value]
  go_wp2
  rw [run_callFunc_extern Tryz.func115 (by kernel_rfl) (by kernel_rfl) (by kernel_rfl) (e := Extern.AbiNoEscape.same) (by kernel_rfl)]
  rw [Lib.run_noEscape]
  simp only [Result.andThen]
  rw [Oper.upon_value]
  go_wp2
  rw [Lib.run_from_unsafe w ⟨b, 0, none⟩ Tryz.underlying134 Tryz.underlying71 hj hsh bld_lies]
  simp only [Result.andThen]
  rw [Oper.upon_value]
  go_wp2
  go_end0
  exact ⟨rfl, rfl⟩

/-- The address of a variable. -/
abbrev va (b : Nat) : Value := .pointer (some ⟨b, 0, none⟩)

/-- A builder's two cells in memory. -/
theorem bld_cells {w : World} {L : Nat → Nat → Prop} {b : Nat} {p : D} {hd : Value} (hp : p = .nilp ∨ p = .raw (va b))
    (h : BoxT w L (some b) 74 (.agg [p, .raw hd]) (va b)) : ∃ pv, w.heap[b]? = some (.cells #[pv, hd] 74 (0, 0)) ∧ (∀ o, ¬ L b o) ∧ hd.oneCell' = true ∧ vIsAgg hd = false ∧ ((p = .nilp ∧ pv = .pointer none) ∨ (p = .raw (va b) ∧ pv = va b)) := by
  obtain ⟨g, C, h1, h2, h3, h4, h5⟩ := h
  obtain rfl : b = g := by simpa using h1
  simp only [Rep, RepL] at h4
  obtain ⟨css, ⟨c, cs, rfl, hc, c2, cs2, rfl, ⟨rfl, h7, h8⟩, rfl⟩, h6⟩ := h4
  rcases hp with rfl | rfl
  · simp only [Rep] at hc
    subst hc
    have : C = #[.pointer none, hd] := by apply Array.ext'; simpa using h6
    subst this
    exact ⟨_, h3, h5, h7, h8, .inl ⟨rfl, rfl⟩⟩
  · simp only [Rep] at hc
    obtain ⟨rfl, _, _⟩ := hc
    have : C = #[va b, hd] := by apply Array.ext'; simpa using h6
    subst this
    exact ⟨_, h3, h5, h7, h8, .inr ⟨rfl, rfl⟩⟩
theorem bld_laid {w : World} {L : Nat → Nat → Prop} {b : Nat} {hd : Value} (h1 : w.heap[b]? = some (.cells #[va b, hd] 74 (0, 0))) (h2 : ∀ o, ¬ L b o) (h3 : hd.oneCell' = true) (h4 : vIsAgg hd = false) :
    RH Tryz.prog w L (.hb (va b) 74 (.agg [.raw (va b), .raw hd])) := by
  refine ⟨rfl, b, _, rfl, rfl, h1, ?_, h2⟩
  simp only [Rep, RepL]
  exact ⟨[[va b], [hd]], ⟨_, _, rfl, ⟨rfl, rfl, rfl⟩, _, _, rfl, ⟨rfl, h3, h4⟩, rfl⟩, rfl⟩

theorem copyCheck_fn {b : Nat} {p : D} (hp : p = .nilp ∨ p = .raw (va b)) {hd : Value} :
    CtrG Tryz.prog 65 [.d (.raw (va b))] [.hb (va b) 74 (.agg [p, .raw hd])] (fun r hs' => r = .tup [] ∧ hs' = [.hb (va b) 74 (.agg [.raw (va b), .raw hd])]) := by
  refine ⟨enters_of Tryz.func65 (by kernel_rfl) rfl, fun w L vals hlok hv hh _ => ?_⟩
  obtain ⟨v, us, rfl, hv1, hv2⟩ := hv
  obtain rfl : us = [] := hv2
  obtain rfl : v = va b := RepV.raw_inv hv1
  have hb : BoxT w L (some b) 74 (.agg [p, .raw hd]) (va b) := (hh (.hb (va b) 74 (.agg [p, .raw hd])) (by simp)).2
  obtain ⟨pv, e1, e2, e3, e4, e5⟩ := bld_cells hp hb
  have hlt : b < w.heap.size := (Array.getElem?_eq_some_iff.1 e1).1
  rcases e5 with ⟨rfl, rfl⟩ | ⟨rfl, rfl⟩
  · refine (cc_fresh b w (by rw [Lib.cell_of_heap e1]; rfl) (by simp [World.shape?, e1]) (Lib.frozen_of_heap e1 0)).mono ?_
    rintro e w' ⟨rfl, rfl⟩
    have hsz : (w.setCell ⟨b, 0, none⟩ (va b)).heap.size = w.heap.size := by simp [World.setCell]
    refine ⟨_, L, none, .tup [], _, rfl, ⟨rfl, rfl, rfl, Nat.le_of_eq hsz.symm, fun k hk hn => Below.heap_setCell w _ _ k (fun e => hn (by simp [hblk, e]))⟩, fun g q hq => by rw [hsz]; exact hlok g q hq, fun _ _ _ _ => Iff.rfl, fun g hg => ?_, ?_, ⟨[], rfl, rfl⟩, fun x hx => ?_, rfl, rfl⟩
    · simp [hblk] at hg; subst hg; exact ⟨by rw [hsz]; exact hlt, .inr (by simp [hblk])⟩
    · simp [apartB, hblk]
    · simp at hx; subst hx
      refine bld_laid ?_ e2 e3 e4
      simp [World.setCell, Array.getElem?_modify, e1]
  · refine (cc_used b w (by rw [Lib.cell_of_heap e1]; rfl)).mono ?_
    rintro e w' ⟨rfl, rfl⟩
    refine ⟨_, L, none, .tup [], _, rfl, GrownS.refl _ _, hlok, fun _ _ _ _ => Iff.rfl, fun g hg => ?_, ?_, ⟨[], rfl, rfl⟩, fun x hx => ?_, rfl, rfl⟩
    · simp [hblk] at hg; subst hg; exact ⟨hlt, .inr (by simp [hblk])⟩
    · simp [apartB, hblk]
    · simp at hx; subst hx
      exact bld_laid e1 e2 e3 e4
end Go.Proofs.Tz

/- strings.Builder: String. -/
set_option linter.unusedVariables false
namespace Go.Proofs.Tz
open Go.Vw Go.RowKit Go.Proofs

theorem byte_info : (Tryz.prog.info? 5).map (·.size) = some 1 := by kernel_rfl
theorem byte_cells : Tryz.prog.cellsOf 5 = 1 := by kernel_rfl

theorem bytes_cells {w : World} {L : Nat → Nat → Prop} : ∀ {s : Str} {css : List (List Value)}, RepL w L (bytesD s) css → css.flatten = s.map fun c => Value.int .u8 (c.toNat : Int)
  | [], css, h => by simp only [bytesD, List.map_nil, RepL] at h; subst h; rfl
  | c :: s, css, h => by
    simp only [bytesD, List.map_cons, RepL, Rep] at h
    obtain ⟨c1, cs, rfl, rfl, h2⟩ := h
    simp [bytes_cells (s := s) h2]

set_option maxRecDepth 100000 in
set_option maxHeartbeats 1000000 in
theorem bs_row {b g cap : Nat} {p : Value} {l : List UInt8} (w : World) (h0 : l ≠ []) (hbk : w.heap[b]? = some (.cells #[p, .slice (some ⟨g, 0, none⟩) l.length cap] 74 (0, 0))) {cur : Array Value} (hg : w.heap[g]? = some (.cells cur 5 (0, 0)))
    (hnc : l.length ≤ cap) (hcm : cap ≤ maxLen) (hcs : cap ≤ cur.size) (htk : ∀ j x, l[j]? = some x → w.cell? ((⟨g, 0, none⟩ : Addr).add j) = some (.int .u8 x.toNat)) :
    Calls Tryz.prog 39 #[.pointer (some ⟨b, 0, none⟩)] w fun e w' => e = .returned (.string ⟨l.toArray⟩) ∧ w' = w.drew.freeze ⟨g, 0, none⟩ l.length := by
  have hl0 : l.length ≠ 0 := by simpa using h0
  have c1 : w.drew.cell? ⟨b, 1, none⟩ = some (.slice (some ⟨g, 0, none⟩) l.length cap) := by
    have : w.drew.heap[b]? = some (.cells #[p, .slice (some ⟨g, 0, none⟩) l.length cap] 74 (0, 0)) := hbk
    rw [Lib.cell_of_heap this]; rfl
  have hSD : (Builtin.unsafeSliceData_ #[72] 107 #[.slice (some ⟨g, 0, none⟩) l.length cap]).run Tryz.prog w.drew = .ok (.pointer (some ⟨g, 0, none⟩)) w.drew :=
    Lib.run_unsafeSliceData_row _ _ _ _ _ _ (by omega)
  have hUS : (Builtin.unsafeString_ #[107, 3] 9 #[.pointer (some ⟨g, 0, none⟩), .int .i64 l.length]).run Tryz.prog w.drew = .ok (.string ⟨l.toArray⟩) (w.drew.freeze ⟨g, 0, none⟩ l.length) := by
    refine Lib.run_unsafeString_row w.drew 107 3 9 5 Tryz.underlying107 byte_cells g cur.size (by have hg' : w.drew.heap[g]? = some (.cells cur 5 (0, 0)) := hg; simp [World.shape?, hg']) l h0 (by omega) (by unfold maxLen at hcm; omega) ?_
    exact htk
  go_enter Tryz.func39, Tryz.ntmps39
  go_wp2
  go_region
  all_goals (go_wp2; go_ret; exact ⟨rfl, rfl⟩)

theorem bs_none (W : World) (q : Option Addr) : (Builtin.unsafeString_ #[107, 3] 9 #[.pointer q, .int .i64 0]).run Tryz.prog W = .ok (.string .empty) W := Lib.run_unsafeString_none W _ _ _ q

set_option maxRecDepth 100000 in
set_option maxHeartbeats 1000000 in
theorem bs_nil {b : Nat} {p : Value} (w : World) (hbk : w.heap[b]? = some (.cells #[p, .slice none 0 0] 74 (0, 0))) :
    Calls Tryz.prog 39 #[.pointer (some ⟨b, 0, none⟩)] w fun e w' => e = .returned (.string ⟨#[]⟩) ∧ w' = w.drew := by
  have hUS := bs_none
  have c1 : w.drew.cell? ⟨b, 1, none⟩ = some (.slice none 0 0) := by
    have : w.drew.heap[b]? = some (.cells #[p, .slice none 0 0] 74 (0, 0)) := hbk
    rw [Lib.cell_of_heap this]; rfl
  have hSD : (Builtin.unsafeSliceData_ #[72] 107 #[.slice none 0 0]).run Tryz.prog w.drew = .ok (.pointer none) w.drew := rfl
  go_enter Tryz.func39, Tryz.ntmps39
  go_wp2
  go_region
  all_goals (go_wp2; go_ret; exact ⟨rfl, rfl⟩)

set_option maxRecDepth 100000 in
set_option maxHeartbeats 1000000 in
theorem bs_room {b g cap : Nat} {p : Value} (w : World) (hc0 : cap ≠ 0) (hbk : w.heap[b]? = some (.cells #[p, .slice (some ⟨g, 0, none⟩) 0 cap] 74 (0, 0))) :
    Calls Tryz.prog 39 #[.pointer (some ⟨b, 0, none⟩)] w fun e w' => e = .returned (.string ⟨#[]⟩) ∧ w' = w.drew := by
  have hUS := bs_none
  have c1 : w.drew.cell? ⟨b, 1, none⟩ = some (.slice (some ⟨g, 0, none⟩) 0 cap) := by
    have : w.drew.heap[b]? = some (.cells #[p, .slice (some ⟨g, 0, none⟩) 0 cap] 74 (0, 0)) := hbk
    rw [Lib.cell_of_heap this]; rfl
  have hSD : (Builtin.unsafeSliceData_ #[72] 107 #[.slice (some ⟨g, 0, none⟩) 0 cap]).run Tryz.prog w.drew = .ok (.pointer (some ⟨g, 0, none⟩)) w.drew :=
    Lib.run_unsafeSliceData_row _ _ _ _ _ _ hc0
  clear hc0
  go_enter Tryz.func39, Tryz.ntmps39
  go_wp2
  go_region
  all_goals (go_wp2; go_ret; exact ⟨rfl, rfl⟩)

set_option maxRecDepth 100000 in
set_option maxHeartbeats 1000000 in
theorem bs_noroom {b g : Nat} {p : Value} {cur : Array Value} (w : World) (hbk : w.heap[b]? = some (.cells #[p, .slice (some ⟨g, 0, none⟩) 0 0] 74 (0, 0))) (hg : w.heap[g]? = some (.cells cur 5 (0, 0))) :
    Calls Tryz.prog 39 #[.pointer (some ⟨b, 0, none⟩)] w fun e w' => e = .returned (.string ⟨#[]⟩) ∧ (w' = w.drew.alloc (.view ⟨g, 0, none⟩ 5) ∨ w' = (w.alloc (.view ⟨g, 0, none⟩ 5)).drew) := by
  have hUS := bs_none
  have hlt : b < w.heap.size := (Array.getElem?_eq_some_iff.1 hbk).1
  have c1 : w.drew.cell? ⟨b, 1, none⟩ = some (.slice (some ⟨g, 0, none⟩) 0 0) := by
    have : w.drew.heap[b]? = some (.cells #[p, .slice (some ⟨g, 0, none⟩) 0 0] 74 (0, 0)) := hbk
    rw [Lib.cell_of_heap this]; rfl
  have hSD : (Builtin.unsafeSliceData_ #[72] 107 #[.slice (some ⟨g, 0, none⟩) 0 0]).run Tryz.prog w.drew = .ok (.pointer (some ⟨w.drew.heap.size, 0, none⟩)) (w.drew.alloc (.view ⟨g, 0, none⟩ 5)) :=
    Lib.run_unsafeSliceData_zero w.drew _ _ 5 Tryz.underlying107 ⟨g, 0, none⟩ 0 (5, cur.size) (by have hg' : w.drew.heap[g]? = some (.cells cur 5 (0, 0)) := hg; simp [World.shape?, hg'])
  have c2 : (w.drew.alloc (.view ⟨g, 0, none⟩ 5)).cell? ⟨b, 1, none⟩ = some (.slice (some ⟨g, 0, none⟩) 0 0) := by
    have : (w.drew.alloc (.view ⟨g, 0, none⟩ 5)).heap[b]? = _ := (Lib.alloc_old w.drew _ b hlt).trans hbk
    rw [Lib.cell_of_heap this]; rfl
  have c3 : (w.alloc (.view ⟨g, 0, none⟩ 5)).drew.cell? ⟨b, 1, none⟩ = some (.slice (some ⟨g, 0, none⟩) 0 0) := c2
  have c0 : w.cell? ⟨b, 1, none⟩ = some (.slice (some ⟨g, 0, none⟩) 0 0) := c1
  go_enter Tryz.func39, Tryz.ntmps39
  go_wp2
  go_region
  all_goals (go_wp2; go_ret; exact ⟨rfl, .inl rfl⟩)

/-- A builder: its variable's block, its copy-check's pointer, its bytes' head. -/
abbrev bld (b : Nat) (p : D) (hd : Value) (s : Str) : List AV := [.hb (va b) 74 (.agg [p, .raw hd]), .hs hd 5 (bytesD s)]

theorem bytesD_length (s : Str) : (bytesD s).length = s.length := by simp [bytesD]
theorem heap_freeze (w : World) (a : Addr) (n k : Nat) (h : k ≠ a.block) : (w.freeze a n).heap[k]? = w.heap[k]? := by
  unfold World.freeze
  split
  · rfl
  · simp only []
    rw [Array.getElem?_modify, if_neg (fun e => h e.symm)]
theorem size_freeze (w : World) (a : Addr) (n : Nat) : (w.freeze a n).heap.size = w.heap.size := by
  unfold World.freeze
  split
  · rfl
  · simp
theorem size_alloc (w : World) (o : Obj) : (w.alloc o).heap.size = w.heap.size + 1 := by unfold World.alloc; simp
theorem freeze_parts (w : World) (a : Addr) (n : Nat) : (w.freeze a n).os = w.os ∧ (w.freeze a n).tape = w.tape ∧ (w.freeze a n).output = w.output := by
  unfold World.freeze
  split <;> exact ⟨rfl, rfl, rfl⟩

theorem string_fn {b : Nat} {p : D} (hp : p = .nilp ∨ p = .raw (va b)) {hd : Value} {s : Str} :
    CtrG Tryz.prog 39 [.d (.raw (va b))] (bld b p hd s) (fun r hs' => r = .d (.str s) ∧ hs' = []) := by
  refine ⟨enters_of Tryz.func39 (by kernel_rfl) rfl, fun w L vals hlok hv hh hap => ?_⟩
  obtain ⟨v, us, rfl, hv1, hv2⟩ := hv
  obtain rfl : us = [] := hv2
  obtain rfl : v = va b := RepV.raw_inv hv1
  have hb : BoxT w L (some b) 74 (.agg [p, .raw hd]) (va b) := (hh (.hb (va b) 74 (.agg [p, .raw hd])) (by simp)).2
  obtain ⟨pv, e1, e2, e3, e4, e5⟩ := bld_cells hp hb
  have hs : OwnR Tryz.prog w L hd.ownBlock true 5 (bytesD s) hd := (hh (.hs hd 5 (bytesD s)) (by simp)).2
  obtain ⟨css, sz, f1, f2, f3, f4, f5⟩ := hs
  obtain rfl : sz = 1 := by
    have : ety 5 = 5 := rfl
    rw [this, byte_info] at f1; simpa using f1.symm
  have hcs := bytes_cells f2
  have done : ∀ (w' : World), GrownS w w' (fun k => some k ∈ (bld b p hd s).map hblk) → ∀ st : Str, st = s → Ending.returned (.string ⟨st.toArray⟩) = Ending.returned (.string ⟨s.toArray⟩) ∧
      ∃ v L' og r hs', Ending.returned (.string ⟨s.toArray⟩) = Ending.returned v ∧ GrownS w w' (fun k => some k ∈ (bld b p hd s).map hblk) ∧ (∀ b q, L' b q → b < w'.heap.size) ∧ (∀ b' q, b' < w.heap.size → some b' ∉ (bld b p hd s).map hblk → (L' b' q ↔ L b' q)) ∧
      (∀ g, some g ∈ og :: hs'.map hblk → g < w'.heap.size ∧ (w.heap.size ≤ g ∨ some g ∈ (bld b p hd s).map hblk)) ∧ apartB (og :: hs'.map hblk) ∧ RC Tryz.prog w' L' og r v ∧ (∀ x ∈ hs', RH Tryz.prog w' L' x) ∧ (r = .d (.str s) ∧ hs' = []) := by
    intro w' hg st hst
    refine ⟨by rw [hst], _, L, none, .d (.str s), [], rfl, hg, fun b q hq => Nat.lt_of_lt_of_le (hlok b q hq) hg.size, fun _ _ _ _ => Iff.rfl, fun g hgm => by simp at hgm, by simp [apartB], RepV.str, by simp, rfl, rfl⟩
  rcases f4.2 with ⟨rfl, hn⟩ | ⟨g, cap, cur, hv, hh', hnc, hcm, hsz, ht⟩
  · have hs0 : s = [] := by simpa [bytesD] using hn
    subst hs0
    refine (bs_nil w e1).mono ?_
    rintro e w' ⟨rfl, rfl⟩
    exact (done w.drew ⟨rfl, rfl, rfl, Nat.le_refl _, fun _ _ _ => rfl⟩ [] rfl).2
  · subst hv
    rw [bytesD_length] at *
    have hblk1 : (bld b p (.slice (some ⟨g, 0, none⟩) s.length cap) s).map hblk = [some b, some g] := by simp [hblk, Value.ownBlock]
    by_cases h0 : s = []
    · subst h0
      by_cases hc0 : cap = 0
      · subst hc0
        refine (bs_noroom w e1 hh').mono ?_
        rintro e w' ⟨rfl, hw⟩
        refine (done w' ?_ [] rfl).2
        rcases hw with rfl | rfl
        · exact ⟨rfl, rfl, rfl, by rw [size_alloc]; exact Nat.le_succ _, fun k hk _ => Lib.alloc_old w.drew _ k hk⟩
        · exact ⟨rfl, rfl, rfl, by show _ ≤ (w.alloc _).heap.size; rw [size_alloc]; exact Nat.le_succ _, fun k hk _ => Lib.alloc_old w _ k hk⟩
      · refine (bs_room w hc0 e1).mono ?_
        rintro e w' ⟨rfl, rfl⟩
        exact (done w.drew ⟨rfl, rfl, rfl, Nat.le_refl _, fun _ _ _ => rfl⟩ [] rfl).2
    · refine (bs_row w h0 e1 hh' hnc hcm (by omega) (fun j x hx => ?_)).mono ?_
      · have := rowOK.cells f4 (g := g) rfl j (.int .u8 x.toNat) (by rw [hcs, List.getElem?_map, hx]; rfl)
        exact this
      · rintro e w' ⟨rfl, rfl⟩
        refine (done (w.drew.freeze ⟨g, 0, none⟩ s.length) ⟨(freeze_parts _ _ _).1, (freeze_parts _ _ _).2.1, (freeze_parts _ _ _).2.2, by rw [size_freeze]; exact Nat.le_refl _, fun k hk hn => ?_⟩ s rfl).2
        rw [heap_freeze _ _ _ _ (fun e => hn (by rw [hblk1]; simp [e]))]
        rfl
end Go.Proofs.Tz

namespace Go.Proofs.Tz
open Go.Vw
set_option maxRecDepth 100000
set_option maxHeartbeats 4000000
set_option linter.unusedSimpArgs false

/-- One round is over: round k + 1 comes, of at most N. -/
def Again (N k : Nat) (I : Nat → St → Prop) (τ : St) : Prop := ∃ m', m' < N - k ∧ ∃ k', k' ≤ N ∧ m' = N - k' ∧ I k' τ
theorem again {N k : Nat} {I : Nat → St → Prop} {τ : St} (hk : k < N) (h : I (k + 1) τ) : Again N k I τ := ⟨N - (k + 1), by omega, k + 1, hk, rfl, h⟩
theorem loopN {body : (Exit → St → Prop) → St → Prop} {Q : Exit → St → Prop} {σ : St} (N : Nat) (I : Nat → St → Prop) (h0 : I 0 σ)
    (hr : ∀ k τ, k ≤ N → I k τ → body (thenV (Again N k I) Q) τ) : LoopK body Q σ :=
  ⟨fun m τ => ∃ k, k ≤ N ∧ m = N - k ∧ I k τ, N, ⟨0, Nat.zero_le _, rfl, h0⟩, by
    rintro m τ ⟨k, hk, rfl, hI⟩
    exact hr k τ hk hI⟩

theorem take_s {α : Type} {l : List α} {k : Nat} (h : k < l.length) : l.take (k + 1) = l.take k ++ [l[k]] := by
  rw [List.take_succ_eq_append_getElem h]

def strs (l : List Str) : D := .sl (l.map .str)
def u8 (c : UInt8) : D := .int .u8 c.toNat

def isLetter (c : UInt8) : Bool := decide (97 ≤ (c.toNat : Int)) && decide ((c.toNat : Int) ≤ 122) || decide (65 ≤ (c.toNat : Int)) && decide ((c.toNat : Int) ≤ 90)
def isDigit (c : UInt8) : Bool := decide (48 ≤ (c.toNat : Int)) && decide ((c.toNat : Int) ≤ 57)

theorem letter_fn (c : UInt8) : Ctr Tryz.prog 126 [.d (u8 c)] (.d (.bool (isLetter c))) := by
  refine fn_of_vwp (fun _ => false) (by kernel_rfl) Tryz.func126 (by kernel_rfl) rfl rfl (Nat.le_of_ble_eq_true rfl) (by kernel_rfl) rfl rfl ?_
  by_cases h1 : 97 ≤ (c.toNat : Int) <;> by_cases h2 : (c.toNat : Int) ≤ 122 <;> by_cases h3 : 65 ≤ (c.toNat : Int) <;> simp -implicitDefEqProofs [u8, isLetter, h1, h2, h3]
theorem digit_fn (c : UInt8) : Ctr Tryz.prog 127 [.d (u8 c)] (.d (.bool (isDigit c))) := by
  refine fn_of_vwp (fun _ => false) (by kernel_rfl) Tryz.func127 (by kernel_rfl) rfl rfl (Nat.le_of_ble_eq_true rfl) (by kernel_rfl) rfl rfl ?_
  by_cases h1 : 48 ≤ (c.toNat : Int) <;> simp [u8, isDigit, h1]
def lowc (c : UInt8) : UInt8 := if 65 ≤ (c.toNat : Int) ∧ (c.toNat : Int) ≤ 90 then c + 32 else c
def lower (s : Str) : Str := s.map lowc
theorem lowc_toNat (c : UInt8) (h1 : 65 ≤ (c.toNat : Int)) (h2 : (c.toNat : Int) ≤ 90) : ((lowc c).toNat : Int) = c.toNat + 97 - 65 := by
  rw [lowc, if_pos ⟨h1, h2⟩, UInt8.toNat_add]
  have : (32 : UInt8).toNat = 32 := rfl
  omega
theorem bytes_u8 (s : Str) : s.map u8 = bytesD s := rfl
theorem lower_len (s : Str) : (lower s).length = s.length := by simp [lower]
theorem lower_take {s : Str} {k : Nat} (h : k < List.length s) : (lower (s.take (k + 1))).map u8 = (lower (s.take k)).map u8 ++ [u8 (lowc s[k])] := by
  rw [take_s h]; simp only [lower, List.map_append, List.map_cons, List.map_nil]
theorem lower_fn (s : Str) (hs : List.length s < 1000000) : Ctr Tryz.prog 96 [.d (.str s)] (.d (.str (lower s))) := by
  refine fn_of_vwp (fun i => decide (i < 1000000)) (by kernel_rfl) Tryz.func96 (by kernel_rfl) rfl rfl (Nat.le_of_ble_eq_true rfl) (by kernel_rfl) rfl rfl ?_
  simp -implicitDefEqProofs
  refine loopN (List.length s) (fun k τ => τ 0 = .d (.str s) ∧ τ 4 = .d (.int .i64 k) ∧ τ 3 = .own true 5 ((lower (s.take k)).map u8)) (by simp [lower]) ?_
  rintro k τ hk ⟨h0, h4, h3⟩
  by_cases hlt : k < List.length s
  · by_cases h1 : 65 ≤ (s[k].toNat : Int)
    · by_cases h2 : (s[k].toNat : Int) ≤ 90
      · simp -implicitDefEqProofs [h0, h3, h4, hlt, h1, h2, lower_len]
        refine ⟨by omega, by omega, by omega, by omega, again hlt ⟨by simp [h0], by simp, ?_⟩⟩
        simp -implicitDefEqProofs [lower_take hlt, u8, lowc_toNat _ h1 h2]
      · simp -implicitDefEqProofs [h0, h3, h4, hlt, h1, h2, lower_len]
        refine ⟨by omega, by omega, again hlt ⟨by simp [h0], by simp, ?_⟩⟩
        simp -implicitDefEqProofs [lower_take hlt, u8, lowc, h2]
    · simp -implicitDefEqProofs [h0, h3, h4, hlt, h1, lower_len]
      refine ⟨by omega, by omega, again hlt ⟨by simp [h0], by simp, ?_⟩⟩
      simp -implicitDefEqProofs [lower_take hlt, u8, lowc, h1]
  · simp -implicitDefEqProofs [h0, h3, h4, hlt, bytes_u8]
    rw [List.take_of_length_le (by omega)]

def nameC (c : UInt8) : Bool := isLetter c || isDigit c || decide ((c.toNat : Int) = 45)
def nameB (s : Str) : Bool := decide (1 ≤ s.length) && decide (s.length ≤ 64) && (s.head?.any isLetter) && s.all nameC
def cleanC (c : UInt8) : Bool := decide (32 ≤ (c.toNat : Int)) && decide ((c.toNat : Int) ≤ 126)
def cleanB (s : Str) : Bool := decide (1 ≤ s.length) && decide (s.length ≤ 256) && s.head? != some 32 && s.getLast? != some 32 && s.all cleanC

theorem all_take {s : Str} {p : UInt8 → Bool} {k : Nat} (h : k < List.length s) (ha : ∀ x ∈ s.take k, p x = true) (hp : p s[k] = true) : ∀ x ∈ s.take (k + 1), p x = true := by
  rw [take_s h]
  intro x hx
  rcases List.mem_append.1 hx with hx | hx
  · exact ha x hx
  · rw [List.mem_singleton.1 hx]; exact hp
theorem all_not {s : Str} {p : UInt8 → Bool} {k : Nat} (h : k < List.length s) (hp : p s[k] = false) : s.all p = false := by
  rw [List.all_eq_false]; exact ⟨_, List.getElem_mem h, by simp [hp]⟩

theorem name_fn (s : Str) : Ctr Tryz.prog 84 [.d (.str s)] (.d (.bool (nameB s))) := by
  refine fn_of_vwp (fun _ => false) (by kernel_rfl) Tryz.func84 (by kernel_rfl) rfl rfl (Nat.le_of_ble_eq_true rfl) (by kernel_rfl) rfl rfl ?_
  by_cases hs : s = []
  · simp -implicitDefEqProofs [nameB, hs]
  obtain ⟨c, t, hct⟩ : ∃ c t, s = c :: t := List.exists_cons_of_ne_nil hs
  have hpos : 0 < List.length s := by rw [hct]; simp
  have h1 : ¬ ((List.length s : Int) < 1) := by omega
  have hc0 : s[0] = c := by simp [hct]
  have hh : s.head? = some c := by simp [hct]
  by_cases h2 : 64 < (List.length s : Int)
  · have : ¬ List.length s ≤ 64 := by omega
    simp -implicitDefEqProofs [nameB, h1, h2, this]
  have h2' : List.length s ≤ 64 := by omega
  have h1' : 1 ≤ List.length s := hpos
  simp -implicitDefEqProofs [h1, h2, hpos, hc0]
  refine callK (letter_fn c) ?_
  by_cases hc : isLetter c = true
  · simp -implicitDefEqProofs [hc]
    refine loopN (List.length s) (fun k τ => τ 0 = .d (.str s) ∧ τ 3 = .d (.int .i64 k) ∧ ∀ x ∈ s.take k, nameC x = true) (by simp) ?_
    rintro k τ hk ⟨h0, h3, ha⟩
    by_cases hlt : k < List.length s
    · simp -implicitDefEqProofs [h0, h3, hlt]
      refine callK (letter_fn s[k]) ?_
      by_cases e1 : isLetter s[k] = true
      · simp -implicitDefEqProofs [e1, h0, h3, hlt]
        refine ⟨by omega, again hlt ⟨by simp [h0], by simp, ?_⟩⟩
        exact all_take hlt ha (by simp [nameC, e1])
      · simp -implicitDefEqProofs [e1, h0, h3, hlt]
        refine callK (digit_fn s[k]) ?_
        by_cases e2 : isDigit s[k] = true
        · simp -implicitDefEqProofs [e2, h0, h3, hlt]
          refine ⟨by omega, again hlt ⟨by simp [h0], by simp, ?_⟩⟩
          exact all_take hlt ha (by simp [nameC, e2])
        · by_cases e3 : (s[k].toNat : Int) = 45
          · simp -implicitDefEqProofs [e2, e3, h0, h3, hlt]
            refine ⟨by omega, again hlt ⟨by simp [h0], by simp, ?_⟩⟩
            exact all_take hlt ha (by simp [nameC, e3])
          · simp -implicitDefEqProofs [e2, e3, h0, h3, hlt]
            simp -implicitDefEqProofs [nameB, all_not hlt (show nameC s[k] = false by simp [nameC, e1, e2, e3])]
    · simp -implicitDefEqProofs [h0, h3, hlt]
      rw [List.take_of_length_le (by omega)] at ha
      simp -implicitDefEqProofs [nameB, h1', h2', hh, hc]
      exact ha
  · simp -implicitDefEqProofs [hc, nameB, hh]
end Go.Proofs.Tz

/- strings.Builder: WriteByte, WriteString, Len. -/
set_option linter.unusedVariables false
set_option linter.unusedSimpArgs false
namespace Go.Proofs.Tz
open Go.Vw Go.RowKit Go.Proofs

/-- A call to which names are given, with its contract. -/
theorem givB {P : Program} {g : FuncId} {args : List AV} {σ : St} {d : Nat} {K : St → Prop} (ks : List Nat) (b : Nat) {hs : List AV} {Post : AV → List AV → Prop} (h : CtrG P g args hs Post) (h1 : ks.map σ = hs) (h2 : hs.all isH = true) (h3 : ks.Nodup)
    (hk : ∀ r hs', Post r hs' → K (putH (put (takeH σ ks) d r) ks b hs')) : GivK P g args σ d K :=
  ⟨ks, b, Post, fun k hk => by
    have : σ k ∈ hs := by rw [← h1]; exact List.mem_map.2 ⟨k, hk, rfl⟩
    exact List.all_eq_true.1 h2 _ this, h3, by rw [h1]; exact h, hk⟩

/-- The address of a named variable's field. -/
theorem rawFd {P : Program} {s f : Nat} {u : Value} {σ : St} {C : AV → Prop} (j : Nat) {e : TypeId} {ds : List D} (hj : σ j = .hb u e (.agg ds)) (h0 : 1000000 ≤ j) (h1 : f < ds.length) (h2 : fieldOff P s f = some (widths (ds.take f))) (h : C (.adr j [f])) : RawFd P s f u σ C :=
  ⟨j, e, ds, h0, hj, h1, h2, h⟩
theorem appSK {e : TypeId} {t : Str} {l : List D} {u : Value} {σ : St} {d : Nat} {K : St → Prop} (j : Nat) (hj : σ j = .hs u e l) (h2 : l.length + List.length t ≤ 140737488355328)
    (hk : ∀ A c, K (put (put σ j (.hs (.slice A (l ++ bytesD t).length c) e (l ++ bytesD t))) d (.d (.raw (.slice A (l ++ bytesD t).length c))))) : AppSK e t u σ d K := ⟨j, l, .inl hj, h2, hk⟩
@[simp] theorem cval_nilIface : cval Value.nilIface = .undef := rfl

theorem writeByte_fn {b : Nat} {p : D} (hp : p = .nilp ∨ p = .raw (va b)) {hd : Value} {s : Str} (c : UInt8) (hl : s.length + 1 ≤ 140737488355328) :
    CtrG Tryz.prog 61 [.d (.raw (va b)), .d (.int .u8 c.toNat)] (bld b p hd s) (fun r hs' => ∃ hd', hs' = bld b (.raw (va b)) hd' (s ++ [c])) := by
  refine fn_of_vwpGN (fun i => i == 5000006) (by kernel_rfl) (rs := [.tmp 4]) Tryz.func61 (by kernel_rfl) rfl rfl (by simp) (Nat.le_of_ble_eq_true rfl) (by kernel_rfl) rfl ?_
  simp -implicitDefEqProofs [initG]
  refine givB [1000000] 1000000 (copyCheck_fn (hd := hd) hp) (by simp [initG]) rfl (by simp) ?_
  rintro r hs' ⟨rfl, rfl⟩
  simp -implicitDefEqProofs [initG, takeH, putH]
  refine rawFd 1000000 (by simp; exact ⟨rfl, rfl⟩) (by omega) (by simp) (by kernel_rfl) ?_
  simp -implicitDefEqProofs [initG]
  refine appK (l := bytesD s) 1000001 (by simp [initG]) (by simp) (by simp [bytesD]; omega) (by simp [bytesD]; omega) (fun A c2 => ?_)
  simp -implicitDefEqProofs [initG]
  refine rawFd 1000000 (by simp; exact ⟨rfl, rfl⟩) (by omega) (by simp) (by kernel_rfl) ?_
  simp -implicitDefEqProofs [initG]
  refine ⟨[.undef], [1000000, 1000001], by simp, by simp [isH], by simp [resDs, resD], .slice A ((bytesD s).length + 1) c2, by simp [bytesD]⟩

theorem writeString_fn {b : Nat} {p : D} (hp : p = .nilp ∨ p = .raw (va b)) {hd : Value} {s : Str} (t : Str) (hl : s.length + t.length ≤ 140737488355328) :
    CtrG Tryz.prog 36 [.d (.raw (va b)), .d (.str t)] (bld b p hd s) (fun r hs' => ∃ hd', hs' = bld b (.raw (va b)) hd' (s ++ t)) := by
  refine fn_of_vwpGN (fun i => i == 5000007) (by kernel_rfl) (rs := [.tmp 4, .tmp 5]) Tryz.func36 (by kernel_rfl) rfl rfl (by simp) (Nat.le_of_ble_eq_true rfl) (by kernel_rfl) rfl ?_
  simp -implicitDefEqProofs [initG]
  refine givB [1000000] 1000000 (copyCheck_fn (hd := hd) hp) (by simp [initG]) rfl (by simp) ?_
  rintro r hs' ⟨rfl, rfl⟩
  simp -implicitDefEqProofs [initG, takeH, putH]
  refine rawFd 1000000 (by simp; exact ⟨rfl, rfl⟩) (by omega) (by simp) (by kernel_rfl) ?_
  simp -implicitDefEqProofs [initG]
  refine appSK (l := bytesD s) 1000001 (by simp [initG]) (by simp [bytesD]; omega) (fun A c2 => ?_)
  simp -implicitDefEqProofs [initG]
  refine rawFd 1000000 (by simp; exact ⟨rfl, rfl⟩) (by omega) (by simp) (by kernel_rfl) ?_
  simp -implicitDefEqProofs [initG]
  refine ⟨[.undef, .undef], [1000000, 1000001], by simp, by simp [isH], by simp [resDs, resD], .slice A ((bytesD s).length + (bytesD t).length) c2, by simp [bytesD]⟩

/-- A named slice's length is in its head. -/
theorem CtrG.head {P : Program} {f : FuncId} {args hs : List AV} {Post : AV → List AV → Prop} {u : Value} {e : TypeId} {l : List D} (hm : AV.hs u e l ∈ hs) (hE : Enters P f) (h : ∀ A c, u = .slice A l.length c → CtrG P f args hs Post) : CtrG P f args hs Post := by
  refine ⟨hE, fun w L vals hlok hv hh ha => ?_⟩
  obtain ⟨A, c, hu⟩ := OwnR.shape (show OwnR P w L u.ownBlock true e l u from (hh _ hm).2)
  exact (h A c hu).2 w L vals hlok hv hh ha

theorem bLen_fn {b : Nat} {p : D} (hp : p = .nilp ∨ p = .raw (va b)) {hd : Value} {s : Str} :
    CtrG Tryz.prog 38 [.d (.raw (va b))] (bld b p hd s) (fun r hs' => r = .d (.int .i64 s.length) ∧ hs' = bld b p hd s) := by
  refine CtrG.head (u := hd) (e := 5) (l := bytesD s) (by simp) (enters_of Tryz.func38 (by kernel_rfl) rfl) (fun A c hh => ?_)
  subst hh
  refine fn_of_vwpG (fun _ => false) (by kernel_rfl) Tryz.func38 (by kernel_rfl) rfl rfl (Nat.le_of_ble_eq_true rfl) (by kernel_rfl) rfl ?_
  simp -implicitDefEqProofs [initG]
  refine rawFd (e := 74) (ds := [p, .raw (.slice A (bytesD s).length c)]) 1000000 (by simp [initG]) (by omega) (by simp) (by rcases hp with rfl | rfl <;> kernel_rfl) ?_
  simp -implicitDefEqProofs [initG]
  refine ⟨.d (.int .i64 s.length), [1000000, 1000001], by simp, by simp [isH], by simp [ResG, bytesD], by simp [bytesD], by simp [bytesD, initG]⟩
end Go.Proofs.Tz

/- Library functions on bytes that change nothing: IndexByte, Count. -/
set_option linter.unusedVariables false
set_option linter.unusedSimpArgs false
namespace Go.Proofs.Tz
open Go.Vw Go.RowKit Go.Proofs

/-- A function that leaves the world as it was. -/
theorem Ctr.same {P : Program} {f : FuncId} {xs : List D} {r : D} {vs : List Value} {v : Value} (hE : Enters P f) (h : ∀ w, Calls P f vs.toArray w fun e w' => e = .returned v ∧ w' = w)
    (hx : ∀ w L og vals, RCs P w L og (xs.map .d) vals → vals = vs) (hr : ∀ w L, RepV w L r v) : Ctr P f (xs.map .d) (.d r) := by
  refine ⟨hE, fun w L og vals hlok hog hv => ?_⟩
  rw [hx w L og vals hv]
  refine (h w).mono ?_
  rintro e w' ⟨rfl, rfl⟩
  exact ⟨_, L, none, rfl, GrownS.refl _ _, hlok, fun _ _ _ _ => Iff.rfl, by simp, hr _ _⟩

/-- The place of the first byte c; or -1. -/
abbrev ixB (s : Str) (c : UInt8) : Int := Go.Lib.indexByte s c

set_option maxRecDepth 100000 in
set_option maxHeartbeats 1000000 in
theorem indexByteL_any (s : Str) (c : UInt8) (w : World) : Calls Tryz.prog 110 #[.string ⟨s.toArray⟩, .int .u8 c.toNat] w fun e w' => e = .returned (.int .i64 (ixB s c)) ∧ w' = w := by
  go_enter Tryz.func110, Tryz.ntmps110
  go_wp2
  rw [run_callFunc_extern Tryz.func137 (by kernel_rfl) (by kernel_rfl) (by kernel_rfl) (e := Extern.BytealgIndexByte.indexByte) (by kernel_rfl), Lib.run_indexByteString]
  simp only [Result.andThen]
  rw [Oper.upon_value]
  go_wp2
  go_ret
  simp [ixB]

theorem indexByteL_fn (s : Str) (c : UInt8) : Ctr Tryz.prog 110 [.d (.str s), .d (.int .u8 c.toNat)] (.d (.int .i64 (ixB s c))) := by
  refine Ctr.same (xs := [.str s, .int .u8 c.toNat]) (enters_of Tryz.func110 (by kernel_rfl) rfl) (indexByteL_any s c) (fun w L og vals h => ?_) (fun w L => RepV.int)
  obtain ⟨v, us, rfl, h1, v2, us2, rfl, h2, h3⟩ := h
  obtain rfl : us2 = [] := h3
  obtain rfl := RepV.str_inv h1
  obtain rfl := RepV.int_inv h2
  rfl

theorem indexByte_fn (s : Str) (c : UInt8) : Ctr Tryz.prog 62 [.d (.str s), .d (.int .u8 c.toNat)] (.d (.int .i64 (ixB s c))) := by
  refine fn_of_vwp (fun _ => false) (by kernel_rfl) Tryz.func62 (by kernel_rfl) rfl rfl (Nat.le_of_ble_eq_true rfl) (by kernel_rfl) rfl rfl ?_
  simp -implicitDefEqProofs
  refine callK (indexByteL_fn s c) ?_
  simp -implicitDefEqProofs

set_option maxRecDepth 100000 in
set_option maxHeartbeats 1000000 in
theorem count_any (s : Str) (c : UInt8) (hl : s.length ≤ 140737488355328) (w : World) : Calls Tryz.prog 147 #[.string ⟨s.toArray⟩, .string ⟨#[c]⟩] w fun e w' => e = .returned (.int .i64 (s.count c)) ∧ w' = w := by
  go_enter Tryz.func147, Tryz.ntmps147
  go_wp2
  rw [run_callFunc_extern Tryz.func177 (by kernel_rfl) (by kernel_rfl) (by kernel_rfl) (e := Extern.BytealgCount.count) (by kernel_rfl), Lib.run_countString]
  simp only [Result.andThen]
  rw [Oper.upon_value]
  go_wp2
  go_ret
  simp [Lib.countByte]
  rfl

theorem count_fn (s : Str) (c : UInt8) (hl : s.length ≤ 140737488355328) : Ctr Tryz.prog 147 [.d (.str s), .d (.str [c])] (.d (.int .i64 (s.count c))) := by
  refine Ctr.same (xs := [.str s, .str [c]]) (enters_of Tryz.func147 (by kernel_rfl) rfl) (count_any s c hl) (fun w L og vals h => ?_) (fun w L => RepV.int)
  obtain ⟨v, us, rfl, h1, v2, us2, rfl, h2, h3⟩ := h
  obtain rfl : us2 = [] := h3
  obtain rfl := RepV.str_inv h1
  obtain rfl := RepV.str_inv h2
  rfl

theorem ixB_lt {s : Str} {c : UInt8} (h : 0 ≤ ixB s c) : (ixB s c).toNat < s.length := by
  induction s with
  | nil => simp [ixB, Go.Lib.indexByte] at h
  | cons x s ih =>
    simp only [ixB, Go.Lib.indexByte] at h ih ⊢
    split
    · simp
    · split
      · rename_i h1 h2; simp [h1, h2] at h
      · rename_i h1 h2
        simp only [h1, h2] at h
        have h3 : Go.Lib.indexByte s c ≠ -1 := by simpa using h2
        have h4 := Go.Lib.indexByte_ge s c
        have := ih (by omega)
        simp only [List.length_cons]
        omega
theorem ixB_ge (s : Str) (c : UInt8) : -1 ≤ ixB s c := Go.Lib.indexByte_ge s c

theorem indexL_fn (s : Str) (c : UInt8) (hl : s.length ≤ 140737488355328) : Ctr Tryz.prog 118 [.d (.str s), .d (.str [c])] (.d (.int .i64 (ixB s c))) := by
  refine fn_of_vwp (fun _ => false) (by kernel_rfl) Tryz.func118 (by kernel_rfl) rfl rfl (Nat.le_of_ble_eq_true rfl) (by kernel_rfl) rfl rfl ?_
  simp -implicitDefEqProofs
  by_cases hs : [c] = s
  · subst hs
    simp [ixB, Go.Lib.indexByte]
  · simp only [hs, if_false]
    refine callK (indexByteL_fn s c) ?_
    simp -implicitDefEqProofs

/-- strings.Cut at a byte. -/
def cutB (s : Str) (c : UInt8) : Str × Str × Bool := if 0 ≤ ixB s c then (s.take (ixB s c).toNat, s.drop ((ixB s c).toNat + 1), true) else (s, [], false)

theorem cutL_fn (s : Str) (c : UInt8) (hl : s.length ≤ 140737488355328) : Ctr Tryz.prog 72 [.d (.str s), .d (.str [c])] (.tup [.d (.str (cutB s c).1), .d (.str (cutB s c).2.1), .d (.bool (cutB s c).2.2)]) := by
  refine fn_of_vwpN (rv := .tmp 4) (rs := [.tmp 5, .tmp 6]) (r := .d (.str (cutB s c).1)) (ys := [.d (.str (cutB s c).2.1), .d (.bool (cutB s c).2.2)]) (fun _ => false) (by kernel_rfl) Tryz.func72 (by kernel_rfl) rfl rfl (by simp) (Nat.le_of_ble_eq_true rfl) (by kernel_rfl) rfl rfl ?_
  simp -implicitDefEqProofs
  refine callK (indexL_fn s c hl) ?_
  by_cases h : 0 ≤ ixB s c
  · have hlt := ixB_lt h
    obtain ⟨k, hk⟩ := Int.eq_ofNat_of_zero_le h
    rw [hk] at hlt
    have h2 : (0 : Int) ≤ (k : Int) + 1 := by omega
    have h3 : ((k : Int) + 1).toNat = k + 1 := by omega
    simp -implicitDefEqProofs [hk, h2, h3, cutB]
    simp only [Int.toNat_natCast] at hlt
    refine ⟨by omega, by omega, by omega, ?_⟩
    rw [List.take_of_length_le (by simp)]
  · simp -implicitDefEqProofs [h, cutB]

theorem cut_fn (s : Str) (c : UInt8) (hl : s.length ≤ 140737488355328) : Ctr Tryz.prog 41 [.d (.str s), .d (.str [c])] (.tup [.d (.str (cutB s c).1), .d (.str (cutB s c).2.1), .d (.bool (cutB s c).2.2)]) := by
  refine fn_of_vwpN (rv := .tmp 4) (rs := [.tmp 5, .tmp 6]) (r := .d (.str (cutB s c).1)) (ys := [.d (.str (cutB s c).2.1), .d (.bool (cutB s c).2.2)]) (fun _ => false) (by kernel_rfl) Tryz.func41 (by kernel_rfl) rfl rfl (by simp) (Nat.le_of_ble_eq_true rfl) (by kernel_rfl) rfl rfl ?_
  simp -implicitDefEqProofs
  refine callK (cutL_fn s c hl) ?_
  simp -implicitDefEqProofs
end Go.Proofs.Tz

/- codec.plain, identityref02.plain. -/
set_option linter.unusedVariables false
set_option linter.unusedSimpArgs false
namespace Go.Proofs.Tz
open Go.Vw Go.RowKit Go.Proofs

/-- A byte that is written as it is. -/
def plainB (c : UInt8) : Bool := decide ((33 : Int) ≤ c.toNat ∧ (c.toNat : Int) ≤ 126 ∧ ¬ (c.toNat : Int) = 37 ∧ ¬ (c.toNat : Int) = 124 ∧ ¬ (c.toNat : Int) = 44 ∧ ¬ (c.toNat : Int) = 61 ∧ ¬ (c.toNat : Int) = 59 ∧ ¬ (c.toNat : Int) = 34)

theorem plainR_fn (c : UInt8) : Ctr Tryz.prog 117 [.d (.int .u8 c.toNat)] (.d (.bool (plainB c))) := by
  refine fn_of_vwp (fun _ => false) (by kernel_rfl) Tryz.func117 (by kernel_rfl) rfl rfl (Nat.le_of_ble_eq_true rfl) (by kernel_rfl) rfl rfl ?_
  by_cases h1 : (33 : Int) ≤ c.toNat
  · by_cases h2 : (c.toNat : Int) ≤ 126
    · by_cases h3 : (c.toNat : Int) = 37
      · simp -implicitDefEqProofs [h1, h2, h3, plainB]
      by_cases h4 : (c.toNat : Int) = 124
      · simp -implicitDefEqProofs [h1, h2, h3, h4, plainB]
      by_cases h5 : (c.toNat : Int) = 44
      · simp -implicitDefEqProofs [h1, h2, h3, h4, h5, plainB]
      by_cases h6 : (c.toNat : Int) = 61
      · simp -implicitDefEqProofs [h1, h2, h3, h4, h5, h6, plainB]
      by_cases h7 : (c.toNat : Int) = 59
      · simp -implicitDefEqProofs [h1, h2, h3, h4, h5, h6, h7, plainB]
      · simp -implicitDefEqProofs [h1, h2, h3, h4, h5, h6, h7, plainB]
    · simp -implicitDefEqProofs [h1, h2, plainB]
  · simp -implicitDefEqProofs [h1, plainB]

theorem ixB_neg (s : Str) (c : UInt8) : ixB s c < 0 ↔ c ∉ s := by
  induction s with
  | nil => simp [ixB, Go.Lib.indexByte]
  | cons x s ih =>
    have h4 := Go.Lib.indexByte_ge s c
    simp only [ixB, Go.Lib.indexByte] at ih ⊢
    by_cases hx : x = c
    · simp [hx]
    · have hx' : (x == c) = false := by simpa using hx
      simp only [hx', Bool.false_eq_true, if_false, List.mem_cons, not_or]
      by_cases h : Go.Lib.indexByte s c = -1
      · simp [h] at ih ⊢
        exact ⟨fun e => hx e.symm, ih⟩
      · have hn : ¬ Go.Lib.indexByte s c < 0 := by omega
        have h0 : (Go.Lib.indexByte s c == -1) = false := by simpa using h
        simp only [h0, Bool.false_eq_true, if_false]
        constructor
        · intro h5; omega
        · intro h5; exact absurd (ih.2 h5.2) hn

theorem u8_int (c : UInt8) (k : Nat) (hk : k < 256) : ((c.toNat : Int) = k) ↔ c = UInt8.ofNat k := by
  constructor
  · intro h
    have : c.toNat = k := by omega
    rw [← this, UInt8.ofNat_toNat]
  · rintro rfl
    simp [UInt8.toNat_ofNat', Nat.mod_eq_of_lt hk]

theorem ixB_plain (c : UInt8) : decide (ixB [37, 124, 44, 61, 59, 34] c < 0) = decide (¬ (c.toNat : Int) = 37 ∧ ¬ (c.toNat : Int) = 124 ∧ ¬ (c.toNat : Int) = 44 ∧ ¬ (c.toNat : Int) = 61 ∧ ¬ (c.toNat : Int) = 59 ∧ ¬ (c.toNat : Int) = 34) := by
  have h1 : ((c.toNat : Int) = 37) ↔ c = 37 := u8_int c 37 (by omega)
  have h2 : ((c.toNat : Int) = 124) ↔ c = 124 := u8_int c 124 (by omega)
  have h3 : ((c.toNat : Int) = 44) ↔ c = 44 := u8_int c 44 (by omega)
  have h4 : ((c.toNat : Int) = 61) ↔ c = 61 := u8_int c 61 (by omega)
  have h5 : ((c.toNat : Int) = 59) ↔ c = 59 := u8_int c 59 (by omega)
  have h6 : ((c.toNat : Int) = 34) ↔ c = 34 := u8_int c 34 (by omega)
  rw [decide_eq_decide, ixB_neg, h1, h2, h3, h4, h5, h6]
  simp

theorem plain_fn (c : UInt8) : Ctr Tryz.prog 60 [.d (.int .u8 c.toNat)] (.d (.bool (plainB c))) := by
  refine fn_of_vwp (fun _ => false) (by kernel_rfl) Tryz.func60 (by kernel_rfl) rfl rfl (Nat.le_of_ble_eq_true rfl) (by kernel_rfl) rfl rfl ?_
  by_cases h1 : (33 : Int) ≤ c.toNat
  · by_cases h2 : (c.toNat : Int) ≤ 126
    · simp -implicitDefEqProofs [h1, h2]
      refine callK (indexByte_fn _ c) ?_
      simp -implicitDefEqProofs [h1, h2, plainB]
      rw [ixB_plain]
      simp
    · simp -implicitDefEqProofs [h1, h2, plainB]
  · simp -implicitDefEqProofs [h1, plainB]
end Go.Proofs.Tz

/- Escape. -/
set_option maxRecDepth 100000
set_option maxHeartbeats 4000000
set_option linter.unusedVariables false
set_option linter.unusedSimpArgs false
namespace Go.Proofs.Tz
open Go.Vw Go.RowKit Go.Proofs

abbrev hexDs : Str := [48, 49, 50, 51, 52, 53, 54, 55, 56, 57, 65, 66, 67, 68, 69, 70]
def hexC (n : Nat) : UInt8 := hexDs.getD n 0
def escB (c : UInt8) : Str := if plainB c then [c] else [37, hexC (c.toNat / 16), hexC (c.toNat % 16)]
def escS (s : Str) : Str := s.flatMap escB

theorem escB_len (c : UInt8) : (escB c).length ≤ 3 := by unfold escB; split <;> simp
theorem escS_len (s : Str) : (escS s).length ≤ 3 * s.length := by
  induction s with
  | nil => simp [escS]
  | cons c s ih =>
    have := escB_len c
    simp only [escS, List.flatMap_cons, List.length_append, List.length_cons] at ih ⊢
    omega
theorem escS_take {s : Str} {k : Nat} (h : k < List.length s) : escS (s.take (k + 1)) = escS (s.take k) ++ escB s[k] := by
  rw [take_s h]; simp only [escS, List.flatMap_append, List.flatMap_cons, List.flatMap_nil, List.append_nil]
theorem u8_lt (c : UInt8) : c.toNat < 256 := c.toNat_lt

theorem hex_at {n : Nat} (h : n < 16) : hexDs[n]? = some (hexC n) := by
  simp only [hexC, List.getD_eq_getElem?_getD]
  rw [List.getElem?_eq_getElem (by simpa using h)]
  rfl
theorem hexQ (c : UInt8) : (0 : Int) ≤ (c.toNat : Int) / 16 ∧ (c.toNat : Int) / 16 ≤ 255 ∧ ((c.toNat : Int) / 16).toNat = c.toNat / 16 ∧ [48, 49, 50, 51, 52, 53, 54, 55, 56, 57, 65, 66, 67, 68, 69, 70][c.toNat / 16]? = some (hexC (c.toNat / 16)) ∧ c.toNat / 16 < 16 := by
  have := c.toNat_lt
  exact ⟨by omega, by omega, by omega, hex_at (by omega), by omega⟩
theorem hexR (c : UInt8) : (0 : Int) ≤ (c.toNat : Int) % 16 ∧ ((c.toNat : Int) % 16).toNat = c.toNat % 16 ∧ [48, 49, 50, 51, 52, 53, 54, 55, 56, 57, 65, 66, 67, 68, 69, 70][c.toNat % 16]? = some (hexC (c.toNat % 16)) := by
  have := c.toNat_lt
  exact ⟨by omega, by omega, hex_at (by omega)⟩

theorem escapeR_fn (s : Str) (hs : List.length s < 1000000) : Ctr Tryz.prog 69 [.d (.str s)] (.d (.str (escS s))) := by
  refine fn_of_vwp (fun i => decide (i < 1000000)) (by kernel_rfl) Tryz.func69 (by kernel_rfl) rfl rfl (Nat.le_of_ble_eq_true rfl) (by kernel_rfl) rfl rfl ?_
  simp -implicitDefEqProofs
  refine loopN (List.length s) (fun k τ => τ 0 = .d (.str s) ∧ τ 4 = .d (.int .i64 k) ∧ τ 3 = .own true 5 (bytesD (escS (s.take k)))) (by simp [escS, bytesD]) ?_
  rintro k τ hk ⟨h0, h4, h3⟩
  by_cases hlt : k < List.length s
  · simp -implicitDefEqProofs [h0, h3, h4, hlt]
    refine callK (plainR_fn s[k]) ?_
    have h5 := escS_len (s.take k)
    rw [List.length_take, Nat.min_eq_left (by omega)] at h5
    have h6 := escS_take hlt
    have h7 : (escB s[k]).length ≤ 3 := escB_len _
    by_cases hp : plainB s[k] = true
    · simp -implicitDefEqProofs [h0, h3, h4, hlt, hp, bytesD_length]
      refine ⟨by omega, by omega, again hlt ⟨by simp [h0], by simp, ?_⟩⟩
      simp [h6, escB, hp, bytesD]
    · obtain ⟨q1, q2, q3, q4, q5⟩ := hexQ s[k]
      obtain ⟨r1, r2, r3⟩ := hexR s[k]
      simp -implicitDefEqProofs [h0, h3, h4, hlt, hp, bytesD_length, q1, q2, q3, q4, r1, r2, r3]
      refine ⟨by decide, by omega, by omega, again hlt ⟨by simp [h0], by simp, ?_⟩⟩
      simp [h6, escB, hp, bytesD]
  · simp -implicitDefEqProofs [h0, h3, h4, hlt]
    rw [List.take_of_length_le (by omega)]

/-- A new variable gets a name, and so does a nil slice in it. -/
theorem newK2 {P : Program} {e : TypeId} {z : D} {σ : St} {d : Nat} {K : St → Prop} (j k : Nat) (e' : TypeId) (h1 : σ k = .undef) (h2 : (P.info? (ety e')).isSome = true) (h3 : σ j = .undef) (hjk : j ≠ k)
    (hK : ∀ g, K (put (put (put σ k (.hs (.slice none 0 0) e' [])) j (.hb (va g) e z)) d (.d (.raw (va g))))) : NewK P e z σ d K :=
  ⟨j, some (k, e'), ⟨h1, h2⟩, by simp [nilN, hjk, h3], hK⟩

theorem zTX61 : zeroTX Tryz.prog true 8 74 = .agg [.nilp, .raw (.slice none 0 0)] := by kernel_rfl

def BldAt (τ : St) (b : Nat) (s : Str) : Prop := ∃ p hd, (p = .nilp ∨ p = .raw (va b)) ∧ τ 1000000 = .hb (va b) 74 (.agg [p, .raw hd]) ∧ τ 1000001 = .hs hd 5 (bytesD s)

theorem escape_fn (s : Str) (hs : List.length s < 1000000) : Ctr Tryz.prog 32 [.d (.str s)] (.d (.str (escS s))) := by
  refine fn_of_vwp (fun i => i == 1000003 || i == 5000017 || i == 5000018 || i == 5000022 || i == 5000026 || i == 5000028) (by kernel_rfl) Tryz.func32 (by kernel_rfl) rfl rfl (Nat.le_of_ble_eq_true rfl) (by kernel_rfl) rfl rfl ?_
  simp -implicitDefEqProofs
  refine newK2 1000000 1000001 5 (by simp) (by kernel_rfl) (by simp) (by simp) (fun b => ?_)
  simp -implicitDefEqProofs
  refine loopN (List.length s) (fun k τ => τ 0 = .d (.str s) ∧ τ 8 = .d (.int .i64 k) ∧ τ 7 = .d (.int .i64 s.length) ∧ τ 3 = .d (.raw (va b)) ∧ BldAt τ b (escS (s.take k))) ?_ ?_
  · exact ⟨by simp, by simp, by simp, by simp, .nilp, .slice none 0 0, .inl rfl, by simp [zTX61], by simp [escS, bytesD]⟩
  rintro k τ hk ⟨h0, h8, h7, h3, p, hd, hp, hb, hh⟩
  by_cases hlt : k < List.length s
  · have h5 := escS_len (s.take k)
    rw [List.length_take, Nat.min_eq_left (by omega)] at h5
    have h6 := escS_take hlt
    simp -implicitDefEqProofs [h0, h3, h7, h8, hlt]
    refine callK (plain_fn s[k]) ?_
    by_cases hpl : plainB s[k] = true
    · simp -implicitDefEqProofs [h0, h3, h7, h8, hlt, hpl]
      refine givB [1000000, 1000001] 1000000 (writeByte_fn (s := escS (s.take k)) (hd := hd) hp s[k] (by omega)) (by simp [hb, hh]) rfl (by simp) ?_
      rintro r hs' ⟨hd1, rfl⟩
      simp -implicitDefEqProofs [h0, h3, h7, h8, hlt, takeH, putH]
      refine ⟨by omega, again hlt ⟨by simp [h0], by simp, by simp [h7], by simp [h3], .raw (va b), hd1, .inr rfl, by simp, by simp [h6, escB, hpl]⟩⟩
    · obtain ⟨q1, q2, q3, q4, q5⟩ := hexQ s[k]
      obtain ⟨r1, r2, r3⟩ := hexR s[k]
      simp -implicitDefEqProofs [h0, h3, h7, h8, hlt, hpl]
      refine givB [1000000, 1000001] 1000000 (writeByte_fn (s := escS (s.take k)) (hd := hd) hp 37 (by omega)) (by simp [hb, hh]) rfl (by simp) ?_
      rintro r hs' ⟨hd1, rfl⟩
      have hand : s[k].toNat &&& 15 = s[k].toNat % 16 := Nat.and_two_pow_sub_one_eq_mod s[k].toNat 4
      have hlt8 : s[k].toNat ≤ 255 := by have := s[k].toNat_lt; omega
      simp -implicitDefEqProofs [h0, h3, h7, h8, hlt, takeH, putH, q1, q2, q3, q4]
      refine givB [1000000, 1000001] 1000000 (writeByte_fn (b := b) (s := escS (s.take k) ++ [37]) (hd := hd1) (.inr rfl) (hexC (s[k].toNat / 16)) (by simp; omega)) (by simp) rfl (by simp) ?_
      rintro r hs' ⟨hd2, rfl⟩
      simp -implicitDefEqProofs [h0, h3, h7, h8, hlt, takeH, putH, hand, r3, q1, q2, r1, r2, hlt8]
      refine ⟨by omega, ?_⟩
      refine givB [1000000, 1000001] 1000000 (writeByte_fn (b := b) (s := escS (s.take k) ++ [37] ++ [hexC (s[k].toNat / 16)]) (hd := hd2) (.inr rfl) (hexC (s[k].toNat % 16)) (by simp; omega)) (by simp) rfl (by simp) ?_
      rintro r hs' ⟨hd3, rfl⟩
      simp -implicitDefEqProofs [h0, h3, h7, h8, hlt, takeH, putH]
      refine ⟨by omega, again hlt ⟨by simp [h0], by simp, by simp [h7], by simp [h3], .raw (va b), hd3, .inr rfl, by simp, by simp [h6, escB, hpl]⟩⟩
  · simp -implicitDefEqProofs [h0, h3, h7, h8, hlt]
    rw [List.take_of_length_le (by omega)] at hh
    refine givB [1000000, 1000001] 1000000 (string_fn (s := escS s) (hd := hd) hp) (by simp [hb, hh]) rfl (by simp) ?_
    rintro r hs' ⟨rfl, rfl⟩
    simp -implicitDefEqProofs [h0, h3, h7, h8, hlt, takeH, putH]
end Go.Proofs.Tz

/- Unescape: the plain law. -/
set_option linter.unusedVariables false
set_option linter.unusedSimpArgs false
namespace Go.Proofs.Tz
open Go.Vw Go.RowKit Go.Proofs

/-- A hexadecimal digit's value, or -1. -/
abbrev hexV (c : UInt8) : Int := ixB hexDs c
def hx (h l : UInt8) : UInt8 := UInt8.ofNat (16 * (hexV h).toNat + (hexV l).toNat)

def unesc : Str → Option Str
  | [] => some []
  | c :: r => if plainB c then (unesc r).map (c :: ·) else if c = 37 then (match r with
    | h :: l :: r' => if 0 ≤ hexV h ∧ 0 ≤ hexV l ∧ plainB (hx h l) = false then (unesc r').map (hx h l :: ·) else none
    | _ => none) else none
  termination_by s => s.length

def decR : Str → Option Str
  | [] => some []
  | c :: r => if c ≠ 37 then (decR r).map (c :: ·) else (match r with
    | h :: l :: r' => if 0 ≤ hexV h ∧ 0 ≤ hexV l then (decR r').map (hx h l :: ·) else none
    | _ => none)
  termination_by s => s.length

theorem unesc_nil : unesc [] = some [] := by rw [unesc.eq_def]
theorem unesc_cons (c : UInt8) (r : Str) : unesc (c :: r) = if plainB c then (unesc r).map (c :: ·) else if c = 37 then (match r with
    | h :: l :: r' => if 0 ≤ hexV h ∧ 0 ≤ hexV l ∧ plainB (hx h l) = false then (unesc r').map (hx h l :: ·) else none
    | _ => none) else none := by rw [unesc.eq_def]; rfl
theorem decR_nil : decR [] = some [] := by rw [decR.eq_def]
theorem decR_cons (c : UInt8) (r : Str) : decR (c :: r) = if c ≠ 37 then (decR r).map (c :: ·) else (match r with
    | h :: l :: r' => if 0 ≤ hexV h ∧ 0 ≤ hexV l then (decR r').map (hx h l :: ·) else none
    | _ => none) := by rw [decR.eq_def]; rfl

theorem hexV_hexC : ∀ n, n < 16 → hexV (hexC n) = n := by decide
theorem hexV_lt (c : UInt8) (h : 0 ≤ hexV c) : (hexV c).toNat < 16 := by
  have := ixB_lt h
  simpa using this
theorem hexC_hexV (c : UInt8) (h : 0 ≤ hexV c) : hexC (hexV c).toNat = c := by
  have h1 : ∀ (s : Str), 0 ≤ ixB s c → s.getD (ixB s c).toNat 0 = c := by
    intro s
    induction s with
    | nil => intro h; simp [ixB, Go.Lib.indexByte] at h
    | cons x s ih =>
      intro h
      have hge := Go.Lib.indexByte_ge s c
      simp only [ixB, Go.Lib.indexByte] at h ih ⊢
      by_cases hx : (x == c) = true
      · rw [if_pos hx]; simpa using hx
      · rw [if_neg hx] at h ⊢
        by_cases h2 : (Go.Lib.indexByte s c == -1) = true
        · rw [if_pos h2] at h; simp at h
        · rw [if_neg h2] at h ⊢
          have h3 : 0 ≤ Go.Lib.indexByte s c := by
            have : Go.Lib.indexByte s c ≠ -1 := by simpa using h2
            omega
          have h4 : (Go.Lib.indexByte s c + 1).toNat = (Go.Lib.indexByte s c).toNat + 1 := by omega
          rw [h4, List.getD_cons_succ]
          exact ih h3
  exact h1 hexDs h
theorem hx_nat (h l : UInt8) (h1 : 0 ≤ hexV h) (h2 : 0 ≤ hexV l) : (hx h l).toNat = 16 * (hexV h).toNat + (hexV l).toNat := by
  have := hexV_lt h h1
  have := hexV_lt l h2
  rw [hx, UInt8.toNat_ofNat']
  omega
theorem hx_hexC (c : UInt8) : hx (hexC (c.toNat / 16)) (hexC (c.toNat % 16)) = c := by
  have := c.toNat_lt
  rw [hx, hexV_hexC _ (by omega), hexV_hexC _ (by omega)]
  have : 16 * ((c.toNat / 16 : Nat) : Int).toNat + ((c.toNat % 16 : Nat) : Int).toNat = c.toNat := by omega
  rw [this, UInt8.ofNat_toNat]
theorem plain37 : plainB 37 = false := by decide

theorem unesc_esc (t : Str) : unesc (escS t) = some t := by
  induction t with
  | nil => simp [escS, unesc_nil]
  | cons c t ih =>
    have e : escS (c :: t) = escB c ++ escS t := by simp [escS]
    rw [e]
    have := c.toNat_lt
    by_cases hp : plainB c = true
    · simp [escB, hp, unesc_cons, ih]
    · have hp' : plainB c = false := by simpa using hp
      simp only [escB, hp', Bool.false_eq_true, if_false, List.cons_append, List.nil_append]
      rw [unesc_cons]
      simp only
      rw [hexV_hexC _ (by omega), hexV_hexC _ (by omega), hx_hexC]
      have b1 : (0 : Int) ≤ ((c.toNat / 16 : Nat) : Int) := Int.natCast_nonneg _
      have b2 : (0 : Int) ≤ ((c.toNat % 16 : Nat) : Int) := Int.natCast_nonneg _
      rw [if_neg (by simp [plain37]), if_pos trivial, if_pos ⟨b1, b2, hp'⟩, ih]
      rfl

theorem unesc_dec : ∀ (n : Nat) (s t : Str), s.length ≤ n → unesc s = some t → decR s = some t ∧ escS t = s := by
  intro n
  induction n with
  | zero =>
    intro s t hn h
    have : s = [] := List.length_eq_zero_iff.1 (by omega)
    subst this
    simp [unesc_nil] at h
    subst h
    simp [decR_nil, escS]
  | succ n ih =>
    intro s t hn h
    cases s with
    | nil => simp [unesc_nil] at h; subst h; simp [decR_nil, escS]
    | cons c r =>
      rw [unesc_cons] at h
      by_cases hp : plainB c = true
      · rw [if_pos hp] at h
        obtain ⟨u, hu, rfl⟩ := Option.map_eq_some_iff.1 h
        obtain ⟨h1, h2⟩ := ih r u (by simp at hn; omega) hu
        have hne : c ≠ 37 := by rintro rfl; simp [plain37] at hp
        rw [decR_cons, if_pos hne, h1]
        exact ⟨rfl, by simp [escS, escB, hp, ← h2]⟩
      · rw [if_neg hp] at h
        by_cases hc : c = 37
        · rw [if_pos hc] at h
          subst hc
          match r, h with
          | a :: l :: r', h =>
            simp only at h
            split at h
            · rename_i hh
              obtain ⟨u, hu, rfl⟩ := Option.map_eq_some_iff.1 h
              obtain ⟨h1, h2⟩ := ih r' u (by simp at hn; omega) hu
              rw [decR_cons]
              simp only [ne_eq, not_true_eq_false, if_false]
              rw [if_pos ⟨hh.1, hh.2.1⟩, h1]
              refine ⟨rfl, ?_⟩
              have e1 := hx_nat a l hh.1 hh.2.1
              have l1 := hexV_lt a hh.1
              have l2 := hexV_lt l hh.2.1
              have q1 : (hx a l).toNat / 16 = (hexV a).toNat := by omega
              have q2 : (hx a l).toNat % 16 = (hexV l).toNat := by omega
              have : escS (hx a l :: u) = escB (hx a l) ++ escS u := by simp [escS]
              rw [this, escB, hh.2.2, h2, q1, q2, hexC_hexV a hh.1, hexC_hexV l hh.2.1]
              simp
            · cases h
          | [a], h => simp at h
          | [], h => simp at h
        · rw [if_neg hc] at h; cases h

/-- What identityref02.Unescape computes. -/
theorem unescR_eq (s : Str) : (match decR s with
    | some t => if escS t = s then some t else none
    | none => none) = unesc s := by
  cases hu : unesc s with
  | some t =>
    obtain ⟨h1, h2⟩ := unesc_dec _ s t (Nat.le_refl _) hu
    rw [h1]; simp [h2]
  | none =>
    cases hd : decR s with
    | none => rfl
    | some t =>
      by_cases he : escS t = s
      · have := unesc_esc t
        rw [he, hu] at this
        cases this
      · simp [he]

theorem drop_s {s : Str} {k : Nat} (h : k < List.length s) : s.drop k = s[k] :: s.drop (k + 1) := List.drop_eq_getElem_cons h
end Go.Proofs.Tz

/- Unescape: the walks. -/
set_option maxRecDepth 100000
set_option maxHeartbeats 4000000
set_option linter.unusedVariables false
set_option linter.unusedSimpArgs false
namespace Go.Proofs.Tz
open Go.Vw Go.RowKit Go.Proofs

theorem again' {N k k' : Nat} {I : Nat → St → Prop} {τ : St} (hk : k < k') (hk' : k' ≤ N) (h : I k' τ) : Again N k I τ := ⟨N - k', by omega, k', hk', rfl, h⟩

theorem ixB_at {c : UInt8} : ∀ {s : Str} {k : Nat} (h : k < s.length), s[k] = c → c ∉ s.take k → ixB s c = k
  | [], k, h, _, _ => by simp at h
  | x :: s, 0, h, he, _ => by
    simp only [List.getElem_cons_zero] at he
    simp [ixB, Go.Lib.indexByte, he]
  | x :: s, k + 1, h, he, hn => by
    simp only [List.take_succ_cons, List.mem_cons, not_or] at hn
    have := ixB_at (s := s) (k := k) (by simpa using h) (by simpa using he) hn.2
    have hx : (x == c) = false := by simpa using fun e => hn.1 e.symm
    simp only [ixB] at this
    simp only [ixB, Go.Lib.indexByte, hx, this]
    have h2 : ((k : Int) == -1) = false := by simp
    simp [h2]
theorem ixB_no {s : Str} {c : UInt8} (h : c ∉ s) : ixB s c = -1 := by
  have h1 := (ixB_neg s c).2 h
  have h2 := ixB_ge s c
  omega

theorem digitH_fn (c : UInt8) : Ctr Tryz.prog 120 [.d (.int .u8 c.toNat)] (.d (.int .i64 (ixB hexDs c))) := by
  refine fn_of_vwp (fun _ => false) (by kernel_rfl) Tryz.func120 (by kernel_rfl) rfl rfl (Nat.le_of_ble_eq_true rfl) (by kernel_rfl) rfl rfl ?_
  simp -implicitDefEqProofs
  refine loopN 16 (fun k τ => τ 0 = .d (.int .u8 c.toNat) ∧ τ 3 = .d (.int .i64 k) ∧ c ∉ hexDs.take k) (by simp) ?_
  rintro k τ hk ⟨h0, h3, hn⟩
  by_cases hlt : k < 16
  · have hix : [48, 49, 50, 51, 52, 53, 54, 55, 56, 57, 65, 66, 67, 68, 69, 70][k]? = some (hexC k) := hex_at hlt
    have hlt' : (k : Int) < 16 := by omega
    have hget : ∀ h : k < hexDs.length, hexDs[k] = hexC k := fun h => by
      have := hex_at hlt
      rw [List.getElem?_eq_getElem h] at this
      simpa using this
    by_cases he : (hexC k).toNat = c.toNat
    · have he2 : hexC k = c := UInt8.toNat_inj.1 he
      simp -implicitDefEqProofs [h0, h3, hlt', hix, he]
      exact (ixB_at (by simpa using hlt) (by rw [hget]; exact he2) hn).symm
    · have he1 : ¬ ((hexC k).toNat : Int) = c.toNat := by omega
      have he2 : hexC k ≠ c := fun e => he (by rw [e])
      simp -implicitDefEqProofs [h0, h3, hlt', hix, he1]
      refine ⟨by omega, again hlt ⟨by simp [h0], by simp, ?_⟩⟩
      rw [take_s (show k < hexDs.length by simpa using hlt), List.mem_append, List.mem_singleton]
      rintro (h | h)
      · exact hn h
      · exact he2 (by rw [h, hget])
  · have hk16 : k = 16 := by omega
    subst hk16
    simp -implicitDefEqProofs [h0, h3]
    exact (ixB_no (by simpa using hn)).symm

def unescP (s : Str) : Str × Int := match unesc s with
  | some t => (t, 0)
  | none => ([], 4)

theorem unesc_len : ∀ (n : Nat) (s t : Str), s.length ≤ n → unesc s = some t → t.length ≤ s.length := by
  intro n
  induction n with
  | zero =>
    intro s t hn h
    have : s = [] := List.length_eq_zero_iff.1 (by omega)
    subst this
    simp [unesc_nil] at h
    subst h; simp
  | succ n ih =>
    intro s t hn h
    cases s with
    | nil => simp [unesc_nil] at h; subst h; simp
    | cons c r =>
      rw [unesc_cons] at h
      split at h
      · obtain ⟨u, hu, rfl⟩ := Option.map_eq_some_iff.1 h
        have := ih r u (by simpa using hn) hu
        simpa using this
      · split at h
        · split at h
          · split at h
            · obtain ⟨u, hu, rfl⟩ := Option.map_eq_some_iff.1 h
              have := ih _ u (by simp at hn; omega) hu
              simp at this ⊢; omega
            · cases h
          · cases h
        · cases h

theorem unesc_short {r : Str} (h : r.length ≤ 1) : unesc (37 :: r) = none := by
  rw [unesc_cons, if_neg (by simp [plain37]), if_pos rfl]
  match r, h with
  | [], _ => rfl
  | [_], _ => rfl
  | _ :: _ :: _, h => simp at h
theorem unesc_two (a l : UInt8) (r : Str) : unesc (37 :: a :: l :: r) = if 0 ≤ hexV a ∧ 0 ≤ hexV l ∧ plainB (hx a l) = false then (unesc r).map (hx a l :: ·) else none := by
  rw [unesc_cons, if_neg (by simp [plain37]), if_pos rfl]
theorem unesc_bad {c : UInt8} {r : Str} (h1 : ¬ plainB c = true) (h2 : c ≠ 37) : unesc (c :: r) = none := by
  rw [unesc_cons, if_neg h1, if_neg h2]
theorem unescP_none {s : Str} (h : unesc s = none) : unescP s = ([], 4) := by simp [unescP, h]
theorem unescP_some {s t : Str} (h : unesc s = some t) : unescP s = (t, 0) := by simp [unescP, h]

theorem unescape_fn (s : Str) (hs : List.length s < 1000000) : Ctr Tryz.prog 33 [.d (.str s)] (.tup [.d (.str (unescP s).1), .d (.int .i64 (unescP s).2)]) := by
  refine fn_of_vwpN (rv := .tmp 2) (rs := [.tmp 3]) (r := .d (.str (unescP s).1)) (ys := [.d (.int .i64 (unescP s).2)]) (fun i => i == 1000004 || i == 5000021 || i == 5000062 || i == 5000065) (by kernel_rfl) Tryz.func33 (by kernel_rfl) rfl rfl (by simp) (Nat.le_of_ble_eq_true rfl) (by kernel_rfl) rfl rfl ?_
  simp -implicitDefEqProofs
  refine newK2 1000000 1000001 5 (by simp) (by kernel_rfl) (by simp) (by simp) (fun b => ?_)
  simp -implicitDefEqProofs
  refine loopN (List.length s) (fun k τ => τ 0 = .d (.str s) ∧ τ 5 = .d (.int .i64 k) ∧ τ 4 = .d (.raw (va b)) ∧ ∃ out, BldAt τ b out ∧ out.length ≤ k ∧ unesc s = (unesc (s.drop k)).map (out ++ ·)) ?_ ?_
  · exact ⟨by simp, by simp, by simp, [], ⟨.nilp, .slice none 0 0, .inl rfl, by simp [zTX61], by simp [bytesD]⟩, by simp, by simp⟩
  rintro k τ hk ⟨h0, h5, h4, out, ⟨p, hd, hp, hb, hh⟩, hol, hu⟩
  by_cases hlt : k < List.length s
  · have hdr := drop_s hlt
    simp -implicitDefEqProofs [h0, h4, h5, hlt]
    refine callK (plain_fn s[k]) ?_
    by_cases hpl : plainB s[k] = true
    · simp -implicitDefEqProofs [h0, h4, h5, hlt, hpl]
      refine givB [1000000, 1000001] 1000000 (writeByte_fn (s := out) (hd := hd) hp s[k] (by omega)) (by simp [hb, hh]) rfl (by simp) ?_
      rintro r hs' ⟨hd1, rfl⟩
      simp -implicitDefEqProofs [h0, h4, h5, hlt, takeH, putH]
      refine ⟨by omega, again hlt ⟨by simp [h0], by simp, by simp [h4], out ++ [s[k]], ⟨.raw (va b), hd1, .inr rfl, by simp, by simp⟩, by simp; omega, ?_⟩⟩
      rw [hu, hdr, unesc_cons, if_pos hpl]
      cases unesc (s.drop (k + 1)) <;> simp
    · by_cases h37 : (s[k].toNat : Int) = 37
      · have h37' : s[k] = 37 := (u8_int s[k] 37 (by omega)).1 h37
        by_cases h2 : (List.length s : Int) ≤ (k : Int) + 2
        · simp -implicitDefEqProofs [h0, h4, h5, hlt, hpl, h37, h2]
          refine ⟨by omega, ?_⟩
          rw [hdr, h37', unesc_short (by simp; omega)] at hu
          simp [unescP_none hu]
        · have l1 : k + 1 < List.length s := by omega
          have l2 : k + 2 < List.length s := by omega
          have i1 : (0 : Int) ≤ (k : Int) + 1 := by omega
          have i2 : (0 : Int) ≤ (k : Int) + 2 := by omega
          have j1 : ((k : Int) + 1).toNat = k + 1 := by omega
          have j2 : ((k : Int) + 2).toNat = k + 2 := by omega
          have g1 : s[k + 1]? = some s[k + 1] := List.getElem?_eq_getElem l1
          have g2 : s[k + 2]? = some s[k + 2] := List.getElem?_eq_getElem l2
          have hdr2 : s.drop k = 37 :: s[k + 1] :: s[k + 2] :: s.drop (k + 3) := by rw [hdr, h37', drop_s l1, drop_s l2]
          rw [hdr2, unesc_two] at hu
          simp only [hexV] at hu
          simp -implicitDefEqProofs [h0, h4, h5, hlt, hpl, h37, h2, i1, i2, j1, j2, g1, g2]
          refine ⟨by omega, by omega, callP (indexByte_fn hexDs s[k + 1]) ?_⟩
          simp -implicitDefEqProofs [h0, h4, h5, hlt, hpl, h37, h2, i1, i2, j1, j2, g1, g2]
          refine ⟨by omega, callP (indexByte_fn hexDs s[k + 2]) ?_⟩
          by_cases v1 : ixB hexDs s[k + 1] < 0
          · simp -implicitDefEqProofs [h0, h4, h5, hlt, v1]
            rw [if_neg (by omega)] at hu
            simp [unescP_none hu]
          by_cases v2 : ixB hexDs s[k + 2] < 0
          · simp -implicitDefEqProofs [h0, h4, h5, hlt, v1, v2]
            rw [if_neg (by omega)] at hu
            simp [unescP_none hu]
          have u1 : 0 ≤ ixB hexDs s[k + 1] := by omega
          have u2 : 0 ≤ ixB hexDs s[k + 2] := by omega
          have w1 : (ixB hexDs s[k + 1]).toNat < 16 := hexV_lt s[k + 1] u1
          have w2 : (ixB hexDs s[k + 2]).toNat < 16 := hexV_lt s[k + 2] u2
          have x1 : (hx s[k + 1] s[k + 2]).toNat = 16 * (ixB hexDs s[k + 1]).toNat + (ixB hexDs s[k + 2]).toNat := hx_nat s[k + 1] s[k + 2] u1 u2
          obtain ⟨A, hA⟩ := Int.eq_ofNat_of_zero_le u1
          obtain ⟨B, hB⟩ := Int.eq_ofNat_of_zero_le u2
          have v3 : ¬ ((A : Int) < 0) := by omega
          have v4 : ¬ ((B : Int) < 0) := by omega
          simp only [hA, hB, Int.toNat_natCast] at w1 w2 x1
          have hor : ((A : Int) * 16).toNat ||| B = (hx s[k + 1] s[k + 2]).toNat := by
            have e1 : ((A : Int) * 16).toNat = 2 ^ 4 * A := by omega
            rw [e1, x1, ← Nat.two_pow_add_eq_or_of_lt (by omega : B < 2 ^ 4)]
          have h8 : (hx s[k + 1] s[k + 2]).toNat ≤ 255 := by omega
          simp -implicitDefEqProofs [h0, h4, h5, hlt, hA, hB, v3, v4, hor]
          refine ⟨by omega, by omega, by omega, by omega, by omega, callK (plain_fn (hx s[k + 1] s[k + 2])) ?_⟩
          by_cases hpx : plainB (hx s[k + 1] s[k + 2]) = true
          · simp -implicitDefEqProofs [h0, h4, h5, hlt, hA, hB, v3, v4, hpx]
            rw [if_neg (by simp [hpx])] at hu
            simp [unescP_none hu]
          · have hpx' : plainB (hx s[k + 1] s[k + 2]) = false := by simpa using hpx
            simp -implicitDefEqProofs [h0, h4, h5, hlt, hA, hB, v3, v4, hor, hpx]
            refine ⟨by omega, by omega, by omega, by omega, by omega, ?_⟩
            refine givB [1000000, 1000001] 1000000 (writeByte_fn (s := out) (hd := hd) hp (hx s[k + 1] s[k + 2]) (by omega)) (by simp [hb, hh]) rfl (by simp) ?_
            rintro r hs' ⟨hd1, rfl⟩
            simp -implicitDefEqProofs [h0, h4, h5, hlt, takeH, putH]
            refine ⟨by omega, by omega, again' (k' := k + 3) (by omega) (by omega) ⟨by simp [h0], by simp; omega, by simp [h4], out ++ [hx s[k + 1] s[k + 2]], ⟨.raw (va b), hd1, .inr rfl, by simp, by simp⟩, by simp; omega, ?_⟩⟩
            rw [if_pos ⟨u1, u2, hpx'⟩] at hu
            rw [hu]
            cases unesc (s.drop (k + 3)) <;> simp
      · have h37' : s[k] ≠ 37 := fun e => h37 ((u8_int s[k] 37 (by omega)).2 e)
        rw [hdr, unesc_bad hpl h37'] at hu
        simp -implicitDefEqProofs [h0, h4, h5, hlt, hpl, h37]
        simp [unescP_none hu]
  · simp -implicitDefEqProofs [h0, h4, h5, hlt]
    rw [List.drop_of_length_le (by omega), unesc_nil] at hu
    simp only [Option.map_some, List.append_nil] at hu
    refine givB [1000000, 1000001] 1000000 (string_fn (s := out) (hd := hd) hp) (by simp [hb, hh]) rfl (by simp) ?_
    rintro r hs' ⟨rfl, rfl⟩
    simp -implicitDefEqProofs [h0, h4, h5, hlt, takeH, putH, unescP_some hu]

/-- The raw decoding from a place on. -/
theorem decR_short {r : Str} (h : r.length ≤ 1) : decR (37 :: r) = none := by
  rw [decR_cons, if_neg (by simp)]
  match r, h with
  | [], _ => rfl
  | [_], _ => rfl
  | _ :: _ :: _, h => simp at h
theorem decR_two (a l : UInt8) (r : Str) : decR (37 :: a :: l :: r) = if 0 ≤ ixB hexDs a ∧ 0 ≤ ixB hexDs l then (decR r).map (hx a l :: ·) else none := by
  rw [decR_cons, if_neg (by simp)]

def outP (s : Str) : Option Str → Str × Int
  | some t => if escS t = s then (t, 0) else ([], 4)
  | none => ([], 4)
theorem unescP_R {s : Str} {o : Option Str} (h : decR s = o) : unescP s = outP s o := by
  subst h
  rw [unescP, ← unescR_eq]
  cases decR s with
  | none => rfl
  | some t => by_cases he : escS t = s <;> simp [he, outP]

theorem unescapeR_fn (s : Str) (hs : List.length s < 1000000) : Ctr Tryz.prog 76 [.d (.str s)] (.tup [.d (.str (unescP s).1), .d (.int .i64 (unescP s).2)]) := by
  refine fn_of_vwpN (rv := .tmp 2) (rs := [.tmp 3]) (r := .d (.str (unescP s).1)) (ys := [.d (.int .i64 (unescP s).2)]) (fun i => decide (i < 1000000)) (by kernel_rfl) Tryz.func76 (by kernel_rfl) rfl rfl (by simp) (Nat.le_of_ble_eq_true rfl) (by kernel_rfl) rfl rfl ?_
  simp -implicitDefEqProofs
  refine loopN (List.length s) (fun k τ => τ 0 = .d (.str s) ∧ τ 5 = .d (.int .i64 k) ∧ ∃ out, τ 4 = .own true 5 (bytesD out) ∧ out.length ≤ k ∧ decR s = (decR (s.drop k)).map (out ++ ·)) ?_ ?_
  · exact ⟨by simp, by simp, [], by simp [bytesD], by simp, by simp⟩
  rintro k τ hk ⟨h0, h5, out, h4, hol, hu⟩
  by_cases hlt : k < List.length s
  · have hdr := drop_s hlt
    by_cases h37 : (s[k].toNat : Int) = 37
    · have h37' : s[k] = 37 := (u8_int s[k] 37 (by omega)).1 h37
      by_cases h2 : (List.length s : Int) ≤ (k : Int) + 2
      · simp -implicitDefEqProofs [h0, h4, h5, hlt, h37, h2]
        refine ⟨by omega, ?_⟩
        rw [hdr, h37', decR_short (by simp; omega)] at hu
        simp [unescP_R hu, outP]
      · have l1 : k + 1 < List.length s := by omega
        have l2 : k + 2 < List.length s := by omega
        have i1 : (0 : Int) ≤ (k : Int) + 1 := by omega
        have i2 : (0 : Int) ≤ (k : Int) + 2 := by omega
        have j1 : ((k : Int) + 1).toNat = k + 1 := by omega
        have j2 : ((k : Int) + 2).toNat = k + 2 := by omega
        have g1 : s[k + 1]? = some s[k + 1] := List.getElem?_eq_getElem l1
        have g2 : s[k + 2]? = some s[k + 2] := List.getElem?_eq_getElem l2
        have hdr2 : s.drop k = 37 :: s[k + 1] :: s[k + 2] :: s.drop (k + 3) := by rw [hdr, h37', drop_s l1, drop_s l2]
        rw [hdr2, decR_two] at hu
        simp -implicitDefEqProofs [h0, h4, h5, hlt, h37, h2, i1, i2, j1, j2, g1, g2]
        refine ⟨by omega, by omega, callK (digitH_fn s[k + 1]) ?_⟩
        by_cases v1 : ixB hexDs s[k + 1] < 0
        · simp -implicitDefEqProofs [h0, h4, h5, hlt, h2, v1]
          rw [if_neg (by omega)] at hu
          simp [unescP_R hu, outP]
        simp -implicitDefEqProofs [h0, h4, h5, hlt, h37, h2, i1, i2, j1, j2, g1, g2, v1]
        refine ⟨by omega, callK (digitH_fn s[k + 2]) ?_⟩
        by_cases v2 : ixB hexDs s[k + 2] < 0
        · simp -implicitDefEqProofs [h0, h4, h5, hlt, h2, v1, v2]
          rw [if_neg (by omega)] at hu
          simp [unescP_R hu, outP]
        have u1 : 0 ≤ ixB hexDs s[k + 1] := by omega
        have u2 : 0 ≤ ixB hexDs s[k + 2] := by omega
        have w1 : (ixB hexDs s[k + 1]).toNat < 16 := hexV_lt s[k + 1] u1
        have w2 : (ixB hexDs s[k + 2]).toNat < 16 := hexV_lt s[k + 2] u2
        have x1 : (hx s[k + 1] s[k + 2]).toNat = 16 * (ixB hexDs s[k + 1]).toNat + (ixB hexDs s[k + 2]).toNat := hx_nat s[k + 1] s[k + 2] u1 u2
        simp -implicitDefEqProofs [h0, h4, h5, hlt, h37, h2, i1, i2, j1, j2, g1, g2, v1, v2]
        refine ⟨by omega, callP (digitH_fn s[k + 1]) ?_⟩
        simp -implicitDefEqProofs [h0, h4, h5, hlt, h37, h2, i1, i2, j1, j2, g1, g2, v1, v2]
        refine ⟨by omega, by omega, callP (digitH_fn s[k + 2]) ?_⟩
        have hsum : 16 * ixB hexDs s[k + 1] + ixB hexDs s[k + 2] = ((hx s[k + 1] s[k + 2]).toNat : Int) := by omega
        have h8 : (hx s[k + 1] s[k + 2]).toNat ≤ 255 := by omega
        simp -implicitDefEqProofs [h0, h4, h5, hlt, h37, h2, i1, i2, j1, j2, g1, g2, v1, v2, hsum, h8, bytesD_length]
        refine ⟨by omega, by omega, by omega, by omega, by omega, again' (k' := k + 3) (by omega) (by omega) ⟨by simp [h0], by simp; omega, out ++ [hx s[k + 1] s[k + 2]], by simp [bytesD], by simp; omega, ?_⟩⟩
        rw [if_pos ⟨u1, u2⟩] at hu
        rw [hu]
        cases decR (s.drop (k + 3)) <;> simp
    · have h37' : s[k] ≠ 37 := fun e => h37 ((u8_int s[k] 37 (by omega)).2 e)
      rw [hdr, decR_cons, if_pos h37'] at hu
      simp -implicitDefEqProofs [h0, h4, h5, hlt, h37, bytesD_length]
      refine ⟨by omega, by omega, again hlt ⟨by simp [h0], by simp, out ++ [s[k]], by simp [bytesD], by simp; omega, ?_⟩⟩
      rw [hu]
      cases decR (s.drop (k + 1)) <;> simp
  · rw [List.drop_of_length_le (by omega), decR_nil] at hu
    simp only [Option.map_some, List.append_nil] at hu
    simp -implicitDefEqProofs [h0, h4, h5, hlt]
    refine callK (escapeR_fn out (by omega)) ?_
    by_cases he : escS out = s
    · simp -implicitDefEqProofs [h0, h4, h5, hlt, he, unescP_R hu, outP]
    · simp -implicitDefEqProofs [h0, h4, h5, hlt, he, unescP_R hu, outP]
end Go.Proofs.Tz

/- strings.Split at one byte. -/
set_option maxRecDepth 100000
set_option maxHeartbeats 4000000
set_option linter.unusedVariables false
set_option linter.unusedSimpArgs false
namespace Go.Proofs.Tz
open Go.Vw Go.RowKit Go.Proofs

/-- The pieces between the bytes c. -/
def splitB (c : UInt8) : Str → List Str
  | [] => [[]]
  | x :: s => if x = c then [] :: splitB c s else (match splitB c s with
    | p :: ps => (x :: p) :: ps
    | [] => [[x]])

theorem splitB_ne (c : UInt8) (s : Str) : splitB c s ≠ [] := by
  cases s with
  | nil => simp [splitB]
  | cons x s =>
    simp only [splitB]
    split
    · simp
    · cases splitB c s <;> simp
theorem splitB_len (c : UInt8) (s : Str) : (splitB c s).length = s.count c + 1 := by
  induction s with
  | nil => simp [splitB]
  | cons x s ih =>
    simp only [splitB]
    by_cases hx : x = c
    · simp [hx, ih]
    · rw [if_neg hx]
      have h2 : (x :: s).count c = s.count c := by simp [List.count_cons, hx]
      rw [h2, ← ih]
      cases hs : splitB c s with
      | nil => exact absurd hs (splitB_ne c s)
      | cons p ps => simp
theorem splitB_none {c : UInt8} {s : Str} (h : c ∉ s) : splitB c s = [s] := by
  induction s with
  | nil => rfl
  | cons x s ih =>
    simp only [List.mem_cons, not_or] at h
    simp only [splitB, if_neg (fun e : x = c => h.1 e.symm), ih h.2]
theorem splitB_at {c : UInt8} : ∀ {s : Str} {k : Nat}, ixB s c = k → splitB c s = s.take k :: splitB c (s.drop (k + 1))
  | [], k, h => by simp [ixB, Go.Lib.indexByte] at h
  | x :: s, k, h => by
    have hge := Go.Lib.indexByte_ge s c
    simp only [ixB, Go.Lib.indexByte] at h
    by_cases hx : x = c
    · simp only [hx, beq_self_eq_true, if_true] at h
      obtain rfl : k = 0 := by omega
      simp [splitB, hx]
    · have hx' : (x == c) = false := by simpa using hx
      simp only [hx', Bool.false_eq_true, if_false] at h
      by_cases h2 : Go.Lib.indexByte s c = -1
      · simp [h2] at h
      · have h3 : (Go.Lib.indexByte s c == -1) = false := by simpa using h2
        simp only [h3, Bool.false_eq_true, if_false] at h
        obtain ⟨k', rfl⟩ : ∃ k', k = k' + 1 := ⟨k - 1, by omega⟩
        have ih := splitB_at (s := s) (k := k') (by show Go.Lib.indexByte s c = _; omega)
        simp only [splitB, if_neg hx, ih, List.take_succ_cons, List.drop_succ_cons]
theorem count_at {c : UInt8} {s : Str} {k : Nat} (h : ixB s c = k) : s.count c = (s.drop (k + 1)).count c + 1 := by
  have h1 := splitB_len c s
  rw [splitB_at h, List.length_cons, splitB_len] at h1
  omega
theorem count_zero {c : UInt8} {s : Str} (h : ixB s c < 0) : s.count c = 0 := List.count_eq_zero.2 ((ixB_neg s c).1 h)

theorem strIndex_fn (s : Str) (c : UInt8) (hl : s.length ≤ 140737488355328) : Ctr Tryz.prog 148 [.d (.str s), .d (.str [c])] (.d (.int .i64 (ixB s c))) := by
  refine fn_of_vwp (fun _ => false) (by kernel_rfl) Tryz.func148 (by kernel_rfl) rfl rfl (Nat.le_of_ble_eq_true rfl) (by kernel_rfl) rfl rfl ?_
  simp -implicitDefEqProofs
  refine callK (indexL_fn s c hl) ?_
  simp -implicitDefEqProofs

theorem rep_at {done : List Str} {k n : Nat} (hd : done.length = k) : (done.map D.str ++ List.replicate (n + 1) (D.str []))[k]? = some (.str []) := by
  rw [List.getElem?_append_right (by simp [hd])]
  simp [hd]
theorem rep_set {done : List Str} {k n : Nat} (hd : done.length = k) (p : Str) : (done.map D.str ++ List.replicate (n + 1) (D.str [])).set k (.str p) = (done ++ [p]).map D.str ++ List.replicate n (D.str []) := by
  rw [List.set_append_right _ _ (by simp [hd])]
  simp [hd, List.replicate_succ]
theorem genSplit_fn (s : Str) (c : UInt8) (hl : s.length < 1000000) : Ctr Tryz.prog 119 [.d (.str s), .d (.str [c]), .d (.int .i64 0), .d (.int .i64 (-1))] (.own true 9 ((splitB c s).map .str)) := by
  refine fn_of_vwp (fun i => decide (i < 1000000)) (by kernel_rfl) Tryz.func119 (by kernel_rfl) rfl rfl (Nat.le_of_ble_eq_true rfl) (by kernel_rfl) rfl rfl ?_
  simp -implicitDefEqProofs
  refine callK (count_fn s c (by omega)) ?_
  have hc : s.count c ≤ s.length := List.count_le_length
  have hnc : ¬ List.length s < s.count c := by omega
  have z1 : ((s.count c : Int) + 1 - 1) = (s.count c : Int) := by omega
  have z2 : ((s.count c : Int) + 1).toNat = s.count c + 1 := by omega
  simp -implicitDefEqProofs [hnc, z1, z2]
  refine ⟨by omega, by omega, by omega, by omega, by omega, by omega, ?_⟩
  refine loopN (s.count c) (fun k τ => τ 1 = .d (.str [c]) ∧ τ 2 = .d (.int .i64 0) ∧ τ 3 = .d (.int .i64 (s.count c)) ∧ τ 10 = .d (.int .i64 k) ∧ ∃ rest done, τ 0 = .d (.str rest) ∧ List.length done = k ∧ List.length rest ≤ List.length s ∧
    τ 9 = .own true 9 (done.map .str ++ List.replicate (s.count c - k + 1) (.str [])) ∧ splitB c s = done ++ splitB c rest ∧ rest.count c = s.count c - k) ?_ ?_
  · refine ⟨by simp, by simp, by simp [z1], by simp, s, [], by simp, by simp, by simp, by simp, by simp, by simp⟩
  rintro k τ hk ⟨h1, h2, h3, h10, rest, done, h0, hd, hrl, h9, hsp, hct⟩
  by_cases hlt : k < s.count c
  · have hlt' : (k : Int) < (s.count c : Int) := by omega
    simp -implicitDefEqProofs [h0, h1, h2, h3, h9, h10, hlt']
    refine callK (strIndex_fn rest c (by omega)) ?_
    have hin : ¬ ixB rest c < 0 := fun h => by have := count_zero h; omega
    obtain ⟨m, hm⟩ := Int.eq_ofNat_of_zero_le (show 0 ≤ ixB rest c by omega)
    have hml := ixB_lt (show 0 ≤ ixB rest c by omega)
    simp only [hm, Int.toNat_natCast] at hml
    have hm0 : ¬ ((m : Int) < 0) := by omega
    have hm1 : (0 : Int) ≤ (m : Int) + 1 := by omega
    have hm2 : ((m : Int) + 1).toNat = m + 1 := by omega
    have hg : ∀ h, (done.map D.str ++ List.replicate (s.count c - k + 1) (D.str []))[k]'h = D.str [] := fun h => by
      have := rep_at (n := s.count c - k) hd
      rw [List.getElem?_eq_getElem h] at this
      simpa using this
    have hk1 : (0 : Int) ≤ (k : Int) + 1 := by omega
    have hkd : k < List.length done + (s.count c - k + 1) := by omega
    have hs := rep_set (n := s.count c - k) hd (rest.take m)
    simp -implicitDefEqProofs [h0, h1, h2, h3, h9, h10, hlt', hm, hm0, hm1, hm2, hg, hkd, hs, hk1]
    have hsp2 := splitB_at hm
    have hct2 := count_at hm
    refine ⟨by omega, by omega, by omega, by omega, by omega, again hlt ⟨by simp [h1], by simp [h2], by simp [h3], by simp, rest.drop (m + 1), ?_, done ++ [rest.take m], by simp [hd], by simp; omega, ?_, ?_, by omega⟩⟩
    · simp
      rw [List.take_of_length_le (by simp)]
    · simp
      have : s.count c - k = s.count c - (k + 1) + 1 := by omega
      rw [this]
    · rw [hsp, hsp2]; simp
  · have hke : k = s.count c := by omega
    have hlt' : ¬ (k : Int) < (s.count c : Int) := by omega
    have hg : ∀ h, (done.map D.str ++ List.replicate (s.count c - k + 1) (D.str []))[k]'h = D.str [] := fun h => by
      have := rep_at (n := s.count c - k) hd
      rw [List.getElem?_eq_getElem h] at this
      simpa using this
    have hk1 : (0 : Int) ≤ (k : Int) + 1 := by omega
    have hkd : k < List.length done + (s.count c - k + 1) := by omega
    have hs := rep_set (n := s.count c - k) hd rest
    simp -implicitDefEqProofs [h0, h1, h2, h3, h9, h10, hlt', hg, hkd, hs, hk1]
    have hrest : splitB c rest = [rest] := splitB_none (List.count_eq_zero.1 (by omega))
    refine ⟨by omega, by omega, ?_⟩
    rw [hsp, hrest]
    have : (done.map D.str).length = k := by simp [hd]
    rw [List.take_append, List.take_of_length_le (by omega), this]
    simp

theorem split_fn (s : Str) (c : UInt8) (hl : s.length < 1000000) : Ctr Tryz.prog 73 [.d (.str s), .d (.str [c])] (.own true 9 ((splitB c s).map .str)) := by
  refine fn_of_vwp (fun i => decide (i < 1000000)) (by kernel_rfl) Tryz.func73 (by kernel_rfl) rfl rfl (Nat.le_of_ble_eq_true rfl) (by kernel_rfl) rfl rfl ?_
  simp -implicitDefEqProofs
  refine callK (genSplit_fn s c hl) ?_
  simp -implicitDefEqProofs
end Go.Proofs.Tz

/- General facts on lists, pieces of strings and their escapes (no program in sight). -/
set_option linter.unusedVariables false
set_option linter.unusedSimpArgs false
namespace Go.Proofs.Tz
open Go.Vw Go.RowKit Go.Proofs

theorem drop_c {α : Type} {l : List α} {k : Nat} (h : k < l.length) : l.drop k = l[k] :: l.drop (k + 1) := List.drop_eq_getElem_cons h
def unescL : List Str → Option (List Str)
  | [] => some []
  | p :: ps => match unesc p with
    | some x => (unescL ps).map (x :: ·)
    | none => none
theorem unescL_app : ∀ (a b : List Str), unescL (a ++ b) = match unescL a with
    | some x => (unescL b).map (x ++ ·)
    | none => none
  | [], b => by simp [unescL]
  | p :: a, b => by
    simp only [List.cons_append, unescL, unescL_app a b]
    cases unesc p with
    | none => rfl
    | some x =>
      cases unescL a with
      | none => rfl
      | some y => cases unescL b <;> simp
theorem unescL_len : ∀ {a x : List Str}, unescL a = some x → x.length = a.length
  | [], x, h => by simp [unescL] at h; subst h; rfl
  | p :: a, x, h => by
    simp only [unescL] at h
    split at h
    · obtain ⟨y, hy, rfl⟩ := Option.map_eq_some_iff.1 h
      simp [unescL_len hy]
    · cases h
theorem unescL_fit : ∀ {a x : List Str} {n : Nat}, unescL a = some x → (∀ p ∈ a, List.length p ≤ n) → ∀ y ∈ x, List.length y ≤ n
  | [], x, n, h, _ => by simp [unescL] at h; subst h; simp
  | p :: a, x, n, h, hn => by
    simp only [unescL] at h
    split at h
    · rename_i z hz
      obtain ⟨y, hy, rfl⟩ := Option.map_eq_some_iff.1 h
      intro q hq
      rcases List.mem_cons.1 hq with rfl | hq
      · exact Nat.le_trans (unesc_len _ _ _ (Nat.le_refl _) hz) (hn p (by simp))
      · exact unescL_fit hy (fun p hp => hn p (by simp [hp])) q hq
    · cases h
theorem splitB_le (c : UInt8) : ∀ (s : Str), ∀ p ∈ splitB c s, List.length p ≤ s.length
  | [], p, hp => by simp [splitB] at hp; subst hp; simp
  | x :: s, p, hp => by
    simp only [splitB] at hp
    split at hp
    · rcases List.mem_cons.1 hp with rfl | hp
      · simp
      · have := splitB_le c s p hp; simp; omega
    · cases hs : splitB c s with
      | nil => rw [hs] at hp; simp at hp; subst hp; simp
      | cons q qs =>
        rw [hs] at hp
        simp only at hp
        have ih := splitB_le c s
        rw [hs] at ih
        rcases List.mem_cons.1 hp with rfl | hp
        · have := ih q (by simp); simp; omega
        · have := ih p (by simp [hp]); simp; omega
theorem arrK {P : Program} {t : TypeId} {ds : List D} {m : Int} {C : Nat → Prop} (n : Nat) (e : TypeId) (sz : Nat) (h1 : P.underlying t = some (.array n e)) (h2 : (P.info? e).map (·.size) = some sz) (h3 : ds.length = n) (h4 : ∀ y ∈ ds, width y = sz)
    (h5 : 0 ≤ m) (h6 : m.toNat < n) (h : C m.toNat) : ArrK P t ds m C := ⟨n, e, sz, h1, h2, h3, h4, h5, h6, h⟩
theorem len3 {α : Type} {l : List α} (h : l.length = 3) : ∃ a b c, l = [a, b, c] := by
  match l, h with
  | [a, b, c], _ => exact ⟨a, b, c, rfl⟩
theorem hexC_safe : ∀ n, n < 16 → 33 ≤ (hexC n).toNat ∧ (hexC n).toNat ≤ 126 := by decide
theorem escS_safe {s : Str} {c : UInt8} (h : c ∈ escS s) : 33 ≤ c.toNat ∧ c.toNat ≤ 126 := by
  simp only [escS, List.mem_flatMap] at h
  obtain ⟨x, _, hx⟩ := h
  have hlt := x.toNat_lt
  unfold escB at hx
  split at hx
  · rename_i hp
    rw [List.mem_singleton] at hx
    subst hx
    simp only [plainB, decide_eq_true_eq] at hp
    omega
  · simp only [List.mem_cons, List.not_mem_nil, or_false] at hx
    rcases hx with rfl | rfl | rfl
    · decide
    · exact hexC_safe _ (by omega)
    · exact hexC_safe _ (by omega)
theorem escS_no10 (s : Str) : (10 : UInt8) ∉ escS s := fun h => by have := (escS_safe h).1; revert this; decide
theorem escS_no32 (s : Str) : (32 : UInt8) ∉ escS s := fun h => by have := (escS_safe h).1; revert this; decide
theorem ixB_mid {c : UInt8} {a b : Str} (h : c ∉ a) : ixB (a ++ c :: b) c = List.length a :=
  ixB_at (by simp) (by simp) (by simpa using h)
theorem splitB_mid {c : UInt8} {a b : Str} (h : c ∉ a) : splitB c (a ++ c :: b) = a :: splitB c b := by
  have e1 : List.take (List.length a) (a ++ c :: b) = a := by simp
  have e2 : List.drop (List.length a + 1) (a ++ c :: b) = b := by rw [← List.drop_drop]; simp
  rw [splitB_at (ixB_mid h), e1, e2]
/-- The pieces, joined. -/
def joinB (c : UInt8) : List Str → Str
  | [] => []
  | [p] => p
  | p :: q :: ps => p ++ c :: joinB c (q :: ps)
theorem joinB_split (c : UInt8) : ∀ (s : Str), joinB c (splitB c s) = s
  | [] => rfl
  | x :: s => by
    have ih := joinB_split c s
    simp only [splitB]
    cases hs : splitB c s with
    | nil => exact absurd hs (splitB_ne c s)
    | cons q qs =>
      rw [hs] at ih
      by_cases hx : x = c
      · rw [if_pos hx]
        simp only [joinB, List.nil_append, ih, hx]
      · rw [if_neg hx]
        cases qs with
        | nil => simp only [joinB] at ih ⊢; rw [ih]
        | cons r rs => simp only [joinB, List.cons_append] at ih ⊢; rw [ih]
theorem unescL_esc : ∀ {ps xs : List Str}, unescL ps = some xs → ps = xs.map escS
  | [], xs, h => by simp [unescL] at h; subst h; rfl
  | p :: ps, xs, h => by
    simp only [unescL] at h
    split at h
    · rename_i x hx
      obtain ⟨ys, hy, rfl⟩ := Option.map_eq_some_iff.1 h
      rw [unescL_esc hy, ← (unesc_dec _ _ _ (Nat.le_refl _) hx).2]
      rfl
    · cases h
/-- All of a list are so. -/
def AllB {α : Type} (p : α → Bool) (l : List α) : Prop := ∀ x ∈ l, p x = true
theorem AllB.nil {α : Type} {p : α → Bool} : AllB p [] := fun _ h => by simp at h
theorem AllB.snoc {α : Type} {p : α → Bool} {l m : List α} {x : α} (h : AllB p l) (hx : p x = true) (e : m = l ++ [x]) : AllB p m := fun y hy => by
  rw [e, List.mem_append, List.mem_singleton] at hy
  rcases hy with hy | rfl
  · exact h y hy
  · exact hx
theorem AllB.all {α : Type} {p : α → Bool} {l : List α} (h : AllB p l) : l.all p = true := List.all_eq_true.2 h
theorem all_no {α : Type} {p : α → Bool} {l : List α} {k : Nat} {x : α} {h : k < l.length} (e : l[k] = x) (hx : p x = false) : l.all p = false := by
  rw [List.all_eq_false]; exact ⟨x, by rw [← e]; exact List.getElem_mem h, by simp [hx]⟩
end Go.Proofs.Tz

namespace Go.Proofs.Tz
open Go.Vw
set_option maxRecDepth 100000
set_option maxHeartbeats 4000000
set_option linter.unusedSimpArgs false

theorem clean_fn (s : Str) : Ctr Tryz.prog 107 [.d (.str s)] (.d (.bool (cleanB s))) := by
  refine fn_of_vwp (fun _ => false) (by kernel_rfl) Tryz.func107 (by kernel_rfl) rfl rfl (Nat.le_of_ble_eq_true rfl) (by kernel_rfl) rfl rfl ?_
  by_cases hs : s = []
  · simp -implicitDefEqProofs [cleanB, hs]
  have hpos : 0 < List.length s := by
    cases s with
    | nil => exact absurd rfl hs
    | cons => simp
  have h1 : ¬ ((List.length s : Int) < 1) := by omega
  have hh : s.head? = some s[0] := by simp [List.head?_eq_getElem?, hpos]
  have hl : s.getLast? = some s[List.length s - 1] := by rw [List.getLast?_eq_getElem?, List.getElem?_eq_getElem (by omega)]
  have hi : 0 ≤ (List.length s : Int) - 1 := by omega
  have hi2 : ((List.length s : Int) - 1).toNat = List.length s - 1 := by omega
  have hi3 : List.length s - 1 < List.length s := by omega
  have hi4 : -9223372036854775808 ≤ (List.length s : Int) - 1 := by omega
  by_cases h2 : 256 < (List.length s : Int)
  · have : ¬ List.length s ≤ 256 := by omega
    simp -implicitDefEqProofs [cleanB, h1, h2, this]
  have h2' : List.length s ≤ 256 := by omega
  have h1' : 1 ≤ List.length s := hpos
  have hi5 : (List.length s : Int) - 1 ≤ 9223372036854775807 := by omega
  by_cases ha : (s[0].toNat : Int) = 32
  · have : s[0] = 32 := by apply UInt8.toNat_inj.1; rw [show (32 : UInt8).toNat = 32 from rfl]; omega
    simp -implicitDefEqProofs [cleanB, h1, h2, hpos, ha, hh, this]
  have ha' : ¬ s[0] = 32 := fun e => ha (by rw [e]; rfl)
  by_cases hb : (s[List.length s - 1].toNat : Int) = 32
  · have : s[List.length s - 1] = 32 := by apply UInt8.toNat_inj.1; rw [show (32 : UInt8).toNat = 32 from rfl]; omega
    simp -implicitDefEqProofs [cleanB, h1, h2, hpos, ha, hh, hl, hb, hi, hi2, hi3, hi4, hi5, this]
    all_goals omega
  have hb' : ¬ s[List.length s - 1] = 32 := fun e => hb (by rw [e]; rfl)
  simp -implicitDefEqProofs [h1, h2, hpos, ha, hb, hi, hi2, hi3, hi4, hi5]
  refine ⟨by omega, ?_⟩
  refine loopN (List.length s) (fun k τ => τ 0 = .d (.str s) ∧ τ 3 = .d (.int .i64 k) ∧ ∀ x ∈ s.take k, cleanC x = true) (by simp) ?_
  rintro k τ hk ⟨h0, h3, hall⟩
  by_cases hlt : k < List.length s
  · by_cases e1 : (s[k].toNat : Int) < 32
    · have e1' : ¬ 32 ≤ (s[k].toNat : Int) := by omega
      simp -implicitDefEqProofs [h0, h3, hlt, e1]
      simp -implicitDefEqProofs [cleanB, all_not hlt (show cleanC s[k] = false by simp [cleanC, e1'])]
    · by_cases e2 : 126 < (s[k].toNat : Int)
      · have e2' : ¬ (s[k].toNat : Int) ≤ 126 := by omega
        simp -implicitDefEqProofs [h0, h3, hlt, e1, e2]
        simp -implicitDefEqProofs [cleanB, all_not hlt (show cleanC s[k] = false by simp [cleanC, e2'])]
      · have e1' : 32 ≤ (s[k].toNat : Int) := by omega
        have e2' : (s[k].toNat : Int) ≤ 126 := by omega
        simp -implicitDefEqProofs [h0, h3, hlt, e1, e2]
        refine ⟨by omega, again hlt ⟨by simp [h0], by simp, ?_⟩⟩
        exact all_take hlt hall (by simp [cleanC, e1', e2'])
  · simp -implicitDefEqProofs [h0, h3, hlt]
    rw [List.take_of_length_le (by omega)] at hall
    simp -implicitDefEqProofs [cleanB, h1', h2', hh, hl, ha', hb']
    exact hall

theorem same_fn (l m : List Str) (hl : l.length < 1000000) (hm : m.length < 1000000) : Ctr Tryz.prog 100 [.d (strs l), .d (strs m)] (.d (.bool (decide (l = m)))) := by
  refine fn_of_vwp (fun _ => false) (by kernel_rfl) Tryz.func100 (by kernel_rfl) rfl rfl (Nat.le_of_ble_eq_true rfl) (by kernel_rfl) rfl rfl ?_
  by_cases hlm : l.length = m.length
  · simp -implicitDefEqProofs [strs, hlm]
    refine loopN m.length (fun k τ => τ 0 = .d (strs l) ∧ τ 1 = .d (strs m) ∧ τ 5 = .d (.int .i64 k) ∧ l.take k = m.take k) (by simp [strs]) ?_
    rintro k τ hk ⟨h0, h1, h5, ht⟩
    by_cases hlt : k < m.length
    · have hlt' : k < l.length := by omega
      by_cases he : l[k] = m[k]
      · simp -implicitDefEqProofs [h0, h1, h5, strs, hlm, hlt, hlt', he]
        refine ⟨by omega, again hlt ⟨by simp [h0, strs], by simp [h1, strs], by simp, ?_⟩⟩
        rw [take_s hlt, take_s hlt', ht, he]
      · simp -implicitDefEqProofs [h0, h1, h5, strs, hlm, hlt, hlt', he]
        rintro rfl
        exact he rfl
    · simp -implicitDefEqProofs [h0, h1, h5, strs, hlm, hlt]
      rw [List.take_of_length_le (by omega), List.take_of_length_le (by omega)] at ht
      first | exact ⟨by omega, ht⟩ | exact ht
  · have hlm' : ¬ (l.length : Int) = m.length := by omega
    simp -implicitDefEqProofs [strs, hlm']
    rintro rfl
    exact hlm rfl
end Go.Proofs.Tz

namespace Go.Proofs.Tz
open Go.Vw
set_option maxRecDepth 100000
set_option maxHeartbeats 4000000
set_option linter.unusedSimpArgs false

/-- One step of Insert. -/
def insS (s : Str) (r : Bool × List Str) (x : Str) : Bool × List Str :=
  (r.1 || !Op.bytesLess x s, r.2 ++ (if r.1 = false ∧ Op.bytesLess x s = false then [s] else []) ++ (if x = s then [] else [x]))
def insF (s : Str) (l : List Str) : Bool × List Str := l.foldl (insS s) (false, [])
def ins (l : List Str) (s : Str) : List Str := (insF s l).2 ++ (if (insF s l).1 then [] else [s])

theorem insF_take {s : Str} {l : List Str} {k : Nat} (h : k < l.length) : insF s (l.take (k + 1)) = insS s (insF s (l.take k)) l[k] := by
  rw [take_s h]; simp only [insF, List.foldl_append, List.foldl_cons, List.foldl_nil]
theorem insF_len (s : Str) : ∀ (l : List Str) (r : Bool × List Str), (l.foldl (insS s) r).2.length ≤ r.2.length + 2 * l.length
  | [], r => by simp
  | x :: l, r => by
    have := insF_len s l (insS s r x)
    simp only [List.foldl_cons, List.length_cons]
    have h2 : (insS s r x).2.length ≤ r.2.length + 2 := by
      simp only [insS, List.length_append]
      split <;> split <;> simp <;> omega
    all_goals omega
theorem insF_len' (s : Str) (l : List Str) : (insF s l).2.length ≤ 2 * l.length := by simpa [insF] using insF_len s l (false, [])

theorem ins_fn (l : List Str) (s : Str) (hl : l.length < 1000000) : Ctr Tryz.prog 95 [.d (strs l), .d (.str s)] (.own true 9 ((ins l s).map .str)) := by
  refine fn_of_vwp (fun i => decide (i < 1000000)) (by kernel_rfl) Tryz.func95 (by kernel_rfl) rfl rfl (Nat.le_of_ble_eq_true rfl) (by kernel_rfl) rfl rfl ?_
  simp -implicitDefEqProofs
  refine loopN l.length (fun k τ => τ 0 = .d (strs l) ∧ τ 1 = .d (.str s) ∧ τ 6 = .d (.bool (insF s (l.take k)).1) ∧ τ 5 = .own true 9 ((insF s (l.take k)).2.map .str) ∧ τ 7 = .d (.int .i64 k)) (by simp [insF]) ?_
  rintro k τ hk ⟨h0, h1, h6, h5, h7⟩
  have hlen := insF_len' s (l.take k)
  rw [List.length_take, Nat.min_eq_left hk] at hlen
  have ht := fun h => insF_take (s := s) (l := l) (k := k) h
  generalize hr : insF s (l.take k) = r at *
  obtain ⟨d, out⟩ := r
  simp only at hlen h6 h5
  by_cases hlt : k < l.length
  · have ht := ht hlt
    cases d with
    | true =>
      by_cases he : l[k] = s
      · simp -implicitDefEqProofs [h0, h1, h6, h5, h7, strs, hlt, he]
        refine ⟨by omega, again hlt ⟨by simp [h0, strs], by simp [h1], ?_, ?_, by simp⟩⟩
        · rw [ht]; simp [h6, insS]
        · rw [ht]; simp [h5, insS, he]
      · simp -implicitDefEqProofs [h0, h1, h6, h5, h7, strs, hlt, he]
        refine ⟨by omega, by omega, by omega, again hlt ⟨by simp [h0, strs], by simp [h1], ?_, ?_, by simp⟩⟩
        · rw [ht]; simp [h6, insS]
        · rw [ht]; simp [h5, insS, he]
    | false =>
      by_cases hb : Op.bytesLess l[k] s = true
      · by_cases he : l[k] = s
        · have hb' : Op.bytesLess s s = true := by rw [he] at hb; exact hb
          simp -implicitDefEqProofs [h0, h1, h6, h5, h7, strs, hlt, he, hb']
          refine ⟨by omega, again hlt ⟨by simp [h0, strs], by simp [h1], ?_, ?_, by simp⟩⟩
          · rw [ht]; simp [h6, insS, he, hb']
          · rw [ht]; simp [h5, insS, he, hb']
        · simp -implicitDefEqProofs [h0, h1, h6, h5, h7, strs, hlt, he, hb]
          refine ⟨by omega, by omega, by omega, again hlt ⟨by simp [h0, strs], by simp [h1], ?_, ?_, by simp⟩⟩
          · rw [ht]; simp [h6, insS, he, hb]
          · rw [ht]; simp [h5, insS, he, hb]
      · by_cases he : l[k] = s
        · have hb' : Op.bytesLess s s = false := by rw [he] at hb; simpa using hb
          simp -implicitDefEqProofs [h0, h1, h6, h5, h7, strs, hlt, he, hb']
          refine ⟨by omega, by omega, by omega, again hlt ⟨by simp [h0, strs], by simp [h1], ?_, ?_, by simp⟩⟩
          · rw [ht]; simp [h6, insS, he, hb']
          · rw [ht]; simp [h5, insS, he, hb']
        · simp -implicitDefEqProofs [h0, h1, h6, h5, h7, strs, hlt, he, hb]
          refine ⟨by omega, by omega, by omega, by omega, by omega, again hlt ⟨by simp [h0, strs], by simp [h1], ?_, ?_, by simp⟩⟩
          · rw [ht]; simp [h6, insS, he, hb]
          · rw [ht]; simp [h5, insS, he, hb]
  · rw [List.take_of_length_le (by omega)] at hr
    cases d with
    | true =>
      simp -implicitDefEqProofs [h0, h1, h6, h5, h7, strs, hlt, ins, hr]
      all_goals omega
    | false =>
      simp -implicitDefEqProofs [h0, h1, h6, h5, h7, strs, hlt, ins, hr]
      all_goals omega
end Go.Proofs.Tz

namespace Go.Proofs.Tz
open Go.Vw
set_option maxRecDepth 100000
set_option maxHeartbeats 4000000
set_option linter.unusedSimpArgs false

abbrev Att := Str × List Str
def att (a : Att) : D := .agg [.str a.1, strs a.2]
def atts (l : List Att) : D := .sl (l.map att)

/-- Every string of a list is short enough for the walk. -/
def Fits (l : List Att) : Prop := l.length < 1000000 ∧ ∀ a ∈ l, List.length a.1 < 1000000 ∧ a.2.length < 1000000

/-- The first error of values. -/
def chkV (old : List Str) : List Str → List Str → Int
  | _, [] => 0
  | b, v :: l => if cleanB v = false then 4 else if v ∈ old ∨ v ∈ b then 7 else chkV old (b ++ [v]) l

theorem chkV_drop {old l : List Str} {k : Nat} (h : k < l.length) : chkV old (l.take k) (l.drop k) = if cleanB l[k] = false then 4 else if l[k] ∈ old ∨ l[k] ∈ l.take k then 7 else chkV old (l.take (k + 1)) (l.drop (k + 1)) := by
  rw [List.drop_eq_getElem_cons h, chkV, take_s h]

theorem sameA_fn (l m : List Att) (hl : Fits l) (hm : Fits m) : Ctr Tryz.prog 50 [.d (atts l), .d (atts m)] (.d (.bool (decide (l = m)))) := by
  refine fn_of_vwp (fun _ => false) (by kernel_rfl) Tryz.func50 (by kernel_rfl) rfl rfl (Nat.le_of_ble_eq_true rfl) (by kernel_rfl) rfl rfl ?_
  have hl1 := hl.1
  have hm1 := hm.1
  by_cases hlm : l.length = m.length
  · simp -implicitDefEqProofs [atts, hlm]
    refine loopN m.length (fun k τ => τ 0 = .d (atts l) ∧ τ 1 = .d (atts m) ∧ τ 5 = .d (.int .i64 k) ∧ l.take k = m.take k) (by simp [atts]) ?_
    rintro k τ hk ⟨h0, h1, h5, ht⟩
    by_cases hlt : k < m.length
    · have hlt' : k < l.length := by omega
      by_cases he : l[k].1 = m[k].1
      · simp -implicitDefEqProofs [h0, h1, h5, atts, att, strs, hlm, hlt, hlt', he]
        refine callP (same_fn _ _ (hl.2 _ (List.getElem_mem hlt')).2 (hm.2 _ (List.getElem_mem hlt)).2) ?_
        by_cases he2 : l[k].2 = m[k].2
        · simp -implicitDefEqProofs [h0, h1, h5, atts, att, strs, hlm, hlt, hlt', he, he2]
          refine ⟨by omega, again hlt ⟨by simp [h0, atts, att, strs], by simp [h1, atts, att, strs], by simp, ?_⟩⟩
          rw [take_s hlt, take_s hlt', ht, Prod.ext he he2]
        · simp -implicitDefEqProofs [h0, h1, h5, atts, att, strs, hlm, hlt, hlt', he, he2]
          rintro rfl
          exact he2 rfl
      · simp -implicitDefEqProofs [h0, h1, h5, atts, att, strs, hlm, hlt, hlt', he]
        rintro rfl
        exact he rfl
    · simp -implicitDefEqProofs [h0, h1, h5, atts, hlm, hlt]
      rw [List.take_of_length_le (by omega), List.take_of_length_le (by omega)] at ht
      first | exact ⟨by omega, ht⟩ | exact ht
  · have hlm' : ¬ (l.length : Int) = m.length := by omega
    simp -implicitDefEqProofs [atts, hlm']
    rintro rfl
    exact hlm rfl

/-- The first error of attributes. -/
def chkA : List Att → List Att → Int
  | _, [] => 0
  | b, a :: l => if nameB a.1 = false then 5 else if b.any (fun c => decide (lower c.1 = lower a.1)) then 7 else if a.2.length = 0 then 6 else if 16 < a.2.length then 3
      else if chkV [] [] a.2 ≠ 0 then chkV [] [] a.2 else chkA (b ++ [a]) l
def checkL (l : List Att) : Int := if 32 < l.length then 3 else chkA [] l
theorem chkA_drop {l : List Att} {k : Nat} (h : k < l.length) : chkA (l.take k) (l.drop k) = if nameB l[k].1 = false then 5 else if (l.take k).any (fun c => decide (lower c.1 = lower l[k].1)) then 7 else if l[k].2.length = 0 then 6 else if 16 < l[k].2.length then 3
      else if chkV [] [] l[k].2 ≠ 0 then chkV [] [] l[k].2 else chkA (l.take (k + 1)) (l.drop (k + 1)) := by
  rw [List.drop_eq_getElem_cons h, chkA, take_s h]

end Go.Proofs.Tz

namespace Go.Proofs.Tz
open Go.Vw
set_option maxRecDepth 100000
set_option maxHeartbeats 4000000
set_option linter.unusedSimpArgs false

theorem upper_fn (c : UInt8) : Ctr Tryz.prog 128 [.d (u8 c)] (.d (.bool (decide (65 ≤ (c.toNat : Int)) && decide ((c.toNat : Int) ≤ 90)))) := by
  refine fn_of_vwp (fun _ => false) (by kernel_rfl) Tryz.func128 (by kernel_rfl) rfl rfl (Nat.le_of_ble_eq_true rfl) (by kernel_rfl) rfl rfl ?_
  by_cases h1 : 65 ≤ (c.toNat : Int) <;> simp [u8, h1]
theorem fletter_fn (c : UInt8) : Ctr Tryz.prog 123 [.d (u8 c)] (.d (.bool (isLetter c))) := by
  refine fn_of_vwp (fun _ => false) (by kernel_rfl) Tryz.func123 (by kernel_rfl) rfl rfl (Nat.le_of_ble_eq_true rfl) (by kernel_rfl) rfl rfl ?_
  simp -implicitDefEqProofs
  refine callK (upper_fn c) ?_
  by_cases h1 : 97 ≤ (c.toNat : Int) <;> by_cases h2 : (c.toNat : Int) ≤ 122 <;> by_cases h3 : 65 ≤ (c.toNat : Int) <;> by_cases h4 : (c.toNat : Int) ≤ 90 <;> simp -implicitDefEqProofs [u8, isLetter, h1, h2, h3, h4]
theorem fdigit_fn (c : UInt8) : Ctr Tryz.prog 124 [.d (u8 c)] (.d (.bool (isDigit c))) := by
  refine fn_of_vwp (fun _ => false) (by kernel_rfl) Tryz.func124 (by kernel_rfl) rfl rfl (Nat.le_of_ble_eq_true rfl) (by kernel_rfl) rfl rfl ?_
  by_cases h1 : 48 ≤ (c.toNat : Int) <;> simp [u8, isDigit, h1]
theorem allowed_fn (c : UInt8) : Ctr Tryz.prog 122 [.d (u8 c)] (.d (.bool (nameC c))) := by
  refine fn_of_vwp (fun _ => false) (by kernel_rfl) Tryz.func122 (by kernel_rfl) rfl rfl (Nat.le_of_ble_eq_true rfl) (by kernel_rfl) rfl rfl ?_
  simp -implicitDefEqProofs [u8]
  refine callK (fletter_fn c) ?_
  by_cases h1 : isLetter c = true
  · simp -implicitDefEqProofs [h1, nameC]
  · simp -implicitDefEqProofs [h1]
    refine callK (fdigit_fn c) ?_
    by_cases h2 : isDigit c = true <;> by_cases h3 : (c.toNat : Int) = 45 <;> simp [h1, h2, h3, nameC]
end Go.Proofs.Tz

namespace Go.Proofs.Tz
open Go.Vw
set_option maxRecDepth 100000
set_option maxHeartbeats 4000000
set_option linter.unusedSimpArgs false

theorem lowc_not {c : UInt8} (h : ¬ (65 ≤ (c.toNat : Int) ∧ (c.toNat : Int) ≤ 90)) : lowc c = c := if_neg h

def halfL (s : Str) (k : Nat) : List D := ((lower (s.take k)) ++ s.drop k).map u8
theorem halfL_len (s : Str) (k : Nat) (h : k ≤ List.length s) : (halfL s k).length = List.length s := by simp [halfL, lower]; omega
theorem halfL_get (s : Str) (k : Nat) (h : k < List.length s) : (halfL s k)[k]? = some (u8 s[k]) := by
  have hl : (lower (s.take k)).length = k := by simp [lower]; omega
  simp only [halfL, List.getElem?_map]
  rw [List.getElem?_append_right (by omega), hl, Nat.sub_self]
  simp [h]
theorem halfL_set (s : Str) (k : Nat) (h : k < List.length s) : (halfL s k).set k (u8 (lowc s[k])) = halfL s (k + 1) := by
  have hl : (lower (s.take k)).length = k := by simp [lower]; omega
  simp only [halfL, ← List.map_set]
  rw [List.set_append_right _ _ (by omega), hl, Nat.sub_self, List.drop_eq_getElem_cons h, List.set_cons_zero, take_s h]
  simp only [lower, List.map_append, List.map_cons, List.map_nil, List.append_assoc, List.singleton_append]

theorem foldLower_fn (s : Str) (hs : List.length s < 1000000) : Ctr Tryz.prog 86 [.d (.str s)] (.d (.str (lower s))) := by
  refine fn_of_vwp (fun i => decide (i < 1000000)) (by kernel_rfl) Tryz.func86 (by kernel_rfl) rfl rfl (Nat.le_of_ble_eq_true rfl) (by kernel_rfl) rfl rfl ?_
  simp -implicitDefEqProofs
  refine ⟨by omega, ?_⟩
  refine loopN (List.length s) (fun k τ => τ 9 = .d (.int .i64 k) ∧ τ 8 = .d (.int .i64 (List.length s)) ∧ τ 3 = .own true 100005 (halfL s k)) (by simp [halfL, lower, bytesD, u8]) ?_
  rintro k τ hk ⟨h9, h8, h3⟩
  have hlen := halfL_len s k hk
  by_cases hlt : k < List.length s
  · have hg := halfL_get s k hlt
    have hset := halfL_set s k hlt
    generalize halfL s k = M at *
    have hlt2 : k < M.length := by omega
    have hg2 : M[k] = u8 s[k] := (List.getElem?_eq_some_iff.1 hg).2
    simp -implicitDefEqProofs [h9, h8, h3, hlt, hlt2, hg2, u8]
    refine callK (upper_fn _) ?_
    by_cases h1 : 65 ≤ (s[k].toNat : Int) ∧ (s[k].toNat : Int) ≤ 90
    · simp -implicitDefEqProofs [h9, h8, h3, hlt, hlt2, hg2, u8, h1.1, h1.2]
      have e : u8 (lowc s[k]) = .int .u8 ((s[k].toNat : Int) + 32) := by
        simp only [u8, lowc_toNat _ h1.1 h1.2]; congr 1; omega
      rw [e] at hset
      exact ⟨by omega, by omega, again hlt ⟨by simp, by simp [h8], by simp [hset]⟩⟩
    · have hb : (decide (65 ≤ (s[k].toNat : Int)) && decide ((s[k].toNat : Int) ≤ 90)) = false := by simpa using h1
      simp -implicitDefEqProofs [h9, h8, h3, hlt, hlt2, hg2, u8, hb]
      rw [lowc_not h1, ← hg2, List.set_getElem_self] at hset
      exact ⟨by omega, again hlt ⟨by simp, by simp [h8], by simp [h3, hset]⟩⟩
  · simp -implicitDefEqProofs [h9, h8, h3, hlt]
    have e : halfL s k = bytesD (lower s) := by
      have : k = List.length s := by omega
      subst this
      simp [halfL, bytesD, u8]
    simp -implicitDefEqProofs [e, h3]
end Go.Proofs.Tz

namespace Go.Proofs.Tz
open Go.Vw
set_option maxRecDepth 100000
set_option maxHeartbeats 4000000
set_option linter.unusedSimpArgs false

theorem u8ne {x c : UInt8} (h : ¬ x = c) : ¬ ((x.toNat : Int) = c.toNat) := fun e => h (UInt8.toNat_inj.1 (by omega))

def trimLB (c : UInt8) (s : Str) : Str := s.dropWhile fun x => decide (x = c)
def trimRB (c : UInt8) (s : Str) : Str := (s.reverse.dropWhile fun x => decide (x = c)).reverse

theorem trimL_fn (s : Str) (c : UInt8) : Ctr Tryz.prog 201 [.d (.str s), .d (u8 c)] (.d (.str (trimLB c s))) := by
  refine fn_of_vwp (fun _ => false) (by kernel_rfl) Tryz.func201 (by kernel_rfl) rfl rfl (Nat.le_of_ble_eq_true rfl) (by kernel_rfl) rfl rfl ?_
  simp -implicitDefEqProofs [u8]
  refine loopK (fun n τ => ∃ t : Str, n = t.length ∧ τ 0 = .d (.str t) ∧ τ 1 = .d (.int .u8 c.toNat) ∧ trimLB c t = trimLB c s) s.length ⟨s, rfl, by simp, by simp, rfl⟩ ?_
  rintro n τ ⟨t, rfl, h0, h1, ht⟩
  cases t with
  | nil =>
    simp -implicitDefEqProofs [h0, h1]
    rw [← ht]; rfl
  | cons x t =>
    by_cases hx : x = c
    · subst hx
      simp -implicitDefEqProofs [h0, h1]
      exact ⟨_, by omega, t, rfl, rfl, by rw [← ht, trimLB, trimLB, List.dropWhile_cons, if_pos (by simp)]⟩
    · have := u8ne hx
      simp -implicitDefEqProofs [h0, h1, this]
      rw [← ht, trimLB, List.dropWhile_cons, if_neg (by simp [hx])]

theorem trimRB_last {c : UInt8} {t : Str} (h : 0 < List.length t) : trimRB c t = if t[List.length t - 1] = c then trimRB c (t.take (List.length t - 1)) else t := by
  have e : t = t.take (List.length t - 1) ++ [t[List.length t - 1]] := by
    have := take_s (l := t) (k := List.length t - 1) (by omega)
    rw [show List.length t - 1 + 1 = List.length t by omega, List.take_length] at this
    exact this
  conv => lhs; rw [e]
  rw [trimRB, List.reverse_append, List.reverse_singleton, List.singleton_append, List.dropWhile_cons]
  by_cases hx : t[List.length t - 1] = c
  · rw [if_pos (by simpa using hx), if_pos hx, trimRB]
  · rw [if_neg (by simpa using hx), if_neg hx, List.reverse_cons, List.reverse_reverse]
    exact e.symm

theorem trimR_fn (s : Str) (c : UInt8) (hs : List.length s < 1000000) : Ctr Tryz.prog 202 [.d (.str s), .d (u8 c)] (.d (.str (trimRB c s))) := by
  refine fn_of_vwp (fun _ => false) (by kernel_rfl) Tryz.func202 (by kernel_rfl) rfl rfl (Nat.le_of_ble_eq_true rfl) (by kernel_rfl) rfl rfl ?_
  simp -implicitDefEqProofs [u8]
  refine loopK (fun n τ => ∃ t : Str, n = t.length ∧ τ 0 = .d (.str t) ∧ τ 1 = .d (.int .u8 c.toNat) ∧ List.length t < 1000000 ∧ trimRB c t = trimRB c s) s.length ⟨s, rfl, by simp, by simp, hs, rfl⟩ ?_
  rintro n τ ⟨t, rfl, h0, h1, hl, ht⟩
  by_cases hpos : 0 < List.length t
  · have hi : 0 ≤ (List.length t : Int) - 1 := by omega
    have hi2 : ((List.length t : Int) - 1).toNat = List.length t - 1 := by omega
    have hi3 : List.length t - 1 < List.length t := by omega
    have hi4 : -9223372036854775808 ≤ (List.length t : Int) - 1 := by omega
    have hi5 : (List.length t : Int) - 1 ≤ 9223372036854775807 := by omega
    have hi6 : 1 ≤ (List.length t : Int) := by omega
    have hz : ¬ t = [] := fun e => by subst e; simp at hpos
    rw [trimRB_last hpos] at ht
    by_cases hx : t[List.length t - 1] = c
    · rw [if_pos hx] at ht
      simp -implicitDefEqProofs [h0, h1, hpos, hi, hi2, hi3, hi4, hi5, hi6, hx, hz]
      exact ⟨List.length t - 1, by omega, t.take (List.length t - 1), by rw [List.length_take]; omega, rfl, by rw [List.length_take]; omega, ht⟩
    · have := u8ne hx
      rw [if_neg hx] at ht
      simp -implicitDefEqProofs [h0, h1, hpos, hi, hi2, hi3, hi4, hi5, hi6, this, hz]
      exact ht
  · obtain rfl : t = [] := List.eq_nil_of_length_eq_zero (by omega)
    simp -implicitDefEqProofs [h0, h1]
    rw [← ht]; rfl

def trimB (s : Str) : Str := trimLB 32 (trimRB 32 s)
theorem trim102_fn (s : Str) (hs : List.length s < 1000000) : Ctr Tryz.prog 200 [.d (.str s), .d (.str [32])] (.d (.str (trimB s))) := by
  refine fn_of_vwp (fun _ => false) (by kernel_rfl) Tryz.func200 (by kernel_rfl) rfl rfl (Nat.le_of_ble_eq_true rfl) (by kernel_rfl) rfl rfl ?_
  by_cases hz : s = []
  · subst hz
    simp -implicitDefEqProofs
    try rfl
  simp -implicitDefEqProofs [hz]
  have h1 : Ctr Tryz.prog 202 [.d (.str s), .d (.int .u8 32)] (.d (.str (trimRB 32 s))) := trimR_fn s 32 hs
  have h2 : Ctr Tryz.prog 201 [.d (.str (trimRB 32 s)), .d (.int .u8 32)] (.d (.str (trimB s))) := trimL_fn (trimRB 32 s) 32
  refine callP h1 ?_
  simp -implicitDefEqProofs [hz]
  refine callP h2 ?_
  simp -implicitDefEqProofs [hz]
theorem trim_fn (s : Str) (hs : List.length s < 1000000) : Ctr Tryz.prog 196 [.d (.str s)] (.d (.str (trimB s))) := by
  refine fn_of_vwp (fun _ => false) (by kernel_rfl) Tryz.func196 (by kernel_rfl) rfl rfl (Nat.le_of_ble_eq_true rfl) (by kernel_rfl) rfl rfl ?_
  simp -implicitDefEqProofs
  refine callK (trim102_fn s hs) ?_
  simp -implicitDefEqProofs

/-- The runes of a string. -/
def runes (s : Str) (pos : Nat) : Nat := (Go.Utf8.decode ⟨s.toArray⟩ pos).1
def cleanF (s : Str) : Bool := s.all cleanC && decide (s ≠ []) && decide (List.length s ≤ 256) && decide (trimB s = s)

theorem dec_lo {s : Str} {k : Nat} (h : k < List.length s) (hc : s[k].toNat < 128) : Go.Utf8.decode ⟨s.toArray⟩ k = (s[k].toNat, 1) := by
  have hb : k < (⟨s.toArray⟩ : ByteArray).size := by simpa [ByteArray.size] using h
  have e : (⟨s.toArray⟩ : ByteArray)[k]'hb = s[k] := rfl
  have := decode_ascii ⟨s.toArray⟩ k hb (by rw [e]; exact hc)
  rw [e] at this
  exact this
theorem dec_hi {s : Str} {k : Nat} (h : k < List.length s) (hc : 128 ≤ s[k].toNat) : 128 ≤ (Go.Utf8.decode ⟨s.toArray⟩ k).1 := by
  have hb : k < (⟨s.toArray⟩ : ByteArray).size := by simpa [ByteArray.size] using h
  have e : (⟨s.toArray⟩ : ByteArray)[k]'hb = s[k] := rfl
  exact (decode_high ⟨s.toArray⟩ k hb (by rw [e]; exact hc)).1

theorem trimLB_len (c : UInt8) (s : Str) : List.length (trimLB c s) ≤ List.length s := (List.dropWhile_sublist _).length_le
theorem trimRB_len (c : UInt8) (s : Str) : List.length (trimRB c s) ≤ List.length s := by
  have := (List.dropWhile_sublist (fun x : UInt8 => decide (x = c)) (l := s.reverse)).length_le
  simpa [trimRB] using this
theorem trimB_iff {s : Str} (h : 0 < List.length s) : trimB s = s ↔ s[0] ≠ 32 ∧ s[List.length s - 1] ≠ 32 := by
  constructor
  · intro e
    have h1 := trimLB_len 32 (trimRB 32 s)
    have h2 := trimRB_len 32 s
    have h3 : List.length (trimB s) = List.length s := by rw [e]
    rw [trimB] at h3
    have hr : s[List.length s - 1] ≠ 32 := by
      intro h4
      rw [trimRB_last h, if_pos h4] at h3 h1
      have h5 := trimRB_len 32 (s.take (List.length s - 1))
      rw [List.length_take] at h5
      omega
    refine ⟨fun h4 => ?_, hr⟩
    rw [trimB, trimRB_last h, if_neg hr] at e
    cases s with
    | nil => simp at h
    | cons x t =>
      simp only [List.getElem_cons_zero] at h4
      rw [trimLB, List.dropWhile_cons, if_pos (by simp [h4])] at e
      have := trimLB_len 32 t
      rw [trimLB, e, List.length_cons] at this
      omega
  · rintro ⟨h1, h2⟩
    rw [trimB, trimRB_last h, if_neg h2]
    cases s with
    | nil => rfl
    | cons x t => rw [trimLB, List.dropWhile_cons, if_neg (by simpa using h1)]
theorem cleanF_eq (s : Str) : cleanF s = cleanB s := by
  by_cases h : 0 < List.length s
  · have hne : s ≠ [] := fun e => by subst e; simp at h
    have hh : s.head? = some s[0] := by simp [List.head?_eq_getElem?, h]
    have hl : s.getLast? = some s[List.length s - 1] := by rw [List.getLast?_eq_getElem?, List.getElem?_eq_getElem (by omega)]
    rw [Bool.eq_iff_iff]
    simp only [cleanF, cleanB, Bool.and_eq_true, decide_eq_true_eq, trimB_iff h, hh, hl, bne_iff_ne, ne_eq, Option.some.injEq]
    have : 1 ≤ List.length s := h
    constructor
    · rintro ⟨⟨⟨a, b⟩, c⟩, d, e⟩; exact ⟨⟨⟨⟨this, c⟩, d⟩, e⟩, a⟩
    · rintro ⟨⟨⟨⟨_, c⟩, d⟩, e⟩, a⟩; exact ⟨⟨⟨a, hne⟩, c⟩, d, e⟩
  · obtain rfl : s = [] := List.eq_nil_of_length_eq_zero (by omega)
    rfl

theorem fclean_fn (s : Str) (hs : List.length s < 1000000) : Ctr Tryz.prog 197 [.d (.str s)] (.d (.bool (cleanF s))) := by
  refine fn_of_vwp (fun _ => false) (by kernel_rfl) Tryz.func197 (by kernel_rfl) rfl rfl (Nat.le_of_ble_eq_true rfl) (by kernel_rfl) rfl rfl ?_
  simp -implicitDefEqProofs
  refine loopN (List.length s) (fun k τ => τ 0 = .d (.str s) ∧ τ 6 = .iter s k ∧ ∀ x ∈ s.take k, cleanC x = true) (by simp) ?_
  rintro k τ hk ⟨h0, h6, hall⟩
  by_cases hlt : k < List.length s
  · by_cases ha : s[k].toNat < 128
    · have hd := dec_lo hlt ha
      by_cases e1 : (s[k].toNat : Int) < 32
      · have e1' : ¬ 32 ≤ (s[k].toNat : Int) := by omega
        simp -implicitDefEqProofs [h0, h6, hlt, hd, e1]
        simp [cleanF, all_not hlt (show cleanC s[k] = false by simp [cleanC, e1'])]
      · by_cases e2 : 126 < (s[k].toNat : Int)
        · have e2' : ¬ (s[k].toNat : Int) ≤ 126 := by omega
          simp -implicitDefEqProofs [h0, h6, hlt, hd, e1, e2]
          simp [cleanF, all_not hlt (show cleanC s[k] = false by simp [cleanC, e2'])]
        · have e1' : 32 ≤ (s[k].toNat : Int) := by omega
          have e2' : (s[k].toNat : Int) ≤ 126 := by omega
          simp -implicitDefEqProofs [h0, h6, hlt, hd, e1, e2]
          exact again hlt ⟨by simp [h0], by simp, all_take hlt hall (by simp [cleanC, e1', e2'])⟩
    · have hd := dec_hi hlt (by omega)
      have e1 : ¬ ((Go.Utf8.decode ⟨s.toArray⟩ k).1 : Int) < 32 := by omega
      have e2 : 126 < ((Go.Utf8.decode ⟨s.toArray⟩ k).1 : Int) := by omega
      have e2' : ¬ (s[k].toNat : Int) ≤ 126 := by omega
      simp -implicitDefEqProofs [h0, h6, hlt, e1, e2]
      simp [cleanF, all_not hlt (show cleanC s[k] = false by simp [cleanC, e2'])]
  · rw [List.take_of_length_le (by omega)] at hall
    have hall' : s.all cleanC = true := List.all_eq_true.2 hall
    by_cases hz : s = []
    · subst hz
      simp -implicitDefEqProofs [h0, h6, cleanF]
    · by_cases h2 : (List.length s : Int) ≤ 256
      · have h2' : List.length s ≤ 256 := by omega
        simp -implicitDefEqProofs [h0, h6, hlt, hz, h2]
        refine callK (trim_fn s hs) ?_
        simp -implicitDefEqProofs [h0, h6, hlt, hz, h2, cleanF, hall', h2']
      · have h2' : ¬ List.length s ≤ 256 := by omega
        simp -implicitDefEqProofs [h0, h6, hlt, hz, h2, cleanF, h2']
end Go.Proofs.Tz

/- Names: the plain law (no program in sight). -/
set_option linter.unusedVariables false
set_option linter.unusedSimpArgs false
namespace Go.Proofs.Tz
open Go.Vw Go.RowKit Go.Proofs

def specB (c : UInt8) : Bool := decide (c = 44) || decide (c = 61) || decide (c = 43) || decide (c = 92)

/-- The place of the first byte c that is not escaped; or the length. -/
def nextU (c : UInt8) : Str → Nat
  | [] => 0
  | [x] => if x = c then 0 else 1
  | x :: y :: r => if x = c then 0 else if x = 92 then 2 + nextU c r else 1 + nextU c (y :: r)

theorem nextU_le (c : UInt8) : ∀ (s : Str), nextU c s ≤ s.length
  | [] => by simp [nextU]
  | [x] => by simp only [nextU]; split <;> simp
  | x :: y :: r => by
    have h1 := nextU_le c r
    have h2 := nextU_le c (y :: r)
    simp only [nextU]
    simp only [List.length_cons] at h2 ⊢
    split
    · omega
    · split <;> omega

/-- s divided at each comma that is not escaped. -/
def piecesF : Nat → Str → List Str
  | 0, s => [s]
  | n + 1, s => if nextU 44 s < s.length then s.take (nextU 44 s) :: piecesF n (s.drop (nextU 44 s + 1)) else [s]
def piecesU (s : Str) : List Str := piecesF s.length s
theorem piecesF_eq : ∀ (n m : Nat) (s : Str), s.length ≤ n → s.length ≤ m → piecesF n s = piecesF m s
  | 0, 0, _, _, _ => rfl
  | 0, m + 1, s, h, _ => by
    have : s = [] := List.length_eq_zero_iff.1 (by omega)
    subst this
    simp [piecesF]
  | n + 1, 0, s, _, h => by
    have : s = [] := List.length_eq_zero_iff.1 (by omega)
    subst this
    simp [piecesF]
  | n + 1, m + 1, s, h1, h2 => by
    simp only [piecesF]
    split
    · rw [piecesF_eq n m _ (by simp only [List.length_drop]; omega) (by simp only [List.length_drop]; omega)]
    · rfl

theorem piecesU_at {s : Str} (h : nextU 44 s < s.length) : piecesU s = s.take (nextU 44 s) :: piecesU (s.drop (nextU 44 s + 1)) := by
  obtain ⟨n, hn⟩ : ∃ n, s.length = n + 1 := ⟨s.length - 1, by omega⟩
  rw [piecesU, hn, piecesF, if_pos h, piecesU, piecesF_eq n _ _ (by simp only [List.length_drop]; omega) (Nat.le_refl _)]
theorem piecesU_end {s : Str} (h : ¬ nextU 44 s < s.length) : piecesU s = [s] := by
  rw [piecesU]
  cases s.length with
  | zero => rfl
  | succ n => rw [piecesF, if_neg h]

/-- A value without its backslashes. -/
def valueU : Str → Option Str
  | [] => some []
  | [x] => if x = 92 then none else if specB x = true then none else some [x]
  | x :: y :: r => if x = 92 then (if specB y = true then (valueU r).map (y :: ·) else none) else if specB x = true then none else (valueU (y :: r)).map (x :: ·)
/-- .. as the reference reads it. -/
def valueR : Str → Option Str
  | [] => some []
  | [x] => if x = 92 then none else if x = 61 ∨ x = 43 then none else some [x]
  | x :: y :: r => if x = 92 then (if specB y = true then (valueR r).map (y :: ·) else none) else if x = 61 ∨ x = 43 then none else (valueR (y :: r)).map (x :: ·)

/-- No c that is not escaped. -/
def NoU (c : UInt8) : Str → Prop
  | [] => True
  | [x] => x ≠ c
  | x :: y :: r => x ≠ c ∧ if x = 92 then NoU c r else NoU c (y :: r)

theorem valueR_eq : ∀ (s : Str), NoU 44 s → valueR s = valueU s
  | [], _ => rfl
  | [x], h => by
    simp only [NoU] at h
    simp only [valueR, valueU]
    by_cases h1 : x = 92
    · simp [h1]
    · simp [h1, specB, h]
  | x :: y :: r, h => by
    simp only [NoU] at h
    have i1 := fun e => valueR_eq r e
    have i2 := fun e => valueR_eq (y :: r) e
    simp only [valueR, valueU]
    by_cases h1 : x = 92
    · rw [if_pos h1] at h
      simp [h1, i1 h.2]
    · rw [if_neg h1] at h
      simp [h1, specB, h.1, i2 h.2]

theorem NoU.take {c : UInt8} : ∀ {s : Str} (n : Nat), NoU c s → NoU c (s.take n)
  | [], n, h => by simpa using h
  | [x], 0, h => by simp [NoU]
  | [x], n + 1, h => by simpa using h
  | x :: y :: r, 0, h => by simp [NoU]
  | x :: y :: r, 1, h => by simp only [NoU] at h; simp [NoU, h.1]
  | x :: y :: r, n + 2, h => by
    simp only [NoU] at h
    have e : List.take (n + 2) (x :: y :: r) = x :: y :: List.take n r := rfl
    rw [e]
    refine ⟨h.1, ?_⟩
    by_cases h1 : x = 92
    · rw [if_pos h1] at h ⊢
      exact NoU.take n h.2
    · rw [if_neg h1] at h ⊢
      exact NoU.take (n + 1) h.2
theorem NoU.tail {c x : UInt8} {s : Str} (h : NoU c (x :: s)) (hx : x ≠ 92) : NoU c s := by
  cases s with
  | nil => simp [NoU]
  | cons y r => simp only [NoU, if_neg hx] at h; exact h.2
theorem NoU.trimL {c : UInt8} : ∀ {s : Str}, NoU c s → NoU c (trimLB 32 s)
  | [], h => h
  | x :: s, h => by
    rw [trimLB, List.dropWhile_cons]
    split
    · rename_i hx
      have hx' : x = 32 := by simpa using hx
      exact NoU.trimL (h.tail (by rw [hx']; decide))
    · exact h
theorem trimRB_take (c : UInt8) (s : Str) : ∃ n, trimRB c s = s.take n := by
  obtain ⟨t, ht⟩ := List.dropWhile_suffix (l := s.reverse) (fun x => decide (x = c))
  refine ⟨(trimRB c s).length, ?_⟩
  have : trimRB c s ++ t.reverse = s := by
    rw [trimRB, ← List.reverse_append, ht, List.reverse_reverse]
  have h2 := congrArg (List.take (trimRB c s).length) this
  rw [List.take_left' rfl] at h2
  exact h2
theorem NoU.trim {c : UInt8} {s : Str} (h : NoU c s) : NoU c (trimB s) := by
  rw [trimB]
  obtain ⟨n, hn⟩ := trimRB_take 32 s
  rw [hn]
  exact (h.take n).trimL
theorem NoU.after {c d : UInt8} (hd : d ≠ 92) : ∀ {s : Str}, NoU c s → NoU c (s.drop (nextU d s + 1))
  | [], h => by simpa using h
  | [x], h => by simp only [nextU]; split <;> simp [NoU]
  | x :: y :: r, h => by
    simp only [nextU]
    by_cases h1 : x = d
    · rw [if_pos h1]
      exact h.tail (by rw [h1]; exact hd)
    · rw [if_neg h1]
      simp only [NoU] at h
      by_cases h2 : x = 92
      · rw [if_pos h2] at h ⊢
        have e : 2 + nextU d r + 1 = (nextU d r + 1) + 2 := by omega
        rw [e]
        exact NoU.after hd h.2
      · rw [if_neg h2] at h ⊢
        have e : 1 + nextU d (y :: r) + 1 = (nextU d (y :: r) + 1) + 1 := by omega
        rw [e]
        exact NoU.after hd h.2
theorem NoU.before {c : UInt8} : ∀ {s : Str}, NoU c (s.take (nextU c s))
  | [] => by simp [NoU]
  | [x] => by
    simp only [nextU]
    split
    · simp [NoU]
    · rename_i h; simpa [NoU] using h
  | x :: y :: r => by
    simp only [nextU]
    by_cases h1 : x = c
    · simp [h1, NoU]
    · rw [if_neg h1]
      by_cases h2 : x = 92
      · rw [if_pos h2]
        have e : 2 + nextU c r = nextU c r + 2 := by omega
        rw [e]
        refine ⟨h1, ?_⟩
        rw [if_pos h2]
        exact NoU.before
      · rw [if_neg h2]
        have ih := NoU.before (c := c) (s := y :: r)
        have e : 1 + nextU c (y :: r) = nextU c (y :: r) + 1 := by omega
        rw [e, List.take_succ_cons]
        generalize List.take (nextU c (y :: r)) (y :: r) = t at *
        cases t with
        | nil => exact h1
        | cons z t => exact ⟨h1, by rw [if_neg h2]; exact ih⟩
theorem pieces_no : ∀ (n : Nat) (s : Str), s.length ≤ n → ∀ p ∈ piecesU s, NoU 44 p := by
  intro n
  induction n with
  | zero =>
    intro s hn p hp
    have : s = [] := List.length_eq_zero_iff.1 (by omega)
    subst this
    rw [piecesU_end (by simp)] at hp
    simp at hp; subst hp; simp [NoU]
  | succ n ih =>
    intro s hn p hp
    by_cases h : nextU 44 s < s.length
    · rw [piecesU_at h] at hp
      rcases List.mem_cons.1 hp with rfl | hp
      · exact NoU.before
      · exact ih _ (by simp only [List.length_drop]; omega) p hp
    · rw [piecesU_end h] at hp
      have : p = s := by simpa using hp
      subst this
      have h2 := NoU.before (c := 44) (s := p)
      rwa [List.take_of_length_le (by omega)] at h2

abbrev Pair := Str × Str
def pairD (p : Pair) : D := .agg [.str p.1, .str p.2]
def pairs (l : List Pair) : D := .sl (l.map pairD)

/-- The component of a piece. -/
def compU (s : Str) : Pair × Int :=
  if nextU 61 s < s.length then
    (match valueU (trimB (s.drop (nextU 61 s + 1))) with
     | none => (([], []), 4)
     | some v => if nameB (trimB (s.take (nextU 61 s))) = false then (([], []), 5) else if cleanB v = false then (([], []), 8) else ((trimB (s.take (nextU 61 s)), v), 0))
  else (([], []), 4)
def compsU (out : List Pair) : List Str → List Pair × Int
  | [] => if 8 < out.length then ([], 3) else (out, 0)
  | p :: ps => if (compU p).2 = 0 then compsU (out ++ [(compU p).1]) ps else ([], (compU p).2)
def parseU (s : Str) : List Pair × Int := if s = [] then ([], 0) else compsU [] (piecesU s)

/-- Single spaces. -/
def sqz (prev : UInt8) : Str → Str
  | [] => []
  | x :: r => if x = 32 ∧ prev = 32 then sqz x r else x :: sqz x r
def foldS (s : Str) : Str := sqz 0 (lower (trimB s))
def escV (s : Str) : Str := s.flatMap fun c => if specB c = true then [92, c] else [c]
def fmtC (p : Pair) : Str := lower p.1 ++ 61 :: escV (foldS p.2)
def pairE (p : Pair) : Int := if nameB p.1 = false then 5 else if cleanB p.2 = false then 8 else 0
def pairsE : List Pair → Int
  | [] => 0
  | p :: l => if pairE p = 0 then pairsE l else pairE p
def checkU (l : List Pair) : Int := if pairsE l = 0 then (if 8 < l.length then 3 else 0) else pairsE l
def formatU (l : List Pair) : Str × Int := if checkU l = 0 then (joinB 44 (l.map fmtC), 0) else ([], checkU l)
/-- A string's components, where it is in normal form. -/
def normU (s : Str) : Option (List Pair) := if (parseU s).2 = 0 ∧ formatU (parseU s).1 = (s, 0) then some (parseU s).1 else none
def validU (s : Str) : Bool := (normU s).isSome

/-! ### what is in normal form -/
/-- Complete, and without a comma that is not escaped. -/
def CU : Str → Prop
  | [] => True
  | [x] => x ≠ 92 ∧ x ≠ 44
  | x :: y :: r => x ≠ 44 ∧ if x = 92 then CU r else CU (y :: r)
theorem CU.next : ∀ {p : Str}, CU p → ∀ (r : Str), nextU 44 (p ++ 44 :: r) = p.length
  | [], _, r => by cases r <;> simp [nextU]
  | [x], h, r => by
    simp only [CU] at h
    have i := CU.next (p := []) trivial r
    simp only [List.nil_append] at i
    simp [nextU, h.1, h.2, i]
  | x :: y :: t, h, r => by
    simp only [CU] at h
    by_cases h2 : x = 92
    · rw [if_pos h2] at h
      have i := CU.next h.2 r
      simp only [List.cons_append, nextU, if_neg h.1, if_pos h2, i, List.length_cons]
      omega
    · rw [if_neg h2] at h
      have i := CU.next h.2 r
      simp only [List.cons_append] at i
      simp only [List.cons_append, nextU, if_neg h.1, if_neg h2, i, List.length_cons]
      omega
theorem CU.all : ∀ {p : Str}, CU p → nextU 44 p = p.length
  | [], _ => by simp [nextU]
  | [x], h => by simp only [CU] at h; simp [nextU, h.2]
  | x :: y :: t, h => by
    simp only [CU] at h
    by_cases h2 : x = 92
    · rw [if_pos h2] at h
      have i := CU.all h.2
      simp only [nextU, if_neg h.1, if_pos h2, i, List.length_cons]
      omega
    · rw [if_neg h2] at h
      have i := CU.all h.2
      simp only [nextU, if_neg h.1, if_neg h2, i, List.length_cons]
      omega
theorem CU.cons {x : UInt8} {s : Str} (h1 : x ≠ 92) (h2 : x ≠ 44) (h : CU s) : CU (x :: s) := by
  cases s with
  | nil => exact ⟨h1, h2⟩
  | cons y r => exact ⟨h2, by rw [if_neg h1]; exact h⟩
theorem CU.esc {y : UInt8} {s : Str} (h : CU s) : CU (92 :: y :: s) := ⟨by decide, by rw [if_pos rfl]; exact h⟩
theorem CU.escV : ∀ (s : Str), CU (escV s)
  | [] => trivial
  | c :: s => by
    have ih := CU.escV s
    have e : Tz.escV (c :: s) = (if specB c = true then [92, c] else [c]) ++ Tz.escV s := by simp [Tz.escV]
    rw [e]
    by_cases h : specB c = true
    · rw [if_pos h]; exact ih.esc
    · rw [if_neg h]
      refine ih.cons ?_ ?_
      · rintro rfl; exact h (by decide)
      · rintro rfl; exact h (by decide)
theorem CU.pre : ∀ {a : Str} {b : Str}, (∀ x ∈ a, x ≠ 92 ∧ x ≠ 44) → CU b → CU (a ++ b)
  | [], b, _, h => h
  | x :: a, b, hx, h => CU.cons (hx x (by simp)).1 (hx x (by simp)).2 (CU.pre (fun y hy => hx y (by simp [hy])) h)
theorem nameC_ok {c : UInt8} (h : nameC c = true) : c ≠ 92 ∧ c ≠ 44 ∧ c ≠ 61 := by
  refine ⟨?_, ?_, ?_⟩ <;> (rintro rfl; revert h; decide)
theorem lowc_name {c : UInt8} (h : nameC c = true) : nameC (lowc c) = true := by
  by_cases h1 : 65 ≤ (c.toNat : Int) ∧ (c.toNat : Int) ≤ 90
  · have := lowc_toNat c h1.1 h1.2
    simp only [nameC, isLetter, Bool.or_eq_true, Bool.and_eq_true, decide_eq_true_eq]
    left; left; left
    omega
  · rw [lowc, if_neg h1]; exact h
theorem fmtC_cu {p : Pair} (h : nameB p.1 = true) : CU (fmtC p) := by
  refine CU.pre (fun x hx => ?_) ((CU.escV _).cons (by decide) (by decide))
  simp only [lower, List.mem_map] at hx
  obtain ⟨c, hc, rfl⟩ := hx
  simp only [nameB, Bool.and_eq_true, List.all_eq_true] at h
  have := nameC_ok (lowc_name (h.2 c hc))
  exact ⟨this.1, this.2.1⟩
theorem fmtC_ne (p : Pair) : fmtC p ≠ [] := by simp [fmtC]

theorem pieces_join : ∀ {l : List Str}, l ≠ [] → (∀ p ∈ l, CU p) → piecesU (joinB 44 l) = l
  | [], h, _ => absurd rfl h
  | [p], _, h => by
    simp only [joinB]
    exact piecesU_end (by rw [(h p (by simp)).all]; omega)
  | p :: q :: l, _, h => by
    have hp := h p (by simp)
    have ih := pieces_join (l := q :: l) (by simp) (fun x hx => h x (by simp at hx ⊢; right; exact hx))
    have e : joinB 44 (p :: q :: l) = p ++ 44 :: joinB 44 (q :: l) := rfl
    have hn := hp.next (joinB 44 (q :: l))
    rw [e, piecesU_at (by rw [hn]; simp), hn]
    have e1 : List.take p.length (p ++ 44 :: joinB 44 (q :: l)) = p := by simp
    have e2 : List.drop (p.length + 1) (p ++ 44 :: joinB 44 (q :: l)) = joinB 44 (q :: l) := by rw [← List.drop_drop]; simp
    rw [e1, e2, ih]
theorem joinB_ne {l : List Str} (h : l ≠ []) (hn : ∀ p ∈ l, p ≠ []) : joinB 44 l ≠ [] := by
  match l, h with
  | [p], _ => exact hn p (by simp)
  | p :: q :: l, _ => simp [joinB]

/-- A pair in normal form. -/
def NP (p : Pair) : Prop := compU (fmtC p) = (p, 0)
theorem compU_ok {s : Str} {p : Pair} (h : compU s = (p, 0)) : nameB p.1 = true ∧ cleanB p.2 = true := by
  unfold compU at h
  split at h
  · split at h
    · simp at h
    · split at h
      · simp at h
      · split at h
        · simp at h
        · rename_i h1 h2
          simp only [Prod.mk.injEq, and_true] at h
          obtain ⟨rfl⟩ := h
          exact ⟨by simpa using h1, by simpa using h2⟩
  · simp at h
theorem NP.pairE {p : Pair} (h : NP p) : pairE p = 0 := by
  have := compU_ok h
  simp [Tz.pairE, this.1, this.2]
theorem pairsE_zero {l : List Pair} : pairsE l = 0 ↔ ∀ p ∈ l, pairE p = 0 := by
  induction l with
  | nil => simp [pairsE]
  | cons p l ih =>
    simp only [pairsE, List.mem_cons, forall_eq_or_imp]
    by_cases h : pairE p = 0
    · simp [h, ih]
    · simp [h]
theorem compsU_all : ∀ {ps : List Str} {qs out : List Pair}, ps.length = qs.length → (∀ i (h1 : i < ps.length) (h2 : i < qs.length), compU ps[i] = (qs[i], 0)) → compsU out ps = if 8 < (out ++ qs).length then ([], 3) else (out ++ qs, 0)
  | [], [], out, _, _ => by simp [compsU]
  | p :: ps, q :: qs, out, hl, h => by
    have h0 := h 0 (by simp) (by simp)
    simp only [List.getElem_cons_zero] at h0
    have ih := compsU_all (ps := ps) (qs := qs) (out := out ++ [q]) (by simpa using hl) (fun i h1 h2 => by
      have := h (i + 1) (by simpa using h1) (by simpa using h2)
      simpa using this)
    simp only [compsU, h0, if_true, ih, List.append_assoc, List.singleton_append]
  | [], _ :: _, _, hl, _ => by simp at hl
  | _ :: _, [], _, hl, _ => by simp at hl
theorem compsU_inv : ∀ {ps : List Str} {out r : List Pair}, compsU out ps = (r, 0) → ∃ qs, r = out ++ qs ∧ ps.length = qs.length ∧ r.length ≤ 8 ∧ ∀ i (h1 : i < ps.length) (h2 : i < qs.length), compU ps[i] = (qs[i], 0)
  | [], out, r, h => by
    simp only [compsU] at h
    split at h
    · simp at h
    · rename_i h8
      simp only [Prod.mk.injEq, and_true] at h
      subst h
      exact ⟨[], by simp, rfl, by omega, fun i h1 => by simp at h1⟩
  | p :: ps, out, r, h => by
    simp only [compsU] at h
    split at h
    · rename_i h0
      obtain ⟨qs, hr, hl, h8, hq⟩ := compsU_inv h
      refine ⟨(compU p).1 :: qs, by rw [hr]; simp, by simp [hl], h8, fun i h1 h2 => ?_⟩
      cases i with
      | zero => simp only [List.getElem_cons_zero]; rw [← h0]
      | succ i => simpa using hq i (by simpa using h1) (by simpa using h2)
    · rename_i h0
      simp only [Prod.mk.injEq] at h
      exact absurd h.2 h0

/-- Pairs in normal form, at most eight, make a name in normal form. -/
theorem normU_of {l : List Pair} (hn : ∀ p ∈ l, NP p) (h8 : l.length ≤ 8) : formatU l = (joinB 44 (l.map fmtC), 0) ∧ normU (joinB 44 (l.map fmtC)) = some l := by
  have hE : pairsE l = 0 := pairsE_zero.2 fun p hp => (hn p hp).pairE
  have hf : formatU l = (joinB 44 (l.map fmtC), 0) := by
    have hc : checkU l = 0 := by rw [checkU, if_pos hE, if_neg (by omega)]
    rw [formatU, if_pos hc]
  have hp : parseU (joinB 44 (l.map fmtC)) = (l, 0) := by
    unfold parseU
    by_cases h : l = []
    · subst h; rfl
    · rw [if_neg (joinB_ne (by simpa using h) (by simp only [List.mem_map]; rintro _ ⟨p, _, rfl⟩; exact fmtC_ne p)), pieces_join (by simpa using h) (by simp only [List.mem_map]; rintro _ ⟨p, hp, rfl⟩; exact fmtC_cu (compU_ok (hn p hp)).1)]
      rw [compsU_all (qs := l) (by simp) (fun i h1 h2 => by rw [List.getElem_map]; exact hn l[i] (List.getElem_mem h2))]
      simp only [List.nil_append]
      rw [if_neg (by omega)]
  exact ⟨hf, by rw [normU, hp, if_pos ⟨rfl, hf⟩]⟩
theorem normU_inv {s : Str} {l : List Pair} (h : normU s = some l) : (∀ p ∈ l, NP p) ∧ l.length ≤ 8 ∧ s = joinB 44 (l.map fmtC) ∧ parseU s = (l, 0) ∧ formatU l = (s, 0) := by
  unfold normU at h
  split at h
  · rename_i hh
    obtain ⟨h0, hf⟩ := hh
    simp only [Option.some.injEq] at h
    subst h
    have hs : s = joinB 44 ((parseU s).1.map fmtC) := by
      unfold formatU at hf
      split at hf
      · simp only [Prod.mk.injEq, and_true] at hf; exact hf.symm
      · rename_i hc
        simp only [Prod.mk.injEq] at hf
        exact absurd hf.2 hc
    have hchk : pairsE (parseU s).1 = 0 ∧ (parseU s).1.length ≤ 8 := by
      unfold formatU at hf
      split at hf
      · rename_i hc
        unfold checkU at hc
        split at hc
        · rename_i he
          split at hc
          · simp at hc
          · exact ⟨he, by omega⟩
        · rename_i he; exact absurd hc he
      · rename_i hc
        simp only [Prod.mk.injEq] at hf
        exact absurd hf.2 hc
    have hP : parseU s = ((parseU s).1, 0) := by rw [← h0]
    refine ⟨fun p hp => ?_, hchk.2, hs, hP, hf⟩
    generalize hl : (parseU s).1 = l at *
    by_cases hnil : l = []
    · subst hnil; simp at hp
    · have hnm : ∀ q ∈ l, nameB q.1 = true := fun q hq => by
        have := (pairsE_zero.1 hchk.1) q hq
        unfold pairE at this
        split at this
        · simp at this
        · rename_i h1; simpa using h1
      have hsn : s ≠ [] := by
        rw [hs]
        exact joinB_ne (by simpa using hnil) (by simp only [List.mem_map]; rintro _ ⟨p, _, rfl⟩; exact fmtC_ne p)
      have hpc : piecesU s = l.map fmtC := by
        rw [hs]
        exact pieces_join (by simpa using hnil) (by simp only [List.mem_map]; rintro _ ⟨q, hq, rfl⟩; exact fmtC_cu (hnm q hq))
      rw [parseU, if_neg hsn, hpc] at hP
      obtain ⟨qs, hr, hlen, _, hq⟩ := compsU_inv hP
      simp only [List.nil_append] at hr
      subst hr
      obtain ⟨i, hi, rfl⟩ := List.getElem_of_mem hp
      have := hq i (by simpa using hi) hi
      rw [List.getElem_map] at this
      exact this
  · cases h
theorem normU_inj {s t : Str} {l : List Pair} (h1 : normU s = some l) (h2 : normU t = some l) : s = t := by rw [(normU_inv h1).2.2.1, (normU_inv h2).2.2.1]
theorem normU_app {s t : Str} {l m : List Pair} (h1 : normU s = some l) (h2 : normU t = some m) {n : List Pair} (hn : ∀ p ∈ n, p ∈ l ∨ p ∈ m) (h8 : n.length ≤ 8) : formatU n = (joinB 44 (n.map fmtC), 0) ∧ normU (joinB 44 (n.map fmtC)) = some n :=
  normU_of (fun p hp => by
    rcases hn p hp with h | h
    · exact (normU_inv h1).1 p h
    · exact (normU_inv h2).1 p h) h8

/-- s is base or lies below it. -/
def underU (s base : Str) : Bool := match normU s, normU base with
  | some l, some m => decide (m.length ≤ l.length) && decide (l.drop (l.length - m.length) = m)
  | _, _ => false
/-- .. as the reference decides it. -/
theorem under_fmt {s base : Str} {l m : List Pair} (h1 : normU s = some l) (h2 : normU base = some m) (hle : m.length ≤ l.length) : (formatU (l.drop (l.length - m.length))).1 = base ↔ l.drop (l.length - m.length) = m := by
  have ha := normU_app h1 h1 (n := l.drop (l.length - m.length)) (fun p hp => .inl (List.mem_of_mem_drop hp)) (by have := (normU_inv h1).2.1; simp; omega)
  have hb := normU_inv h2
  constructor
  · intro h
    rw [ha.1] at h
    simp only at h
    have h3 := ha.2
    rw [h, h2] at h3
    exact (Option.some.inj h3).symm
  · intro h
    rw [h, hb.2.2.2.2]
def depthU (s : Str) : Nat := ((normU s).getD []).length
end Go.Proofs.Tz

/- Access lists: the plain law (no program in sight). -/
set_option linter.unusedVariables false
set_option linter.unusedSimpArgs false
namespace Go.Proofs.Tz
open Go.Vw Go.RowKit Go.Proofs

/-- A rule: whether it allows, its subject, its target, its attributes, its rights. -/
abbrev ARule := Bool × Str × Str × List Str × List Int
def ints (l : List Int) : D := .sl (l.map (.int .i64))
def aruleD (r : ARule) : D := .agg [.bool r.1, .str r.2.1, .str r.2.2.1, strs r.2.2.2.1, ints r.2.2.2.2]
def arules (l : List ARule) : D := .sl (l.map aruleD)
structure FitAR (r : ARule) : Prop where
  subj : List.length r.2.1 < 900000
  targ : List.length r.2.2.1 < 900000
  attrs : r.2.2.2.1.length < 1000000
  each : ∀ a ∈ r.2.2.2.1, List.length a < 1000000
  rights : r.2.2.2.2.length < 1000000
def FitARs (l : List ARule) : Prop := l.length < 1000000 ∧ ∀ r ∈ l, FitAR r

abbrev uMark : Str := [117, 115, 101, 114, 58]
abbrev gMark : Str := [103, 114, 111, 117, 112, 58]
abbrev starW : Str := [42]
abbrev selfW : Str := [115, 101, 108, 102]
/-- The name in a subject. -/
def namedP (s : Str) : Option Str := if s.take 5 = uMark then some (s.drop 5) else if s.take 6 = gMark then some (s.drop 6) else none
def subjE (s : Str) : Int := if s = starW ∨ s = selfW then 0 else match namedP s with
  | none => 4
  | some n => if n = [] ∨ validU n = false then 5 else 0
def rightsGo : List Int → List Int → Int
  | _, [] => 0
  | pre, x :: l => if x < 1 ∨ 5 < x then 2 else if x ∈ pre then 7 else rightsGo (pre ++ [x]) l
def rightsE (l : List Int) : Int := if l = [] then 6 else rightsGo [] l
def ruleE (r : ARule) : Int := if subjE r.2.1 ≠ 0 then subjE r.2.1 else if validU r.2.2.1 = false ∨ r.2.2.2.1.all nameB = false then 5 else if 32 < r.2.2.2.1.length then 3 else rightsE r.2.2.2.2
def rulesE : List ARule → Int
  | [] => 0
  | r :: l => if ruleE r = 0 then rulesE l else ruleE r
def checkAR (l : List ARule) : Int := if 64 < l.length then 3 else rulesE l
theorem rulesE_drop {l : List ARule} {k : Nat} (h : k < l.length) : rulesE (l.drop k) = if ruleE l[k] = 0 then rulesE (l.drop (k + 1)) else ruleE l[k] := by rw [drop_c h]; rfl
theorem rightsGo_drop {l : List Int} {k : Nat} (h : k < l.length) : rightsGo (l.take k) (l.drop k) = if l[k] < 1 ∨ 5 < l[k] then 2 else if l[k] ∈ l.take k then 7 else rightsGo (l.take (k + 1)) (l.drop (k + 1)) := by
  rw [drop_c h, rightsGo, take_s h]
theorem rulesE_zero {l : List ARule} : rulesE l = 0 ↔ ∀ r ∈ l, ruleE r = 0 := by
  induction l with
  | nil => simp [rulesE]
  | cons r l ih =>
    simp only [rulesE, List.mem_cons, forall_eq_or_imp]
    by_cases h : ruleE r = 0
    · simp [h, ih]
    · simp [h]
theorem checkAR_zero {l : List ARule} : checkAR l = 0 ↔ l.length ≤ 64 ∧ ∀ r ∈ l, ruleE r = 0 := by
  unfold checkAR
  by_cases h : 64 < l.length
  · rw [if_pos h]; constructor
    · intro e; cases e
    · intro e; omega
  · rw [if_neg h, rulesE_zero]; exact ⟨fun e => ⟨by omega, e⟩, fun e => e.2⟩

/-! ### decisions -/
/-- Who asks: the name, the groups. -/
abbrev Subj := Str × List Str
def subjD (u : Subj) : D := .agg [.str u.1, strs u.2]
def aboutP (s : Str) (u : Subj) (entry : Str) : Bool :=
  if s = starW then true else if s = selfW then decide (u.1 ≠ []) && decide (u.1 = entry) else
    if s.take 5 = uMark then decide (u.1 ≠ []) && decide (s.drop 5 = u.1) else if s.take 6 = gMark then decide (s.drop 6 ∈ u.2) else false
def appliesP (r : ARule) (u : Subj) (entry : Str) : Bool := aboutP r.2.1 u entry && underU entry r.2.2.1
def coversP (r : ARule) (attr : Str) : Bool := decide (r.2.2.2.1 = []) || r.2.2.2.1.any fun a => decide (attr ≠ []) && decide (lower a = lower attr)
def matchP (u : Subj) (entry attr : Str) (right : Int) (r : ARule) : Bool := coversP r attr && decide (right ∈ r.2.2.2.2) && appliesP r u entry
def betterP (r b : ARule) : Bool := decide (depthU b.2.2.1 < depthU r.2.2.1) || decide (depthU r.2.2.1 = depthU b.2.2.1) && b.1 && !r.1
/-- The best rule so far: its place, and itself. -/
def pickB (m : ARule → Bool) (i : Nat) (b : Option (Nat × ARule)) (r : ARule) : Option (Nat × ARule) :=
  if m r = true then (match b with
    | none => some (i, r)
    | some x => if betterP r x.2 = true then some (i, r) else b) else b
def decGo (m : ARule → Bool) : Nat → Option (Nat × ARule) → List ARule → Option (Nat × ARule)
  | _, b, [] => b
  | i, b, r :: l => decGo m (i + 1) (pickB m i b r) l
def decP (l : List ARule) (u : Subj) (entry attr : Str) (right : Int) : Bool × Int := match decGo (matchP u entry attr right) 0 none l with
  | none => (false, -1)
  | some (i, r) => (r.1, i)

/-- A rule that is best among those of a list for which m holds. -/
def BestP (m : ARule → Bool) (l : List ARule) (b : ARule) : Prop := b ∈ l ∧ m b = true ∧ (∀ r ∈ l, m r = true → depthU r.2.2.1 ≤ depthU b.2.2.1) ∧ (b.1 = true → ∀ r ∈ l, m r = true → depthU r.2.2.1 = depthU b.2.2.1 → r.1 = true)
def OkP (m : ARule → Bool) (l : List ARule) : Option (Nat × ARule) → Prop
  | none => ∀ r ∈ l, m r = false
  | some (i, b) => BestP m l b ∧ l[i]? = some b
theorem OkP.step {m : ARule → Bool} {l : List ARule} {b : Option (Nat × ARule)} {r : ARule} (h : OkP m l b) : OkP m (l ++ [r]) (pickB m l.length b r) := by
  unfold pickB
  by_cases hm : m r = true
  · rw [if_pos hm]
    cases b with
    | none =>
      refine ⟨⟨by simp, hm, fun x hx hmx => ?_, fun _ x hx hmx _ => ?_⟩, by simp⟩
      · rw [List.mem_append, List.mem_singleton] at hx
        rcases hx with hx | rfl
        · rw [h x hx] at hmx; cases hmx
        · exact Nat.le_refl _
      · rw [List.mem_append, List.mem_singleton] at hx
        rcases hx with hx | rfl
        · rw [h x hx] at hmx; cases hmx
        · assumption
    | some y =>
      obtain ⟨i, b⟩ := y
      obtain ⟨⟨h1, h2, h3, h4⟩, h5⟩ := h
      have hil : i < l.length := (List.getElem?_eq_some_iff.1 h5).1
      simp only
      by_cases hb : betterP r b = true
      · rw [if_pos hb]
        simp only [betterP, Bool.or_eq_true, Bool.and_eq_true, decide_eq_true_eq, Bool.not_eq_true'] at hb
        refine ⟨⟨by simp, hm, fun x hx hmx => ?_, fun hr x hx hmx hd => ?_⟩, by simp⟩
        · rw [List.mem_append, List.mem_singleton] at hx
          rcases hx with hx | rfl
          · have := h3 x hx hmx
            rcases hb with hb | ⟨⟨hb, _⟩, _⟩ <;> omega
          · exact Nat.le_refl _
        · rw [List.mem_append, List.mem_singleton] at hx
          rcases hx with hx | rfl
          · have := h3 x hx hmx
            rcases hb with hb | ⟨⟨hb, _⟩, hb2⟩
            · omega
            · rw [hr] at hb2; cases hb2
          · exact hr
      · rw [if_neg hb]
        have hb' : betterP r b = false := by simpa using hb
        simp only [betterP, Bool.or_eq_false_iff, Bool.and_eq_false_iff, decide_eq_false_iff_not, Bool.not_eq_false'] at hb'
        obtain ⟨hb1, hb2⟩ := hb'
        refine ⟨⟨by simp [h1], h2, fun x hx hmx => ?_, fun hbt x hx hmx hd => ?_⟩, by rw [List.getElem?_append_left hil]; exact h5⟩
        · rw [List.mem_append, List.mem_singleton] at hx
          rcases hx with hx | rfl
          · exact h3 x hx hmx
          · omega
        · rw [List.mem_append, List.mem_singleton] at hx
          rcases hx with hx | rfl
          · exact h4 hbt x hx hmx hd
          · rcases hb2 with (hb2 | hb2) | hb2
            · exact absurd hd hb2
            · rw [hbt] at hb2; cases hb2
            · exact hb2
  · rw [if_neg hm]
    have hm' : m r = false := by simpa using hm
    cases b with
    | none =>
      intro x hx
      rw [List.mem_append, List.mem_singleton] at hx
      rcases hx with hx | rfl
      · exact h x hx
      · exact hm'
    | some y =>
      obtain ⟨i, b⟩ := y
      obtain ⟨⟨h1, h2, h3, h4⟩, h5⟩ := h
      have hil : i < l.length := (List.getElem?_eq_some_iff.1 h5).1
      refine ⟨⟨by simp [h1], h2, fun x hx hmx => ?_, fun hbt x hx hmx hd => ?_⟩, by rw [List.getElem?_append_left hil]; exact h5⟩
      · rw [List.mem_append, List.mem_singleton] at hx
        rcases hx with hx | rfl
        · exact h3 x hx hmx
        · rw [hm'] at hmx; cases hmx
      · rw [List.mem_append, List.mem_singleton] at hx
        rcases hx with hx | rfl
        · exact h4 hbt x hx hmx hd
        · rw [hm'] at hmx; cases hmx
theorem decGo_ok {m : ARule → Bool} : ∀ {l pre : List ARule} {b : Option (Nat × ARule)}, OkP m pre b → OkP m (pre ++ l) (decGo m pre.length b l)
  | [], pre, b, h => by simpa [decGo] using h
  | r :: l, pre, b, h => by
    have ih := decGo_ok (l := l) (h.step (r := r))
    rw [List.length_append, List.length_singleton, List.append_assoc, List.singleton_append] at ih
    exact ih
/-- What a decision is. -/
theorem dec_spec (l : List ARule) (u : Subj) (entry attr : Str) (right : Int) :
    ((decP l u entry attr right = (false, -1)) ∧ ∀ r ∈ l, matchP u entry attr right r = false) ∨
      ∃ (i : Nat) (b : ARule), decP l u entry attr right = (b.1, (i : Int)) ∧ BestP (matchP u entry attr right) l b ∧ l[i]? = some b := by
  have h := decGo_ok (m := matchP u entry attr right) (l := l) (pre := []) (b := none) (fun r hr => by simp at hr)
  rw [List.nil_append, List.length_nil] at h
  unfold decP
  cases hg : decGo (matchP u entry attr right) 0 none l with
  | none => rw [hg] at h; exact .inl ⟨rfl, h⟩
  | some y =>
    obtain ⟨i, b⟩ := y
    rw [hg] at h
    exact .inr ⟨i, b, rfl, h.1, h.2⟩
/-- Decisions are of those rules that match. -/
theorem dec_same {l l' : List ARule} {u u' : Subj} {entry attr : Str} {right : Int} (h : ∀ r, (r ∈ l ∧ matchP u entry attr right r = true) ↔ (r ∈ l' ∧ matchP u' entry attr right r = true)) :
    (decP l u entry attr right).1 = (decP l' u' entry attr right).1 ∧ ((decP l u entry attr right).2 < 0 ↔ (decP l' u' entry attr right).2 < 0) := by
  rcases dec_spec l u entry attr right with ⟨e1, n1⟩ | ⟨i, b, e1, ⟨b1, b2, b3, b4⟩, g1⟩ <;> rcases dec_spec l' u' entry attr right with ⟨e2, n2⟩ | ⟨j, c, e2, ⟨c1, c2, c3, c4⟩, g2⟩
  · rw [e1, e2]; simp
  · have := (h c).2 ⟨c1, c2⟩
    rw [n1 c this.1] at this; simp at this
  · have := (h b).1 ⟨b1, b2⟩
    rw [n2 b this.1] at this; simp at this
  · rw [e1, e2]
    have hb := (h b).1 ⟨b1, b2⟩
    have hc := (h c).2 ⟨c1, c2⟩
    have d1 := c3 b hb.1 hb.2
    have d2 := b3 c hc.1 hc.2
    have hd : depthU b.2.2.1 = depthU c.2.2.1 := by omega
    refine ⟨?_, ?_⟩
    · show b.1 = c.1
      by_cases x : b.1 = true
      · have := b4 x c hc.1 hc.2 hd.symm
        rw [x, this]
      · by_cases y : c.1 = true
        · exact absurd (c4 y b hb.1 hb.2 hd) x
        · have x' : b.1 = false := by simpa using x
          have y' : c.1 = false := by simpa using y
          rw [x', y']
    · show ((i : Int) < 0 ↔ (j : Int) < 0)
      omega
theorem dec_nil (u : Subj) (entry attr : Str) (right : Int) : decP [] u entry attr right = (false, -1) := rfl
theorem dec_lt (l : List ARule) (u : Subj) (entry attr : Str) (right : Int) : (decP l u entry attr right).2 < l.length ∧ ∀ i : Nat, (decP l u entry attr right).2 = i → ∃ h : i < l.length, l[i].1 = (decP l u entry attr right).1 := by
  rcases dec_spec l u entry attr right with ⟨e1, n1⟩ | ⟨i, b, e1, _, g1⟩
  · rw [e1]
    refine ⟨?_, fun i hi => ?_⟩
    · show (-1 : Int) < l.length
      omega
    · have : (-1 : Int) = i := hi
      omega
  · rw [e1]
    obtain ⟨hi, hb⟩ := List.getElem?_eq_some_iff.1 g1
    refine ⟨?_, fun j hj => ?_⟩
    · show (i : Int) < l.length
      omega
    · have : (i : Int) = j := hj
      obtain rfl : i = j := by omega
      exact ⟨hi, by rw [hb]⟩
theorem dec_rev (l : List ARule) (u : Subj) (entry attr : Str) (right : Int) : (decP l.reverse u entry attr right).1 = (decP l u entry attr right).1 ∧ ((decP l u entry attr right).2 < 0 ↔ (decP l.reverse u entry attr right).2 < 0) := by
  have := dec_same (l := l) (l' := l.reverse) (u := u) (u' := u) (entry := entry) (attr := attr) (right := right) (fun r => by simp)
  exact ⟨this.1.symm, this.2⟩

theorem under_depth {s t : Str} (h : underU s t = true) : depthU t ≤ depthU s := by
  unfold underU at h
  unfold depthU
  split at h
  · rename_i l m e1 e2
    simp only [Bool.and_eq_true, decide_eq_true_eq] at h
    rw [e1, e2]
    exact h.1
  · cases h
theorem under_self {s : Str} (h : validU s = true) : underU s s = true := by
  unfold validU at h
  unfold underU
  cases e : normU s with
  | none => rw [e] at h; cases h
  | some l => simp
/-- A rule that denies the entry itself to all takes the right. -/
theorem dec_deny (l : List ARule) (u : Subj) (entry attr : Str) (right : Int) (hv : validU entry = true) : (decP (l ++ [(false, starW, entry, [], [right])]) u entry attr right).1 = false := by
  have hm : matchP u entry attr right (false, starW, entry, [], [right]) = true := by simp [matchP, coversP, appliesP, aboutP, under_self hv]
  rcases dec_spec (l ++ [(false, starW, entry, [], [right])]) u entry attr right with ⟨e1, n1⟩ | ⟨i, b, e1, ⟨b1, b2, b3, b4⟩, g1⟩
  · rw [e1]
  · rw [e1]
    show b.1 = false
    by_cases x : b.1 = true
    · have h1 := b3 _ (by simp) hm
      have h2 : depthU b.2.2.1 ≤ depthU entry := by
        simp only [matchP, appliesP, Bool.and_eq_true] at b2
        exact under_depth b2.2.2
      have := b4 x _ (by simp) hm (by show depthU entry = _; have : depthU entry ≤ depthU b.2.2.1 := h1; omega)
      cases this
    · simpa using x
/-- Rules for other subtrees do not matter. -/
theorem dec_near (l : List ARule) (u : Subj) (entry attr : Str) (right : Int) : (decP (l.filter fun r => underU entry r.2.2.1) u entry attr right).1 = (decP l u entry attr right).1 := by
  refine (dec_same (fun r => ?_)).1
  constructor
  · rintro ⟨h1, h2⟩
    exact ⟨(List.mem_filter.1 h1).1, h2⟩
  · rintro ⟨h1, h2⟩
    refine ⟨List.mem_filter.2 ⟨h1, ?_⟩, h2⟩
    simp only [matchP, appliesP, Bool.and_eq_true] at h2
    exact h2.2.2
def mentP (r : ARule) (u : Subj) (entry : Str) : Bool := decide (r.2.1 = uMark ++ u.1) || (decide (r.2.1 = selfW) && decide (u.1 = entry)) || u.2.any fun g => decide (r.2.1 = gMark ++ g)
/-- Nor does a subject that no rule mentions. -/
theorem dec_nobody (l : List ARule) (u : Subj) (entry attr : Str) (right : Int) (h : ∀ r ∈ l, mentP r u entry = false) : (decP l ([], []) entry attr right).1 = (decP l u entry attr right).1 := by
  refine (dec_same (fun r => ?_)).1
  refine and_congr_right fun hr => ?_
  have hab : aboutP r.2.1 ([], []) entry = aboutP r.2.1 u entry := by
    have hm := h r hr
    simp only [mentP, Bool.or_eq_false_iff, Bool.and_eq_false_iff, decide_eq_false_iff_not, List.any_eq_false, decide_eq_true_eq] at hm
    obtain ⟨⟨m1, m2⟩, m3⟩ := hm
    unfold aboutP
    by_cases c1 : r.2.1 = starW
    · simp [c1]
    rw [if_neg c1, if_neg c1]
    by_cases c2 : r.2.1 = selfW
    · rcases m2 with m2 | m2
      · exact absurd c2 m2
      · simp [c2, m2]
    rw [if_neg c2, if_neg c2]
    by_cases c3 : r.2.1.take 5 = uMark
    · have : ¬ List.drop 5 r.2.1 = u.1 := fun e => m1 (by rw [← e, ← c3, List.take_append_drop])
      simp [c3, this]
    rw [if_neg c3, if_neg c3]
    by_cases c4 : r.2.1.take 6 = gMark
    · have : ¬ List.drop 6 r.2.1 ∈ u.2 := fun e => m3 _ e (by rw [← c4, List.take_append_drop])
      simp [c4, this]
    · simp [c4]
  simp only [matchP, appliesP, hab]
end Go.Proofs.Tz

/- Texts of lines, read one by one: the plain law, for any form of lines (no program in sight). -/
set_option linter.unusedVariables false
set_option linter.unusedSimpArgs false
namespace Go.Proofs.Tz
open Go.Vw Go.RowKit Go.Proofs

theorem join_joinB (c : UInt8) : ∀ l : List Str, Go.Lib.join l [c] = joinB c l
  | [] => rfl
  | [x] => Go.Lib.join_one x [c]
  | x :: y :: l => by
    have ih := join_joinB c (y :: l)
    rw [Go.Lib.join_cons] at ih ⊢
    simp only [joinB]
    rw [← ih]
    simp [Go.Lib.joinTail]
theorem split_join {c : UInt8} : ∀ {l : List Str}, l ≠ [] → (∀ p ∈ l, c ∉ p) → splitB c (joinB c l) = l
  | [], h, _ => absurd rfl h
  | [p], _, h => splitB_none (h p (by simp))
  | p :: q :: l, _, h => by
    have ih := split_join (l := q :: l) (by simp) (fun x hx => h x (by simp at hx ⊢; right; exact hx))
    have e : joinB c (p :: q :: l) = p ++ c :: joinB c (q :: l) := rfl
    rw [e, splitB_mid (h p (by simp)), ih]
theorem joinB_no {c d : UInt8} (hcd : d ≠ c) : ∀ {l : List Str}, (∀ p ∈ l, d ∉ p) → d ∉ joinB c l
  | [], _ => by simp [joinB]
  | [p], h => h p (by simp)
  | p :: q :: l, h => by
    have ih := joinB_no hcd (l := q :: l) (fun x hx => h x (by simp at hx ⊢; right; exact hx))
    have e : joinB c (p :: q :: l) = p ++ c :: joinB c (q :: l) := rfl
    rw [e, List.mem_append, List.mem_cons]
    rintro (h1 | h1 | h1)
    · exact h p (by simp) h1
    · exact hcd h1
    · exact ih h1
theorem joinB_ne0 {c : UInt8} {l : List Str} (h : l ≠ []) (hn : ∀ p ∈ l, p ≠ []) : joinB c l ≠ [] := by
  match l, h with
  | [p], _ => exact hn p (by simp)
  | p :: q :: l, _ => simp [joinB]
theorem cut_split {s : Str} {c : UInt8} {j : Nat} (h : ixB s c = j) : s = s.take j ++ c :: s.drop (j + 1) := by
  have a := joinB_split c s
  rw [splitB_at h] at a
  have b := joinB_split c (s.drop (j + 1))
  cases hq : splitB c (s.drop (j + 1)) with
  | nil => exact absurd hq (splitB_ne _ _)
  | cons q qs =>
    rw [hq] at a b
    simp only [joinB] at a
    rw [b] at a
    exact a.symm

section
variable {α : Type} (line : Str → Option α) (chk : List α → Int)
def pGo (s : Str) (out : List α) : List α × Int × Int :=
  if s = [] then (out, 0, 0)
  else if h : 0 ≤ ixB s 10 then (match line (s.take (ixB s 10).toNat) with
    | none => ([], (out.length : Int) + 1, 4)
    | some r => if chk (out ++ [r]) = 0 then pGo (s.drop ((ixB s 10).toNat + 1)) (out ++ [r]) else ([], (out.length : Int) + 1, chk (out ++ [r])))
  else ([], (out.length : Int) + 1, 4)
  termination_by s.length
  decreasing_by
  have := ixB_lt h
  simp
  omega
theorem pGo_nil (out : List α) : pGo line chk [] out = (out, 0, 0) := by rw [pGo.eq_def]; rfl
theorem pGo_no {s : Str} (out : List α) (h1 : s ≠ []) (h2 : ixB s 10 < 0) : pGo line chk s out = ([], (out.length : Int) + 1, 4) := by
  rw [pGo.eq_def, if_neg h1, dif_neg (by omega)]
theorem pGo_at {s : Str} (out : List α) {k : Nat} (h2 : ixB s 10 = k) : pGo line chk s out = match line (s.take k) with
    | none => ([], (out.length : Int) + 1, 4)
    | some r => if chk (out ++ [r]) = 0 then pGo line chk (s.drop (k + 1)) (out ++ [r]) else ([], (out.length : Int) + 1, chk (out ++ [r])) := by
  have h1 : s ≠ [] := fun e => by subst e; simp [ixB, Go.Lib.indexByte] at h2
  rw [pGo.eq_def, if_neg h1, dif_pos (by omega), h2]
  rfl
end

/-- The lines of a list, each with its end. -/
def pLines {α : Type} (w : α → Str) (l : List α) : Str := l.flatMap fun r => w r ++ [10]
section
variable {α : Type} {line : Str → Option α} {chk : List α → Int} {w : α → Str}
theorem pLines_cons (r : α) (m : List α) : pLines w (r :: m) = w r ++ 10 :: pLines w m := by simp [pLines]
theorem pLines_take {l : List α} {k : Nat} (h : k < l.length) : pLines w (l.take (k + 1)) = pLines w (l.take k) ++ (w l[k] ++ [10]) := by
  rw [pLines, take_s h, List.flatMap_append]; simp only [pLines, List.flatMap_cons, List.flatMap_nil, List.append_nil]
theorem pLines_len {n : Nat} : ∀ {l : List α}, (∀ r ∈ l, (w r).length ≤ n) → (pLines w l).length ≤ l.length * (n + 1)
  | [], _ => by simp [pLines]
  | r :: l, h => by
    have ih := pLines_len (l := l) (fun x hx => h x (by simp [hx]))
    have := h r (by simp)
    rw [pLines_cons, List.length_append, List.length_cons, List.length_cons, Nat.succ_mul]
    omega
theorem pGo_lines (hl : ∀ a b, chk (a ++ b) = 0 → chk a = 0) (hw : ∀ a r, chk (a ++ [r]) = 0 → line (w r) = some r ∧ (10 : UInt8) ∉ w r) : ∀ (m out : List α), chk (out ++ m) = 0 → pGo line chk (pLines w m) out = (out ++ m, 0, 0)
  | [], out, _ => by simp [pLines, pGo_nil]
  | r :: m, out, h => by
    have h1 : chk (out ++ [r]) = 0 := hl _ m (by simpa using h)
    obtain ⟨w1, w2⟩ := hw _ _ h1
    rw [pLines_cons, pGo_at line chk out (ixB_mid w2)]
    have e1 : List.take (List.length (w r)) (w r ++ 10 :: pLines w m) = w r := by simp
    have e2 : List.drop (List.length (w r) + 1) (w r ++ 10 :: pLines w m) = pLines w m := by
      rw [← List.drop_drop]; simp
    rw [e1, e2, w1]
    simp only [h1, if_true]
    rw [pGo_lines hl hw m (out ++ [r]) (by simpa using h)]
    simp
theorem pGo_ok (hi : ∀ s r a, line s = some r → chk (a ++ [r]) = 0 → s = w r) : ∀ (n : Nat) (s : Str) (out x : List α) (k : Int), s.length ≤ n → pGo line chk s out = (x, k, 0) → ∃ m, x = out ++ m ∧ k = 0 ∧ s = pLines w m ∧ (m ≠ [] → chk x = 0) := by
  intro n
  induction n with
  | zero =>
    intro s out x k hn h
    have : s = [] := List.length_eq_zero_iff.1 (by omega)
    subst this
    rw [pGo_nil] at h
    simp only [Prod.mk.injEq] at h
    exact ⟨[], by simp [h.1], h.2.1.symm, by simp [pLines], by simp⟩
  | succ n ih =>
    intro s out x k hn h
    by_cases hs : s = []
    · subst hs
      rw [pGo_nil] at h
      simp only [Prod.mk.injEq] at h
      exact ⟨[], by simp [h.1], h.2.1.symm, by simp [pLines], by simp⟩
    by_cases hix : 0 ≤ ixB s 10
    · obtain ⟨j, hj⟩ := Int.eq_ofNat_of_zero_le hix
      have hlt := ixB_lt hix
      rw [hj, Int.toNat_natCast] at hlt
      have hj' : ixB s 10 = (j : Int) := hj
      rw [pGo_at line chk out hj'] at h
      cases hl : line (s.take j) with
      | none => rw [hl] at h; simp at h
      | some r =>
        rw [hl] at h
        simp only at h
        split at h
        · rename_i hc
          obtain ⟨m, h1, h2, h3, h4⟩ := ih (s.drop (j + 1)) (out ++ [r]) x k (by simp; omega) h
          refine ⟨r :: m, by rw [h1]; simp, h2, ?_, fun _ => ?_⟩
          · rw [pLines_cons, ← h3, ← hi _ _ _ hl hc]; exact cut_split hj'
          · by_cases hm : m = []
            · subst hm; rw [h1]; simpa using hc
            · exact h4 hm
        · rename_i hc
          simp only [Prod.mk.injEq] at h
          exact absurd h.2.2 hc
    · rw [pGo_no line chk out hs (by omega)] at h
      simp at h
theorem pGo_err : ∀ (n : Nat) (s : Str) (out : List α), s.length ≤ n → (pGo line chk s out).2.2 ≠ 0 → (pGo line chk s out).1 = [] := by
  intro n
  induction n with
  | zero =>
    intro s out hn h
    have : s = [] := List.length_eq_zero_iff.1 (by omega)
    subst this
    rw [pGo_nil] at h
    exact absurd rfl h
  | succ n ih =>
    intro s out hn h
    by_cases hs : s = []
    · subst hs
      rw [pGo_nil] at h
      exact absurd rfl h
    by_cases hix : 0 ≤ ixB s 10
    · obtain ⟨j, hj⟩ := Int.eq_ofNat_of_zero_le hix
      have hlt := ixB_lt hix
      rw [hj, Int.toNat_natCast] at hlt
      have hj' : ixB s 10 = (j : Int) := hj
      rw [pGo_at line chk out hj'] at h ⊢
      cases hl : line (s.take j) with
      | none => rfl
      | some r =>
        rw [hl] at h
        simp only at h ⊢
        split at h
        · rename_i hc
          rw [if_pos hc]
          exact ih _ _ (by simp; omega) h
        · rename_i hc
          rw [if_neg hc]
    · rw [pGo_no line chk out hs (by omega)]
end
end Go.Proofs.Tz

/- Access lists: their text, the plain law (no program in sight). -/
set_option linter.unusedVariables false
set_option linter.unusedSimpArgs false
namespace Go.Proofs.Tz
open Go.Vw Go.RowKit Go.Proofs

abbrev allowW : Str := [97, 108, 108, 111, 119]
abbrev denyW : Str := [100, 101, 110, 121]
abbrev onW : Str := [111, 110]
abbrev attrsW : Str := [97, 116, 116, 114, 115]
abbrev rightsW : Str := [114, 105, 103, 104, 116, 115]
abbrev w1R : Str := [114, 101, 97, 100]
abbrev w2R : Str := [115, 101, 97, 114, 99, 104]
abbrev w3R : Str := [119, 114, 105, 116, 101]
abbrev w4R : Str := [97, 100, 100]
abbrev w5R : Str := [100, 101, 108, 101, 116, 101]
/-- The word of a right. -/
def rword (x : Int) : Str := if x = 1 then w1R else if x = 2 then w2R else if x = 3 then w3R else if x = 4 then w4R else w5R
def wordV (w : Str) : Option Int := if w = w1R then some 1 else if w = w2R then some 2 else if w = w3R then some 3 else if w = w4R then some 4 else if w = w5R then some 5 else none
def rightsL : List Str → Option (List Int)
  | [] => some []
  | w :: ws => match wordV w with
    | some x => (rightsL ws).map (x :: ·)
    | none => none
def rightsP (s : Str) : Option (List Int) := if s = [45] then some [] else rightsL (splitB 44 s)
def orD (s : Str) : Str := if s = [] then [45] else s
def kindW (b : Bool) : Str := if b then allowW else denyW
def lineW (r : ARule) : List Str := [kindW r.1, escS r.2.1, onW, orD (escS r.2.2.1), attrsW, orD (joinB 44 r.2.2.2.1), rightsW, joinB 44 (r.2.2.2.2.map rword)]
def lineA (r : ARule) : Str := joinB 32 (lineW r)
def textA (l : List ARule) : Str × Int := if checkAR l = 0 then (if 4096 < (pLines lineA l).length then ([], 3) else (pLines lineA l, 0)) else ([], checkAR l)
/-- The rule of eight words. -/
def ruleOf : List Str → Option ARule
  | [a, b, c, d, e, f, g, h] => if (a = allowW ∨ a = denyW) ∧ c = onW ∧ e = attrsW ∧ g = rightsW ∧ b ≠ [] ∧ d ≠ [] ∧ f ≠ [] then
      (match unesc b, unesc d, rightsP h with
        | some x, some y, some z => some (decide (a = allowW), x, if d = [45] then [] else y, if f = [45] then [] else splitB 44 f, z)
        | _, _, _ => none) else none
  | _ => none
def readA (s : Str) : Option ARule := ruleOf (splitB 32 s)
def parseA (s : Str) : List ARule × Int × Int := if 4096 < s.length then ([], 0, 3) else pGo readA checkAR s []

theorem wordV_rword {x : Int} (h : ¬ (x < 1 ∨ 5 < x)) : wordV (rword x) = some x := by
  have : x = 1 ∨ x = 2 ∨ x = 3 ∨ x = 4 ∨ x = 5 := by omega
  rcases this with rfl | rfl | rfl | rfl | rfl <;> decide
theorem rword_wordV {w : Str} {x : Int} (h : wordV w = some x) : w = rword x ∧ 1 ≤ x ∧ x ≤ 5 := by
  unfold wordV at h
  split at h
  · rename_i e; simp only [Option.some.injEq] at h; subst h; exact ⟨e, by decide⟩
  · split at h
    · rename_i e; simp only [Option.some.injEq] at h; subst h; exact ⟨e, by decide⟩
    · split at h
      · rename_i e; simp only [Option.some.injEq] at h; subst h; exact ⟨e, by decide⟩
      · split at h
        · rename_i e; simp only [Option.some.injEq] at h; subst h; exact ⟨e, by decide⟩
        · split at h
          · rename_i e; simp only [Option.some.injEq] at h; subst h; exact ⟨e, by decide⟩
          · cases h
theorem rword_no (x : Int) : (44 : UInt8) ∉ rword x ∧ (32 : UInt8) ∉ rword x ∧ (10 : UInt8) ∉ rword x ∧ rword x ≠ [] := by
  unfold rword
  split
  · decide
  · split
    · decide
    · split
      · decide
      · split <;> decide
theorem rightsL_map : ∀ {l : List Int}, (∀ x ∈ l, ¬ (x < 1 ∨ 5 < x)) → rightsL (l.map rword) = some l
  | [], _ => rfl
  | x :: l, h => by
    simp only [List.map_cons, rightsL, wordV_rword (h x (by simp)), rightsL_map (l := l) (fun y hy => h y (by simp [hy])), Option.map_some]
theorem rightsL_inv : ∀ {ws : List Str} {l : List Int}, rightsL ws = some l → ws = l.map rword ∧ ∀ x ∈ l, 1 ≤ x ∧ x ≤ 5
  | [], l, h => by simp only [rightsL, Option.some.injEq] at h; subst h; simp
  | w :: ws, l, h => by
    simp only [rightsL] at h
    split at h
    · rename_i x hx
      obtain ⟨y, hy, rfl⟩ := Option.map_eq_some_iff.1 h
      obtain ⟨h1, h2⟩ := rightsL_inv hy
      obtain ⟨h3, h4⟩ := rword_wordV hx
      exact ⟨by simp [h1, h3], fun z hz => by
        rcases List.mem_cons.1 hz with rfl | hz
        · exact h4
        · exact h2 z hz⟩
    · cases h
theorem rightsL_len {ws : List Str} {l : List Int} (h : rightsL ws = some l) : l.length = ws.length := by rw [(rightsL_inv h).1]; simp

theorem rightsGo_zero : ∀ {l pre : List Int}, rightsGo pre l = 0 → ∀ x ∈ l, ¬ (x < 1 ∨ 5 < x)
  | [], _, _ => by simp
  | y :: l, pre, h => by
    simp only [rightsGo] at h
    split at h
    · cases h
    · rename_i h1
      split at h
      · cases h
      · intro x hx
        rcases List.mem_cons.1 hx with rfl | hx
        · exact h1
        · exact rightsGo_zero h x hx
structure OkR (r : ARule) : Prop where
  subj : subjE r.2.1 = 0
  targ : validU r.2.2.1 = true
  attrs : ∀ a ∈ r.2.2.2.1, nameB a = true
  count : r.2.2.2.1.length ≤ 32
  some : r.2.2.2.2 ≠ []
  rights : ∀ x ∈ r.2.2.2.2, ¬ (x < 1 ∨ 5 < x)
theorem OkR.of {r : ARule} (h : ruleE r = 0) : OkR r := by
  unfold ruleE at h
  split at h
  · rename_i h1; exact absurd h h1
  · rename_i h1
    split at h
    · cases h
    · rename_i h2
      split at h
      · cases h
      · rename_i h3
        simp only [not_or, Bool.not_eq_false] at h2
        unfold rightsE at h
        split at h
        · cases h
        · rename_i h4
          exact ⟨by simpa using h1, h2.1, List.all_eq_true.1 h2.2, by omega, h4, rightsGo_zero h⟩
theorem nameB_no {a : Str} (h : nameB a = true) : (44 : UInt8) ∉ a ∧ (32 : UInt8) ∉ a ∧ (10 : UInt8) ∉ a ∧ a ≠ [] ∧ a ≠ [45] := by
  simp only [nameB, Bool.and_eq_true, List.all_eq_true, decide_eq_true_eq] at h
  refine ⟨fun hm => ?_, fun hm => ?_, fun hm => ?_, fun e => ?_, fun e => ?_⟩
  · have := h.2 _ hm; revert this; decide
  · have := h.2 _ hm; revert this; decide
  · have := h.2 _ hm; revert this; decide
  · subst e; simp at h
  · subst e; have := h.1.2; revert this; decide
theorem escS_ne {s : Str} (h : s ≠ []) : escS s ≠ [] := by
  intro e
  have := unesc_esc s
  rw [e, unesc_nil] at this
  exact h (Option.some.inj this).symm
theorem orD_ne {s : Str} (h : s ≠ []) : orD s = s := if_neg h
theorem orD_nil : orD [] = [45] := rfl
theorem unesc45 : unesc [45] = some [45] := by have := unesc_esc [45]; exact this
theorem valid45 : validU [45] = false := by decide +kernel

theorem lineW_no {r : ARule} (h : OkR r) {d : UInt8} (hd : d = 32 ∨ d = 10) : ∀ w ∈ lineW r, d ∉ w := by
  have hj : d ∉ joinB 44 r.2.2.2.1 := joinB_no (by rcases hd with rfl | rfl <;> decide) fun p hp => by
    have := nameB_no (h.attrs p hp)
    rcases hd with rfl | rfl
    · exact this.2.1
    · exact this.2.2.1
  have hk : d ∉ joinB 44 (r.2.2.2.2.map rword) := joinB_no (by rcases hd with rfl | rfl <;> decide) fun p hp => by
    obtain ⟨x, _, rfl⟩ := List.mem_map.1 hp
    have := rword_no x
    rcases hd with rfl | rfl
    · exact this.2.1
    · exact this.2.2.1
  have he : ∀ s, d ∉ escS s := fun s => by
    rcases hd with rfl | rfl
    · exact escS_no32 s
    · exact escS_no10 s
  have ho : ∀ s, d ∉ s → d ∉ orD s := fun s hs => by
    unfold orD
    split
    · rcases hd with rfl | rfl <;> decide
    · exact hs
  intro w hw
  simp only [lineW, List.mem_cons, List.not_mem_nil, or_false] at hw
  rcases hw with rfl | rfl | rfl | rfl | rfl | rfl | rfl | rfl
  · rcases hd with rfl | rfl <;> (cases r.1 <;> decide)
  · exact he _
  · rcases hd with rfl | rfl <;> decide
  · exact ho _ (he _)
  · rcases hd with rfl | rfl <;> decide
  · exact ho _ hj
  · rcases hd with rfl | rfl <;> decide
  · exact hk
theorem subj_ne {s : Str} (h : subjE s = 0) : s ≠ [] := by
  rintro rfl
  revert h
  decide
theorem readA_line {r : ARule} (h : OkR r) : readA (lineA r) = some r := by
  obtain ⟨al, su, ta, at_, ri⟩ := r
  have hs := split_join (c := 32) (l := lineW (al, su, ta, at_, ri)) (by simp [lineW]) (lineW_no h (.inl rfl))
  rw [readA, lineA, hs]
  obtain ⟨h1, h2, h3, h4, h5, h6⟩ := h
  simp only at h1 h2 h3 h4 h5 h6
  have ek : kindW al = allowW ∨ kindW al = denyW := by cases al <;> simp [kindW]
  have ek2 : decide (kindW al = allowW) = al := by cases al <;> decide
  have eb : escS su ≠ [] := escS_ne (subj_ne h1)
  have ed : orD (escS ta) ≠ [] := by unfold orD; split <;> simp_all
  have ef : orD (joinB 44 at_) ≠ [] := by unfold orD; split <;> simp_all
  have et : ∃ y, unesc (orD (escS ta)) = some y ∧ (if orD (escS ta) = [45] then [] else y) = ta := by
    by_cases ht : ta = []
    · subst ht
      exact ⟨[45], by rw [show orD (escS []) = [45] from rfl]; exact unesc45, by rw [show orD (escS []) = [45] from rfl, if_pos rfl]⟩
    · rw [orD_ne (escS_ne ht)]
      refine ⟨ta, unesc_esc ta, if_neg fun e => ?_⟩
      have := unesc_esc ta
      rw [e, unesc45] at this
      have := Option.some.inj this
      rw [← this, valid45] at h2
      cases h2
  obtain ⟨y, ey, ey2⟩ := et
  have ea : (if orD (joinB 44 at_) = [45] then [] else splitB 44 (orD (joinB 44 at_))) = at_ := by
    by_cases ht : at_ = []
    · subst ht; rfl
    · have hne : joinB 44 at_ ≠ [] := joinB_ne0 ht fun p hp => (nameB_no (h3 p hp)).2.2.2.1
      have hsp := split_join (c := 44) ht (fun p hp => (nameB_no (h3 p hp)).1)
      rw [orD_ne hne, if_neg (fun e => ?_), hsp]
      rw [e] at hsp
      have h45 : splitB 44 [45] = [[45]] := by decide
      rw [h45] at hsp
      have := (nameB_no (h3 [45] (by rw [← hsp]; simp))).2.2.2.2
      exact this rfl
  have er : rightsP (joinB 44 (ri.map rword)) = some ri := by
    have hne : ri.map rword ≠ [] := by simpa using h5
    have hsp := split_join (c := 44) hne (fun p hp => by obtain ⟨x, _, rfl⟩ := List.mem_map.1 hp; exact (rword_no x).1)
    rw [rightsP, if_neg (fun e => ?_), hsp, rightsL_map h6]
    rw [e] at hsp
    have h45 : splitB 44 [45] = [[45]] := by decide
    rw [h45] at hsp
    have hm : ([45] : Str) ∈ ri.map rword := by rw [← hsp]; simp
    obtain ⟨x, _, hx⟩ := List.mem_map.1 hm
    revert hx
    unfold rword
    split
    · decide
    · split
      · decide
      · split
        · decide
        · split <;> decide
  simp only [lineW, ruleOf]
  rw [if_pos ⟨ek, trivial, trivial, trivial, eb, ed, ef⟩, unesc_esc, ey, er]
  simp only [ey2, ea, ek2]
theorem splitB_eq {s : Str} {c : UInt8} {l : List Str} (h : splitB c s = l) : s = joinB c l := by rw [← h, joinB_split]
theorem readA_inv {s : Str} {r : ARule} (h : readA s = some r) (hr : r.2.2.2.2 ≠ []) : s = lineA r := by
  unfold readA at h
  rw [lineA, splitB_eq (rfl : splitB 32 s = _)]
  congr 1
  generalize splitB 32 s = ws at *
  match ws, h with
  | [a, b, c, d, e, f, g, k], h =>
    simp only [ruleOf] at h
    split at h
    · rename_i hc
      obtain ⟨h1, rfl, rfl, rfl, h2, h3, h4⟩ := hc
      split at h
      · rename_i x y z e1 e2 e3
        simp only [Option.some.injEq] at h
        subst h
        simp only at hr
        have i1 := (unesc_dec _ _ _ (Nat.le_refl _) e1).2
        have i2 := (unesc_dec _ _ _ (Nat.le_refl _) e2).2
        have i0 : a = kindW (decide (a = allowW)) := by rcases h1 with rfl | rfl <;> decide
        have i3 : d = orD (escS (if d = [45] then [] else y)) := by
          by_cases hd : d = [45]
          · rw [if_pos hd, hd]; rfl
          · rw [if_neg hd, i2, orD_ne h3]
        have i4 : f = orD (joinB 44 (if f = [45] then [] else splitB 44 f)) := by
          by_cases hf : f = [45]
          · rw [if_pos hf, hf]; rfl
          · rw [if_neg hf, joinB_split, orD_ne h4]
        have i5 : k = joinB 44 (z.map rword) := by
          unfold rightsP at e3
          split at e3
          · simp only [Option.some.injEq] at e3; exact absurd e3.symm hr
          · rw [← (rightsL_inv e3).1, joinB_split]
        simp only [lineW]
        rw [i1, ← i0, ← i3, ← i4, ← i5]
      · cases h
    · cases h
theorem rulesE_app : ∀ (a b : List ARule), rulesE (a ++ b) = if rulesE a = 0 then rulesE b else rulesE a
  | [], b => by simp [rulesE]
  | r :: a, b => by
    simp only [List.cons_append, rulesE, rulesE_app a b]
    by_cases h : ruleE r = 0 <;> simp [h]
theorem checkAR_left (a b : List ARule) (h : checkAR (a ++ b) = 0) : checkAR a = 0 := by
  rw [checkAR_zero] at h ⊢
  simp only [List.length_append] at h
  exact ⟨by omega, fun r hr => h.2 r (by simp [hr])⟩
theorem backA1 {l : List ARule} {t : Str} (h : textA l = (t, 0)) : parseA t = (l, 0, 0) := by
  unfold textA at h
  split at h
  · rename_i hc
    split at h
    · simp at h
    · rename_i h4
      simp only [Prod.mk.injEq, and_true] at h
      subst h
      rw [parseA, if_neg h4, pGo_lines checkAR_left (fun a r hr => ?_) l [] (by simpa using hc)]
      · simp
      · have ho := OkR.of ((checkAR_zero.1 hr).2 r (by simp))
        exact ⟨readA_line ho, joinB_no (by decide) (lineW_no ho (.inr rfl))⟩
  · rename_i hc
    simp only [Prod.mk.injEq] at h
    exact absurd h.2 hc
theorem backA2 {s : Str} {x : List ARule} {k : Int} (h : parseA s = (x, k, 0)) : textA x = (s, 0) ∧ k = 0 := by
  unfold parseA at h
  split at h
  · simp at h
  · rename_i h4
    obtain ⟨m, h1, h2, h3, h5⟩ := pGo_ok (w := lineA) (fun s r a hl hc => readA_inv hl (OkR.of ((checkAR_zero.1 hc).2 r (by simp))).some) _ _ _ _ _ (Nat.le_refl _) h
    simp only [List.nil_append] at h1
    subst h1
    have hc : checkAR x = 0 := by
      by_cases hm : x = []
      · subst hm; rfl
      · exact h5 hm
    exact ⟨by rw [textA, if_pos hc, ← h3, if_neg h4], h2⟩
theorem backA3 {s : Str} (h : (parseA s).2.2 ≠ 0) : (parseA s).1 = [] := by
  unfold parseA at h ⊢
  split at h
  · rename_i h4; rw [if_pos h4]
  · rename_i h4; rw [if_neg h4]; exact pGo_err _ _ _ (Nat.le_refl _) h
end Go.Proofs.Tz

/- Names: bytes that are escaped, pieces. -/
set_option maxRecDepth 100000
set_option maxHeartbeats 4000000
set_option linter.unusedVariables false
set_option linter.unusedSimpArgs false
namespace Go.Proofs.Tz
open Go.Vw Go.RowKit Go.Proofs

theorem u8_eq (a b : UInt8) : ((a.toNat : Int) = (b.toNat : Int)) ↔ a = b := by
  constructor
  · intro h
    have : a.toNat = b.toNat := by omega
    exact UInt8.toNat_inj.1 this
  · rintro rfl; rfl
theorem specB_eq (c : UInt8) : specB c = (decide ((c.toNat : Int) = 44) || decide ((c.toNat : Int) = 61) || decide ((c.toNat : Int) = 43) || decide ((c.toNat : Int) = 92)) := by
  have h := fun k (hk : k < 256) => u8_int c k hk
  have h1 := h 44 (by omega)
  have h2 := h 61 (by omega)
  have h3 := h 43 (by omega)
  have h4 := h 92 (by omega)
  simp only [specB]
  congr 1
  · congr 1
    · congr 1
      · exact decide_eq_decide.2 h1.symm
      · exact decide_eq_decide.2 h2.symm
    · exact decide_eq_decide.2 h3.symm
  · exact decide_eq_decide.2 h4.symm

theorem nspecial_fn (c : UInt8) : Ctr Tryz.prog 182 [.d (u8 c)] (.d (.bool (specB c))) := by
  refine fn_of_vwp (fun _ => false) (by kernel_rfl) Tryz.func182 (by kernel_rfl) rfl rfl (Nat.le_of_ble_eq_true rfl) (by kernel_rfl) rfl rfl ?_
  rw [specB_eq]
  by_cases h1 : (c.toNat : Int) = 44 <;> by_cases h2 : (c.toNat : Int) = 61 <;> by_cases h3 : (c.toNat : Int) = 43 <;> simp -implicitDefEqProofs [u8, h1, h2, h3]
theorem nspecialR_fn (c : UInt8) : Ctr Tryz.prog 109 [.d (u8 c)] (.d (.bool (specB c))) := by
  refine fn_of_vwp (fun _ => false) (by kernel_rfl) Tryz.func109 (by kernel_rfl) rfl rfl (Nat.le_of_ble_eq_true rfl) (by kernel_rfl) rfl rfl ?_
  rw [specB_eq]
  by_cases h1 : (c.toNat : Int) = 44 <;> by_cases h2 : (c.toNat : Int) = 61 <;> by_cases h3 : (c.toNat : Int) = 43 <;> simp -implicitDefEqProofs [u8, h1, h2, h3]

theorem nextU_drop {c : UInt8} {s : Str} {k : Nat} (h : k < s.length) : nextU c (s.drop k) = if s[k] = c then 0 else if s[k] = 92 then (if k + 1 < s.length then 2 + nextU c (s.drop (k + 2)) else 1) else 1 + nextU c (s.drop (k + 1)) := by
  rw [drop_c h]
  by_cases h2 : k + 1 < s.length
  · rw [drop_c h2, nextU]
    simp only [if_pos h2]
  · have e : s.drop (k + 1) = [] := List.drop_eq_nil_of_le (by omega)
    rw [e, nextU]
    simp only [if_neg h2, nextU]
    by_cases h3 : s[k] = 92 <;> simp [h3]

/-- The place, or -1. -/
def indexU (c : UInt8) (s : Str) : Int := if nextU c s < s.length then (nextU c s : Int) else -1

def NxI (c : UInt8) (s : Str) (k : Nat) : Prop := (k ≤ s.length → nextU c s = k + nextU c (s.drop k)) ∧ (s.length < k → nextU c s = s.length)
theorem NxI.zero (c : UInt8) (s : Str) : NxI c s 0 := ⟨fun _ => by simp, fun h => by omega⟩
theorem NxI.hit {c : UInt8} {s : Str} {k : Nat} (h : NxI c s k) (hk : k < s.length) (e : s[k] = c) : nextU c s = k := by
  rw [h.1 (by omega), nextU_drop hk, if_pos e]; rfl
theorem NxI.one {c : UInt8} {s : Str} {k : Nat} (h : NxI c s k) (hk : k < s.length) (e : s[k] ≠ c) (e2 : s[k] ≠ 92) : NxI c s (k + 1) := by
  refine ⟨fun _ => ?_, fun h => by omega⟩
  rw [h.1 (by omega), nextU_drop hk, if_neg e, if_neg e2]; omega
theorem NxI.two {c : UInt8} {s : Str} {k : Nat} (h : NxI c s k) (hk : k < s.length) (e : s[k] ≠ c) (e2 : s[k] = 92) : NxI c s (k + 2) := by
  have h1 := h.1 (by omega)
  rw [nextU_drop hk, if_neg e, if_pos e2] at h1
  refine ⟨fun h2 => ?_, fun h2 => ?_⟩
  · rw [h1, if_pos (by omega)]; omega
  · rw [h1, if_neg (by omega)]; omega
theorem NxI.over {c : UInt8} {s : Str} {k : Nat} (h : NxI c s k) (hk : ¬ k < s.length) : nextU c s = s.length := by
  by_cases e : k = s.length
  · rw [h.1 (by omega), e]; simp [nextU]
  · exact h.2 (by omega)

theorem nindex_fn (s : Str) (c : UInt8) (hs : List.length s < 1000000) : Ctr Tryz.prog 193 [.d (.str s), .d (u8 c)] (.d (.int .i64 (indexU c s))) := by
  refine fn_of_vwp (fun _ => false) (by kernel_rfl) Tryz.func193 (by kernel_rfl) rfl rfl (Nat.le_of_ble_eq_true rfl) (by kernel_rfl) rfl rfl ?_
  simp -implicitDefEqProofs [u8]
  refine loopN (List.length s + 1) (fun k τ => τ 0 = .d (.str s) ∧ τ 1 = .d (.int .u8 c.toNat) ∧ τ 5 = .d (.int .i64 k) ∧ NxI c s k) ⟨by simp, by simp, by simp, .zero c s⟩ ?_
  rintro k τ hk ⟨h0, h1, h5, hI⟩
  by_cases hlt : k < List.length s
  · by_cases h2 : s[k] = c
    · have h2' : (s[k].toNat : Int) = c.toNat := (u8_eq _ _).2 h2
      have hn := hI.hit hlt h2
      simp -implicitDefEqProofs [h0, h1, h5, hlt, h2']
      rw [indexU, hn, if_pos hlt]
    · have h2' : ¬ (s[k].toNat : Int) = c.toNat := fun e => h2 ((u8_eq _ _).1 e)
      by_cases h3 : s[k] = 92
      · have h3' : (s[k].toNat : Int) = 92 := (u8_int s[k] 92 (by omega)).2 h3
        have h9 : ¬ (92 : Int) = c.toNat := by rw [← h3']; exact h2'
        simp -implicitDefEqProofs [h0, h1, h5, hlt, h2', h3', h9]
        repeat refine And.intro (by omega) ?_
        exact again' (k' := k + 2) (by omega) (by omega) ⟨by simp [h0], by simp [h1], by simp; omega, hI.two hlt h2 h3⟩
      · have h3' : ¬ (s[k].toNat : Int) = 92 := fun e => h3 ((u8_int s[k] 92 (by omega)).1 e)
        simp -implicitDefEqProofs [h0, h1, h5, hlt, h2', h3']
        repeat refine And.intro (by omega) ?_
        exact again (by omega) ⟨by simp [h0], by simp [h1], by simp, hI.one hlt h2 h3⟩
  · have hn := hI.over hlt
    have hlt' : ¬ (k : Int) < (List.length s : Int) := by omega
    simp -implicitDefEqProofs [h0, h1, h5, hlt']
    rw [indexU, hn, if_neg (by omega)]

theorem nnext_fn (s : Str) (c : UInt8) (hs : List.length s < 1000000) : Ctr Tryz.prog 134 [.d (.str s), .d (u8 c)] (.d (.int .i64 (nextU c s))) := by
  refine fn_of_vwp (fun _ => false) (by kernel_rfl) Tryz.func134 (by kernel_rfl) rfl rfl (Nat.le_of_ble_eq_true rfl) (by kernel_rfl) rfl rfl ?_
  simp -implicitDefEqProofs [u8]
  refine loopN (List.length s + 1) (fun k τ => τ 0 = .d (.str s) ∧ τ 1 = .d (.int .u8 c.toNat) ∧ τ 5 = .d (.int .i64 k) ∧ NxI c s k) ⟨by simp, by simp, by simp, .zero c s⟩ ?_
  rintro k τ hk ⟨h0, h1, h5, hI⟩
  by_cases hlt : k < List.length s
  · by_cases h2 : s[k] = c
    · have h2' : (s[k].toNat : Int) = c.toNat := (u8_eq _ _).2 h2
      have hn := hI.hit hlt h2
      simp -implicitDefEqProofs [h0, h1, h5, hlt, h2', hn]
    · have h2' : ¬ (s[k].toNat : Int) = c.toNat := fun e => h2 ((u8_eq _ _).1 e)
      by_cases h3 : s[k] = 92
      · have h3' : (s[k].toNat : Int) = 92 := (u8_int s[k] 92 (by omega)).2 h3
        have h9 : ¬ (92 : Int) = c.toNat := by rw [← h3']; exact h2'
        simp -implicitDefEqProofs [h0, h1, h5, hlt, h2', h3', h9]
        repeat refine And.intro (by omega) ?_
        exact again' (k' := k + 2) (by omega) (by omega) ⟨by simp [h0], by simp [h1], by simp; omega, hI.two hlt h2 h3⟩
      · have h3' : ¬ (s[k].toNat : Int) = 92 := fun e => h3 ((u8_int s[k] 92 (by omega)).1 e)
        simp -implicitDefEqProofs [h0, h1, h5, hlt, h2', h3']
        repeat refine And.intro (by omega) ?_
        exact again (by omega) ⟨by simp [h0], by simp [h1], by simp, hI.one hlt h2 h3⟩
  · have hn := hI.over hlt
    have hlt' : ¬ (k : Int) < (List.length s : Int) := by omega
    simp -implicitDefEqProofs [h0, h1, h5, hlt', hn]

def PcI (s : Str) (m : Nat) (τ : St) : Prop := ∃ (rest : Str) (out : List Str), m = List.length rest ∧ τ 0 = .d (.str rest) ∧ τ 3 = .own true 9 (out.map .str) ∧ List.length rest ≤ List.length s ∧ out.length + List.length rest ≤ List.length s ∧ piecesU s = out ++ piecesU rest
theorem npieces_fn (s : Str) (hs : List.length s < 1000000) : Ctr Tryz.prog 178 [.d (.str s)] (.own true 9 ((piecesU s).map .str)) := by
  refine fn_of_vwp (fun i => decide (i < 1000000)) (by kernel_rfl) Tryz.func178 (by kernel_rfl) rfl rfl (Nat.le_of_ble_eq_true rfl) (by kernel_rfl) rfl rfl ?_
  simp -implicitDefEqProofs
  refine loopK (PcI s) (List.length s) ⟨s, [], rfl, by simp, by simp, by omega, by simp, by simp⟩ ?_
  rintro m τ ⟨rest, out, rfl, h0, h3, hr, ho, hp⟩
  simp -implicitDefEqProofs [h0, h3]
  refine callK (nindex_fn rest 44 (by omega)) ?_
  by_cases hlt : nextU 44 rest < rest.length
  · have hx : indexU 44 rest = (nextU 44 rest : Int) := by rw [indexU, if_pos hlt]
    have hp2 := piecesU_at hlt
    generalize hj : nextU 44 rest = j at *
    have i0 : ¬ (j : Int) < 0 := by omega
    have i1 : (0 : Int) ≤ (j : Int) + 1 := by omega
    have j1 : ((j : Int) + 1).toNat = j + 1 := by omega
    simp -implicitDefEqProofs [h0, h3, hx, i0, i1, j1]
    repeat refine And.intro (by omega) ?_
    refine ⟨List.length (rest.drop (j + 1)), by simp; omega, rest.drop (j + 1), out ++ [rest.take j], rfl, ?_, by simp, by simp; omega, by simp; omega, by rw [hp, hp2]; simp⟩
    simp
    exact List.take_of_length_le (by simp)
  · have hx : indexU 44 rest = -1 := by rw [indexU, if_neg hlt]
    simp -implicitDefEqProofs [h0, h3, hx]
    repeat refine And.intro (by omega) ?_
    rw [hp, piecesU_end hlt]
    simp
end Go.Proofs.Tz
