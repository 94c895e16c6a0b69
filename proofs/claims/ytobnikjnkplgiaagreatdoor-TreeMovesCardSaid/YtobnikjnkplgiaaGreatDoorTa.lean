/-
  What the functions that the statements about layer 10 (tree) reach compute, part 1 of 5: contracts and plain laws, for lists and strings of bounded size (each theorem states its bound).
-/
import Derived.Test.YtobnikjnkplgiaaGreatDoorWc
import Derived.Test.YtobnikjnkplgiaaGreatDoorProg
import Derived.KernelRfl
import Derived.Sort.Walk0
import Derived.WalkKit
import Derived.Lib.Builder
import Derived.Lib.UnsafeStr
import Derived.Laws.Externs
import Derived.RegionTactic
import Derived.Lib.Bytealg

set_option linter.unusedSimpArgs false
set_option linter.unusedVariables false

/- Facts on the types of this translation, as rewrite rules of the abstract walk. -/
namespace Go.Proofs
open Go.Vw
@[simp] theorem Tryz.ez_1 : esz Tryz.prog 1 = some (1, 8) := by kernel_rfl
@[simp] theorem Tryz.sz_1 : szOf Tryz.prog 1 = some 1 := by kernel_rfl
@[simp] theorem Tryz.tk_1 : tyk Tryz.prog 1 = some (false, 1) := by kernel_rfl
@[simp] theorem Tryz.zd_1 : zeroD Tryz.prog 1 = some (.raw .nilFunc) := by kernel_rfl
@[simp] theorem Tryz.u_2 : Program.underlying Tryz.prog 2 = some (.int .i64) := by kernel_rfl
@[simp] theorem Tryz.se_2 : sliceE Tryz.prog 2 = none := by kernel_rfl
@[simp] theorem Tryz.ez_2 : esz Tryz.prog 2 = some (1, 8) := by kernel_rfl
@[simp] theorem Tryz.sz_2 : szOf Tryz.prog 2 = some 1 := by kernel_rfl
@[simp] theorem Tryz.tk_2 : tyk Tryz.prog 2 = some (false, 1) := by kernel_rfl
@[simp] theorem Tryz.zd_2 : zeroD Tryz.prog 2 = some (.int .i64 0) := by kernel_rfl
@[simp] theorem Tryz.u_3 : Program.underlying Tryz.prog 3 = some (.int .i64) := by kernel_rfl
@[simp] theorem Tryz.se_3 : sliceE Tryz.prog 3 = none := by kernel_rfl
@[simp] theorem Tryz.ez_3 : esz Tryz.prog 3 = some (1, 8) := by kernel_rfl
@[simp] theorem Tryz.sz_3 : szOf Tryz.prog 3 = some 1 := by kernel_rfl
@[simp] theorem Tryz.tk_3 : tyk Tryz.prog 3 = some (false, 1) := by kernel_rfl
@[simp] theorem Tryz.zd_3 : zeroD Tryz.prog 3 = some (.int .i64 0) := by kernel_rfl
@[simp] theorem Tryz.u_4 : Program.underlying Tryz.prog 4 = some .bool := by kernel_rfl
@[simp] theorem Tryz.se_4 : sliceE Tryz.prog 4 = none := by kernel_rfl
@[simp] theorem Tryz.ez_4 : esz Tryz.prog 4 = some (1, 1) := by kernel_rfl
@[simp] theorem Tryz.sz_4 : szOf Tryz.prog 4 = some 1 := by kernel_rfl
@[simp] theorem Tryz.tk_4 : tyk Tryz.prog 4 = some (false, 1) := by kernel_rfl
@[simp] theorem Tryz.zd_4 : zeroD Tryz.prog 4 = some (.bool false) := by kernel_rfl
@[simp] theorem Tryz.u_5 : Program.underlying Tryz.prog 5 = some (.int .u8) := by kernel_rfl
@[simp] theorem Tryz.se_5 : sliceE Tryz.prog 5 = none := by kernel_rfl
@[simp] theorem Tryz.ez_5 : esz Tryz.prog 5 = some (1, 1) := by kernel_rfl
@[simp] theorem Tryz.sz_5 : szOf Tryz.prog 5 = some 1 := by kernel_rfl
@[simp] theorem Tryz.tk_5 : tyk Tryz.prog 5 = some (false, 1) := by kernel_rfl
@[simp] theorem Tryz.zd_5 : zeroD Tryz.prog 5 = some (.int .u8 0) := by kernel_rfl
@[simp] theorem Tryz.u_9 : Program.underlying Tryz.prog 9 = some .string := by kernel_rfl
@[simp] theorem Tryz.se_9 : sliceE Tryz.prog 9 = none := by kernel_rfl
@[simp] theorem Tryz.ez_9 : esz Tryz.prog 9 = some (1, 16) := by kernel_rfl
@[simp] theorem Tryz.sz_9 : szOf Tryz.prog 9 = some 1 := by kernel_rfl
@[simp] theorem Tryz.tk_9 : tyk Tryz.prog 9 = some (false, 1) := by kernel_rfl
@[simp] theorem Tryz.zd_9 : zeroD Tryz.prog 9 = some (.str []) := by kernel_rfl
@[simp] theorem Tryz.u_12 : Program.underlying Tryz.prog 12 = some (.int .u64) := by kernel_rfl
@[simp] theorem Tryz.se_12 : sliceE Tryz.prog 12 = none := by kernel_rfl
@[simp] theorem Tryz.ez_12 : esz Tryz.prog 12 = some (1, 8) := by kernel_rfl
@[simp] theorem Tryz.sz_12 : szOf Tryz.prog 12 = some 1 := by kernel_rfl
@[simp] theorem Tryz.tk_12 : tyk Tryz.prog 12 = some (false, 1) := by kernel_rfl
@[simp] theorem Tryz.zd_12 : zeroD Tryz.prog 12 = some (.int .u64 0) := by kernel_rfl
@[simp] theorem Tryz.ez_13 : esz Tryz.prog 13 = some (2, 24) := by kernel_rfl
@[simp] theorem Tryz.sz_13 : szOf Tryz.prog 13 = some 2 := by kernel_rfl
@[simp] theorem Tryz.tk_13 : tyk Tryz.prog 13 = some (true, 2) := by kernel_rfl
@[simp] theorem Tryz.zd_13 : zeroD Tryz.prog 13 = some (.agg [.str [], .int .u64 0]) := by kernel_rfl
@[simp] theorem Tryz.sd_13 : structD Tryz.prog 13 = some [.str [], .int .u64 0] := by kernel_rfl
@[simp] theorem Tryz.fo_13_0 : fieldOff Tryz.prog 13 0 = some 0 := by kernel_rfl
@[simp] theorem Tryz.fo_13_1 : fieldOff Tryz.prog 13 1 = some 1 := by kernel_rfl
@[simp] theorem Tryz.u_21 : Program.underlying Tryz.prog 21 = some (.int .i32) := by kernel_rfl
@[simp] theorem Tryz.se_21 : sliceE Tryz.prog 21 = none := by kernel_rfl
@[simp] theorem Tryz.ez_21 : esz Tryz.prog 21 = some (1, 4) := by kernel_rfl
@[simp] theorem Tryz.sz_21 : szOf Tryz.prog 21 = some 1 := by kernel_rfl
@[simp] theorem Tryz.tk_21 : tyk Tryz.prog 21 = some (false, 1) := by kernel_rfl
@[simp] theorem Tryz.zd_21 : zeroD Tryz.prog 21 = some (.int .i32 0) := by kernel_rfl
@[simp] theorem Tryz.u_22 : Program.underlying Tryz.prog 22 = some (.slice 9) := by kernel_rfl
@[simp] theorem Tryz.se_22 : sliceE Tryz.prog 22 = some 9 := by kernel_rfl
@[simp] theorem Tryz.ez_22 : esz Tryz.prog 22 = some (1, 24) := by kernel_rfl
@[simp] theorem Tryz.sz_22 : szOf Tryz.prog 22 = some 1 := by kernel_rfl
@[simp] theorem Tryz.tk_22 : tyk Tryz.prog 22 = some (false, 1) := by kernel_rfl
@[simp] theorem Tryz.zd_22 : zeroD Tryz.prog 22 = some (.sl []) := by kernel_rfl
@[simp] theorem Tryz.u_23 : Program.underlying Tryz.prog 23 = some (.slice 36) := by kernel_rfl
@[simp] theorem Tryz.se_23 : sliceE Tryz.prog 23 = some 36 := by kernel_rfl
@[simp] theorem Tryz.ez_23 : esz Tryz.prog 23 = some (1, 24) := by kernel_rfl
@[simp] theorem Tryz.sz_23 : szOf Tryz.prog 23 = some 1 := by kernel_rfl
@[simp] theorem Tryz.tk_23 : tyk Tryz.prog 23 = some (false, 1) := by kernel_rfl
@[simp] theorem Tryz.zd_23 : zeroD Tryz.prog 23 = some (.sl []) := by kernel_rfl
@[simp] theorem Tryz.ez_24 : esz Tryz.prog 24 = some (1, 8) := by kernel_rfl
@[simp] theorem Tryz.sz_24 : szOf Tryz.prog 24 = some 1 := by kernel_rfl
@[simp] theorem Tryz.tk_24 : tyk Tryz.prog 24 = some (false, 1) := by kernel_rfl
@[simp] theorem Tryz.zd_24 : zeroD Tryz.prog 24 = some (.raw .nilFunc) := by kernel_rfl
@[simp] theorem Tryz.ez_25 : esz Tryz.prog 25 = some (1, 8) := by kernel_rfl
@[simp] theorem Tryz.sz_25 : szOf Tryz.prog 25 = some 1 := by kernel_rfl
@[simp] theorem Tryz.tk_25 : tyk Tryz.prog 25 = some (false, 1) := by kernel_rfl
@[simp] theorem Tryz.zd_25 : zeroD Tryz.prog 25 = some (.raw .nilFunc) := by kernel_rfl
@[simp] theorem Tryz.u_26 : Program.underlying Tryz.prog 26 = some (.pointer 61) := by kernel_rfl
@[simp] theorem Tryz.ez_26 : esz Tryz.prog 26 = some (1, 8) := by kernel_rfl
@[simp] theorem Tryz.sz_26 : szOf Tryz.prog 26 = some 1 := by kernel_rfl
@[simp] theorem Tryz.tk_26 : tyk Tryz.prog 26 = some (false, 1) := by kernel_rfl
@[simp] theorem Tryz.zd_26 : zeroD Tryz.prog 26 = some (.nilp) := by kernel_rfl
@[simp] theorem Tryz.u_27 : Program.underlying Tryz.prog 27 = some (.int .i64) := by kernel_rfl
@[simp] theorem Tryz.se_27 : sliceE Tryz.prog 27 = none := by kernel_rfl
@[simp] theorem Tryz.ez_27 : esz Tryz.prog 27 = some (1, 8) := by kernel_rfl
@[simp] theorem Tryz.sz_27 : szOf Tryz.prog 27 = some 1 := by kernel_rfl
@[simp] theorem Tryz.tk_27 : tyk Tryz.prog 27 = some (false, 1) := by kernel_rfl
@[simp] theorem Tryz.zd_27 : zeroD Tryz.prog 27 = some (.int .i64 0) := by kernel_rfl
@[simp] theorem Tryz.ez_29 : esz Tryz.prog 29 = some (1, 8) := by kernel_rfl
@[simp] theorem Tryz.sz_29 : szOf Tryz.prog 29 = some 1 := by kernel_rfl
@[simp] theorem Tryz.tk_29 : tyk Tryz.prog 29 = some (false, 1) := by kernel_rfl
@[simp] theorem Tryz.zd_29 : zeroD Tryz.prog 29 = some (.raw .nilFunc) := by kernel_rfl
@[simp] theorem Tryz.u_30 : Program.underlying Tryz.prog 30 = some (.pointer 68) := by kernel_rfl
@[simp] theorem Tryz.ez_30 : esz Tryz.prog 30 = some (1, 8) := by kernel_rfl
@[simp] theorem Tryz.sz_30 : szOf Tryz.prog 30 = some 1 := by kernel_rfl
@[simp] theorem Tryz.tk_30 : tyk Tryz.prog 30 = some (false, 1) := by kernel_rfl
@[simp] theorem Tryz.zd_30 : zeroD Tryz.prog 30 = some (.nilp) := by kernel_rfl
@[simp] theorem Tryz.ez_32 : esz Tryz.prog 32 = some (1, 8) := by kernel_rfl
@[simp] theorem Tryz.sz_32 : szOf Tryz.prog 32 = some 1 := by kernel_rfl
@[simp] theorem Tryz.tk_32 : tyk Tryz.prog 32 = some (false, 1) := by kernel_rfl
@[simp] theorem Tryz.zd_32 : zeroD Tryz.prog 32 = some (.raw .nilFunc) := by kernel_rfl
@[simp] theorem Tryz.ez_33 : esz Tryz.prog 33 = some (1, 8) := by kernel_rfl
@[simp] theorem Tryz.sz_33 : szOf Tryz.prog 33 = some 1 := by kernel_rfl
@[simp] theorem Tryz.tk_33 : tyk Tryz.prog 33 = some (false, 1) := by kernel_rfl
@[simp] theorem Tryz.zd_33 : zeroD Tryz.prog 33 = some (.raw .nilFunc) := by kernel_rfl
@[simp] theorem Tryz.u_34 : Program.underlying Tryz.prog 34 = some (.slice 64) := by kernel_rfl
@[simp] theorem Tryz.se_34 : sliceE Tryz.prog 34 = some 64 := by kernel_rfl
@[simp] theorem Tryz.ez_34 : esz Tryz.prog 34 = some (1, 24) := by kernel_rfl
@[simp] theorem Tryz.sz_34 : szOf Tryz.prog 34 = some 1 := by kernel_rfl
@[simp] theorem Tryz.tk_34 : tyk Tryz.prog 34 = some (false, 1) := by kernel_rfl
@[simp] theorem Tryz.zd_34 : zeroD Tryz.prog 34 = some (.sl []) := by kernel_rfl
@[simp] theorem Tryz.ez_35 : esz Tryz.prog 35 = some (4, 64) := by kernel_rfl
@[simp] theorem Tryz.sz_35 : szOf Tryz.prog 35 = some 4 := by kernel_rfl
@[simp] theorem Tryz.tk_35 : tyk Tryz.prog 35 = some (true, 4) := by kernel_rfl
@[simp] theorem Tryz.zd_35 : zeroD Tryz.prog 35 = some (.agg [.int .i64 0, .str [], .str [], .sl []]) := by kernel_rfl
@[simp] theorem Tryz.sd_35 : structD Tryz.prog 35 = some [.int .i64 0, .str [], .str [], .sl []] := by kernel_rfl
@[simp] theorem Tryz.fo_35_0 : fieldOff Tryz.prog 35 0 = some 0 := by kernel_rfl
@[simp] theorem Tryz.fo_35_1 : fieldOff Tryz.prog 35 1 = some 1 := by kernel_rfl
@[simp] theorem Tryz.fo_35_2 : fieldOff Tryz.prog 35 2 = some 2 := by kernel_rfl
@[simp] theorem Tryz.fo_35_3 : fieldOff Tryz.prog 35 3 = some 3 := by kernel_rfl
@[simp] theorem Tryz.ez_36 : esz Tryz.prog 36 = some (4, 64) := by kernel_rfl
@[simp] theorem Tryz.sz_36 : szOf Tryz.prog 36 = some 4 := by kernel_rfl
@[simp] theorem Tryz.tk_36 : tyk Tryz.prog 36 = some (true, 4) := by kernel_rfl
@[simp] theorem Tryz.zd_36 : zeroD Tryz.prog 36 = some (.agg [.int .i64 0, .str [], .str [], .sl []]) := by kernel_rfl
@[simp] theorem Tryz.sd_36 : structD Tryz.prog 36 = some [.int .i64 0, .str [], .str [], .sl []] := by kernel_rfl
@[simp] theorem Tryz.fo_36_0 : fieldOff Tryz.prog 36 0 = some 0 := by kernel_rfl
@[simp] theorem Tryz.fo_36_1 : fieldOff Tryz.prog 36 1 = some 1 := by kernel_rfl
@[simp] theorem Tryz.fo_36_2 : fieldOff Tryz.prog 36 2 = some 2 := by kernel_rfl
@[simp] theorem Tryz.fo_36_3 : fieldOff Tryz.prog 36 3 = some 3 := by kernel_rfl
@[simp] theorem Tryz.ez_37 : esz Tryz.prog 37 = some (1, 8) := by kernel_rfl
@[simp] theorem Tryz.sz_37 : szOf Tryz.prog 37 = some 1 := by kernel_rfl
@[simp] theorem Tryz.tk_37 : tyk Tryz.prog 37 = some (false, 1) := by kernel_rfl
@[simp] theorem Tryz.zd_37 : zeroD Tryz.prog 37 = some (.raw .nilFunc) := by kernel_rfl
@[simp] theorem Tryz.ez_38 : esz Tryz.prog 38 = some (1, 8) := by kernel_rfl
@[simp] theorem Tryz.sz_38 : szOf Tryz.prog 38 = some 1 := by kernel_rfl
@[simp] theorem Tryz.tk_38 : tyk Tryz.prog 38 = some (false, 1) := by kernel_rfl
@[simp] theorem Tryz.zd_38 : zeroD Tryz.prog 38 = some (.raw .nilFunc) := by kernel_rfl
@[simp] theorem Tryz.u_39 : Program.underlying Tryz.prog 39 = some (.slice 44) := by kernel_rfl
@[simp] theorem Tryz.se_39 : sliceE Tryz.prog 39 = some 44 := by kernel_rfl
@[simp] theorem Tryz.ez_39 : esz Tryz.prog 39 = some (1, 24) := by kernel_rfl
@[simp] theorem Tryz.sz_39 : szOf Tryz.prog 39 = some 1 := by kernel_rfl
@[simp] theorem Tryz.tk_39 : tyk Tryz.prog 39 = some (false, 1) := by kernel_rfl
@[simp] theorem Tryz.zd_39 : zeroD Tryz.prog 39 = some (.sl []) := by kernel_rfl
@[simp] theorem Tryz.ez_40 : esz Tryz.prog 40 = some (1, 8) := by kernel_rfl
@[simp] theorem Tryz.sz_40 : szOf Tryz.prog 40 = some 1 := by kernel_rfl
@[simp] theorem Tryz.tk_40 : tyk Tryz.prog 40 = some (false, 1) := by kernel_rfl
@[simp] theorem Tryz.zd_40 : zeroD Tryz.prog 40 = some (.raw .nilFunc) := by kernel_rfl
@[simp] theorem Tryz.ez_42 : esz Tryz.prog 42 = some (1, 8) := by kernel_rfl
@[simp] theorem Tryz.sz_42 : szOf Tryz.prog 42 = some 1 := by kernel_rfl
@[simp] theorem Tryz.tk_42 : tyk Tryz.prog 42 = some (false, 1) := by kernel_rfl
@[simp] theorem Tryz.zd_42 : zeroD Tryz.prog 42 = some (.raw .nilFunc) := by kernel_rfl
@[simp] theorem Tryz.ez_43 : esz Tryz.prog 43 = some (2, 40) := by kernel_rfl
@[simp] theorem Tryz.sz_43 : szOf Tryz.prog 43 = some 2 := by kernel_rfl
@[simp] theorem Tryz.tk_43 : tyk Tryz.prog 43 = some (true, 2) := by kernel_rfl
@[simp] theorem Tryz.zd_43 : zeroD Tryz.prog 43 = some (.agg [.str [], .sl []]) := by kernel_rfl
@[simp] theorem Tryz.sd_43 : structD Tryz.prog 43 = some [.str [], .sl []] := by kernel_rfl
@[simp] theorem Tryz.fo_43_0 : fieldOff Tryz.prog 43 0 = some 0 := by kernel_rfl
@[simp] theorem Tryz.fo_43_1 : fieldOff Tryz.prog 43 1 = some 1 := by kernel_rfl
@[simp] theorem Tryz.ez_44 : esz Tryz.prog 44 = some (2, 40) := by kernel_rfl
@[simp] theorem Tryz.sz_44 : szOf Tryz.prog 44 = some 2 := by kernel_rfl
@[simp] theorem Tryz.tk_44 : tyk Tryz.prog 44 = some (true, 2) := by kernel_rfl
@[simp] theorem Tryz.zd_44 : zeroD Tryz.prog 44 = some (.agg [.str [], .sl []]) := by kernel_rfl
@[simp] theorem Tryz.sd_44 : structD Tryz.prog 44 = some [.str [], .sl []] := by kernel_rfl
@[simp] theorem Tryz.fo_44_0 : fieldOff Tryz.prog 44 0 = some 0 := by kernel_rfl
@[simp] theorem Tryz.fo_44_1 : fieldOff Tryz.prog 44 1 = some 1 := by kernel_rfl
@[simp] theorem Tryz.ez_46 : esz Tryz.prog 46 = some (1, 8) := by kernel_rfl
@[simp] theorem Tryz.sz_46 : szOf Tryz.prog 46 = some 1 := by kernel_rfl
@[simp] theorem Tryz.tk_46 : tyk Tryz.prog 46 = some (false, 1) := by kernel_rfl
@[simp] theorem Tryz.zd_46 : zeroD Tryz.prog 46 = some (.raw .nilFunc) := by kernel_rfl
@[simp] theorem Tryz.ez_47 : esz Tryz.prog 47 = some (1, 8) := by kernel_rfl
@[simp] theorem Tryz.sz_47 : szOf Tryz.prog 47 = some 1 := by kernel_rfl
@[simp] theorem Tryz.tk_47 : tyk Tryz.prog 47 = some (false, 1) := by kernel_rfl
@[simp] theorem Tryz.zd_47 : zeroD Tryz.prog 47 = some (.raw .nilFunc) := by kernel_rfl
@[simp] theorem Tryz.ez_48 : esz Tryz.prog 48 = some (1, 8) := by kernel_rfl
@[simp] theorem Tryz.sz_48 : szOf Tryz.prog 48 = some 1 := by kernel_rfl
@[simp] theorem Tryz.tk_48 : tyk Tryz.prog 48 = some (false, 1) := by kernel_rfl
@[simp] theorem Tryz.zd_48 : zeroD Tryz.prog 48 = some (.raw .nilFunc) := by kernel_rfl
@[simp] theorem Tryz.ez_49 : esz Tryz.prog 49 = some (1, 8) := by kernel_rfl
@[simp] theorem Tryz.sz_49 : szOf Tryz.prog 49 = some 1 := by kernel_rfl
@[simp] theorem Tryz.tk_49 : tyk Tryz.prog 49 = some (false, 1) := by kernel_rfl
@[simp] theorem Tryz.zd_49 : zeroD Tryz.prog 49 = some (.raw .nilFunc) := by kernel_rfl
@[simp] theorem Tryz.ez_50 : esz Tryz.prog 50 = some (1, 8) := by kernel_rfl
@[simp] theorem Tryz.sz_50 : szOf Tryz.prog 50 = some 1 := by kernel_rfl
@[simp] theorem Tryz.tk_50 : tyk Tryz.prog 50 = some (false, 1) := by kernel_rfl
@[simp] theorem Tryz.zd_50 : zeroD Tryz.prog 50 = some (.raw .nilFunc) := by kernel_rfl
@[simp] theorem Tryz.ez_51 : esz Tryz.prog 51 = some (1, 8) := by kernel_rfl
@[simp] theorem Tryz.sz_51 : szOf Tryz.prog 51 = some 1 := by kernel_rfl
@[simp] theorem Tryz.tk_51 : tyk Tryz.prog 51 = some (false, 1) := by kernel_rfl
@[simp] theorem Tryz.zd_51 : zeroD Tryz.prog 51 = some (.raw .nilFunc) := by kernel_rfl
@[simp] theorem Tryz.ez_52 : esz Tryz.prog 52 = some (1, 8) := by kernel_rfl
@[simp] theorem Tryz.sz_52 : szOf Tryz.prog 52 = some 1 := by kernel_rfl
@[simp] theorem Tryz.tk_52 : tyk Tryz.prog 52 = some (false, 1) := by kernel_rfl
@[simp] theorem Tryz.zd_52 : zeroD Tryz.prog 52 = some (.raw .nilFunc) := by kernel_rfl
@[simp] theorem Tryz.ez_53 : esz Tryz.prog 53 = some (1, 8) := by kernel_rfl
@[simp] theorem Tryz.sz_53 : szOf Tryz.prog 53 = some 1 := by kernel_rfl
@[simp] theorem Tryz.tk_53 : tyk Tryz.prog 53 = some (false, 1) := by kernel_rfl
@[simp] theorem Tryz.zd_53 : zeroD Tryz.prog 53 = some (.raw .nilFunc) := by kernel_rfl
@[simp] theorem Tryz.ez_54 : esz Tryz.prog 54 = some (1, 8) := by kernel_rfl
@[simp] theorem Tryz.sz_54 : szOf Tryz.prog 54 = some 1 := by kernel_rfl
@[simp] theorem Tryz.tk_54 : tyk Tryz.prog 54 = some (false, 1) := by kernel_rfl
@[simp] theorem Tryz.zd_54 : zeroD Tryz.prog 54 = some (.raw .nilFunc) := by kernel_rfl
@[simp] theorem Tryz.ez_55 : esz Tryz.prog 55 = some (1, 8) := by kernel_rfl
@[simp] theorem Tryz.sz_55 : szOf Tryz.prog 55 = some 1 := by kernel_rfl
@[simp] theorem Tryz.tk_55 : tyk Tryz.prog 55 = some (false, 1) := by kernel_rfl
@[simp] theorem Tryz.zd_55 : zeroD Tryz.prog 55 = some (.raw .nilFunc) := by kernel_rfl
@[simp] theorem Tryz.ez_56 : esz Tryz.prog 56 = some (1, 8) := by kernel_rfl
@[simp] theorem Tryz.sz_56 : szOf Tryz.prog 56 = some 1 := by kernel_rfl
@[simp] theorem Tryz.tk_56 : tyk Tryz.prog 56 = some (false, 1) := by kernel_rfl
@[simp] theorem Tryz.zd_56 : zeroD Tryz.prog 56 = some (.raw .nilFunc) := by kernel_rfl
@[simp] theorem Tryz.ez_57 : esz Tryz.prog 57 = some (1, 8) := by kernel_rfl
@[simp] theorem Tryz.sz_57 : szOf Tryz.prog 57 = some 1 := by kernel_rfl
@[simp] theorem Tryz.tk_57 : tyk Tryz.prog 57 = some (false, 1) := by kernel_rfl
@[simp] theorem Tryz.zd_57 : zeroD Tryz.prog 57 = some (.raw .nilFunc) := by kernel_rfl
@[simp] theorem Tryz.ez_58 : esz Tryz.prog 58 = some (1, 8) := by kernel_rfl
@[simp] theorem Tryz.sz_58 : szOf Tryz.prog 58 = some 1 := by kernel_rfl
@[simp] theorem Tryz.tk_58 : tyk Tryz.prog 58 = some (false, 1) := by kernel_rfl
@[simp] theorem Tryz.zd_58 : zeroD Tryz.prog 58 = some (.raw .nilFunc) := by kernel_rfl
@[simp] theorem Tryz.ez_59 : esz Tryz.prog 59 = some (1, 8) := by kernel_rfl
@[simp] theorem Tryz.sz_59 : szOf Tryz.prog 59 = some 1 := by kernel_rfl
@[simp] theorem Tryz.tk_59 : tyk Tryz.prog 59 = some (false, 1) := by kernel_rfl
@[simp] theorem Tryz.zd_59 : zeroD Tryz.prog 59 = some (.raw (.map none)) := by kernel_rfl
@[simp] theorem Tryz.ez_60 : esz Tryz.prog 60 = some (1, 8) := by kernel_rfl
@[simp] theorem Tryz.sz_60 : szOf Tryz.prog 60 = some 1 := by kernel_rfl
@[simp] theorem Tryz.tk_60 : tyk Tryz.prog 60 = some (true, 1) := by kernel_rfl
@[simp] theorem Tryz.zd_60 : zeroD Tryz.prog 60 = some (.agg [.raw (.map none)]) := by kernel_rfl
@[simp] theorem Tryz.sd_60 : structD Tryz.prog 60 = some [.raw (.map none)] := by kernel_rfl
@[simp] theorem Tryz.fo_60_0 : fieldOff Tryz.prog 60 0 = some 0 := by kernel_rfl
@[simp] theorem Tryz.ez_61 : esz Tryz.prog 61 = some (1, 8) := by kernel_rfl
@[simp] theorem Tryz.sz_61 : szOf Tryz.prog 61 = some 1 := by kernel_rfl
@[simp] theorem Tryz.tk_61 : tyk Tryz.prog 61 = some (true, 1) := by kernel_rfl
@[simp] theorem Tryz.zd_61 : zeroD Tryz.prog 61 = some (.agg [.raw (.map none)]) := by kernel_rfl
@[simp] theorem Tryz.sd_61 : structD Tryz.prog 61 = some [.raw (.map none)] := by kernel_rfl
@[simp] theorem Tryz.fo_61_0 : fieldOff Tryz.prog 61 0 = some 0 := by kernel_rfl
@[simp] theorem Tryz.ez_62 : esz Tryz.prog 62 = some (1, 8) := by kernel_rfl
@[simp] theorem Tryz.sz_62 : szOf Tryz.prog 62 = some 1 := by kernel_rfl
@[simp] theorem Tryz.tk_62 : tyk Tryz.prog 62 = some (false, 1) := by kernel_rfl
@[simp] theorem Tryz.zd_62 : zeroD Tryz.prog 62 = some (.raw .nilFunc) := by kernel_rfl
@[simp] theorem Tryz.ez_63 : esz Tryz.prog 63 = some (2, 40) := by kernel_rfl
@[simp] theorem Tryz.sz_63 : szOf Tryz.prog 63 = some 2 := by kernel_rfl
@[simp] theorem Tryz.tk_63 : tyk Tryz.prog 63 = some (true, 2) := by kernel_rfl
@[simp] theorem Tryz.zd_63 : zeroD Tryz.prog 63 = some (.agg [.str [], .sl []]) := by kernel_rfl
@[simp] theorem Tryz.sd_63 : structD Tryz.prog 63 = some [.str [], .sl []] := by kernel_rfl
@[simp] theorem Tryz.fo_63_0 : fieldOff Tryz.prog 63 0 = some 0 := by kernel_rfl
@[simp] theorem Tryz.fo_63_1 : fieldOff Tryz.prog 63 1 = some 1 := by kernel_rfl
@[simp] theorem Tryz.ez_64 : esz Tryz.prog 64 = some (2, 40) := by kernel_rfl
@[simp] theorem Tryz.sz_64 : szOf Tryz.prog 64 = some 2 := by kernel_rfl
@[simp] theorem Tryz.tk_64 : tyk Tryz.prog 64 = some (true, 2) := by kernel_rfl
@[simp] theorem Tryz.zd_64 : zeroD Tryz.prog 64 = some (.agg [.str [], .sl []]) := by kernel_rfl
@[simp] theorem Tryz.sd_64 : structD Tryz.prog 64 = some [.str [], .sl []] := by kernel_rfl
@[simp] theorem Tryz.fo_64_0 : fieldOff Tryz.prog 64 0 = some 0 := by kernel_rfl
@[simp] theorem Tryz.fo_64_1 : fieldOff Tryz.prog 64 1 = some 1 := by kernel_rfl
@[simp] theorem Tryz.ez_65 : esz Tryz.prog 65 = some (1, 8) := by kernel_rfl
@[simp] theorem Tryz.sz_65 : szOf Tryz.prog 65 = some 1 := by kernel_rfl
@[simp] theorem Tryz.tk_65 : tyk Tryz.prog 65 = some (false, 1) := by kernel_rfl
@[simp] theorem Tryz.zd_65 : zeroD Tryz.prog 65 = some (.raw .nilFunc) := by kernel_rfl
@[simp] theorem Tryz.ez_66 : esz Tryz.prog 66 = some (1, 8) := by kernel_rfl
@[simp] theorem Tryz.sz_66 : szOf Tryz.prog 66 = some 1 := by kernel_rfl
@[simp] theorem Tryz.tk_66 : tyk Tryz.prog 66 = some (false, 1) := by kernel_rfl
@[simp] theorem Tryz.zd_66 : zeroD Tryz.prog 66 = some (.raw .nilFunc) := by kernel_rfl
@[simp] theorem Tryz.ez_67 : esz Tryz.prog 67 = some (3, 56) := by kernel_rfl
@[simp] theorem Tryz.sz_67 : szOf Tryz.prog 67 = some 3 := by kernel_rfl
@[simp] theorem Tryz.tk_67 : tyk Tryz.prog 67 = some (true, 3) := by kernel_rfl
@[simp] theorem Tryz.zd_67 : zeroD Tryz.prog 67 = some (.agg [.bool false, .sl [], .sl []]) := by kernel_rfl
@[simp] theorem Tryz.sd_67 : structD Tryz.prog 67 = some [.bool false, .sl [], .sl []] := by kernel_rfl
@[simp] theorem Tryz.fo_67_0 : fieldOff Tryz.prog 67 0 = some 0 := by kernel_rfl
@[simp] theorem Tryz.fo_67_1 : fieldOff Tryz.prog 67 1 = some 1 := by kernel_rfl
@[simp] theorem Tryz.fo_67_2 : fieldOff Tryz.prog 67 2 = some 2 := by kernel_rfl
@[simp] theorem Tryz.ez_68 : esz Tryz.prog 68 = some (3, 56) := by kernel_rfl
@[simp] theorem Tryz.sz_68 : szOf Tryz.prog 68 = some 3 := by kernel_rfl
@[simp] theorem Tryz.tk_68 : tyk Tryz.prog 68 = some (true, 3) := by kernel_rfl
@[simp] theorem Tryz.zd_68 : zeroD Tryz.prog 68 = some (.agg [.bool false, .sl [], .sl []]) := by kernel_rfl
@[simp] theorem Tryz.sd_68 : structD Tryz.prog 68 = some [.bool false, .sl [], .sl []] := by kernel_rfl
@[simp] theorem Tryz.fo_68_0 : fieldOff Tryz.prog 68 0 = some 0 := by kernel_rfl
@[simp] theorem Tryz.fo_68_1 : fieldOff Tryz.prog 68 1 = some 1 := by kernel_rfl
@[simp] theorem Tryz.fo_68_2 : fieldOff Tryz.prog 68 2 = some 2 := by kernel_rfl
@[simp] theorem Tryz.ez_69 : esz Tryz.prog 69 = some (1, 8) := by kernel_rfl
@[simp] theorem Tryz.sz_69 : szOf Tryz.prog 69 = some 1 := by kernel_rfl
@[simp] theorem Tryz.tk_69 : tyk Tryz.prog 69 = some (false, 1) := by kernel_rfl
@[simp] theorem Tryz.zd_69 : zeroD Tryz.prog 69 = some (.raw .nilFunc) := by kernel_rfl
@[simp] theorem Tryz.ez_70 : esz Tryz.prog 70 = some (1, 8) := by kernel_rfl
@[simp] theorem Tryz.sz_70 : szOf Tryz.prog 70 = some 1 := by kernel_rfl
@[simp] theorem Tryz.tk_70 : tyk Tryz.prog 70 = some (false, 1) := by kernel_rfl
@[simp] theorem Tryz.zd_70 : zeroD Tryz.prog 70 = some (.raw .nilFunc) := by kernel_rfl
@[simp] theorem Tryz.ez_71 : esz Tryz.prog 71 = some (1, 8) := by kernel_rfl
@[simp] theorem Tryz.sz_71 : szOf Tryz.prog 71 = some 1 := by kernel_rfl
@[simp] theorem Tryz.tk_71 : tyk Tryz.prog 71 = some (false, 1) := by kernel_rfl
@[simp] theorem Tryz.zd_71 : zeroD Tryz.prog 71 = some (.raw .nilFunc) := by kernel_rfl
@[simp] theorem Tryz.ez_72 : esz Tryz.prog 72 = some (1, 8) := by kernel_rfl
@[simp] theorem Tryz.sz_72 : szOf Tryz.prog 72 = some 1 := by kernel_rfl
@[simp] theorem Tryz.tk_72 : tyk Tryz.prog 72 = some (false, 1) := by kernel_rfl
@[simp] theorem Tryz.zd_72 : zeroD Tryz.prog 72 = some (.raw .nilFunc) := by kernel_rfl
@[simp] theorem Tryz.ez_73 : esz Tryz.prog 73 = some (1, 8) := by kernel_rfl
@[simp] theorem Tryz.sz_73 : szOf Tryz.prog 73 = some 1 := by kernel_rfl
@[simp] theorem Tryz.tk_73 : tyk Tryz.prog 73 = some (false, 1) := by kernel_rfl
@[simp] theorem Tryz.zd_73 : zeroD Tryz.prog 73 = some (.raw .nilFunc) := by kernel_rfl
@[simp] theorem Tryz.u_74 : Program.underlying Tryz.prog 74 = some (.slice 80) := by kernel_rfl
@[simp] theorem Tryz.se_74 : sliceE Tryz.prog 74 = some 80 := by kernel_rfl
@[simp] theorem Tryz.ez_74 : esz Tryz.prog 74 = some (1, 24) := by kernel_rfl
@[simp] theorem Tryz.sz_74 : szOf Tryz.prog 74 = some 1 := by kernel_rfl
@[simp] theorem Tryz.tk_74 : tyk Tryz.prog 74 = some (false, 1) := by kernel_rfl
@[simp] theorem Tryz.zd_74 : zeroD Tryz.prog 74 = some (.sl []) := by kernel_rfl
@[simp] theorem Tryz.ez_76 : esz Tryz.prog 76 = some (1, 8) := by kernel_rfl
@[simp] theorem Tryz.sz_76 : szOf Tryz.prog 76 = some 1 := by kernel_rfl
@[simp] theorem Tryz.tk_76 : tyk Tryz.prog 76 = some (false, 1) := by kernel_rfl
@[simp] theorem Tryz.zd_76 : zeroD Tryz.prog 76 = some (.raw .nilFunc) := by kernel_rfl
@[simp] theorem Tryz.ez_78 : esz Tryz.prog 78 = some (1, 8) := by kernel_rfl
@[simp] theorem Tryz.sz_78 : szOf Tryz.prog 78 = some 1 := by kernel_rfl
@[simp] theorem Tryz.tk_78 : tyk Tryz.prog 78 = some (false, 1) := by kernel_rfl
@[simp] theorem Tryz.zd_78 : zeroD Tryz.prog 78 = some (.raw .nilFunc) := by kernel_rfl
@[simp] theorem Tryz.ez_79 : esz Tryz.prog 79 = some (2, 32) := by kernel_rfl
@[simp] theorem Tryz.sz_79 : szOf Tryz.prog 79 = some 2 := by kernel_rfl
@[simp] theorem Tryz.tk_79 : tyk Tryz.prog 79 = some (true, 2) := by kernel_rfl
@[simp] theorem Tryz.zd_79 : zeroD Tryz.prog 79 = some (.agg [.str [], .str []]) := by kernel_rfl
@[simp] theorem Tryz.sd_79 : structD Tryz.prog 79 = some [.str [], .str []] := by kernel_rfl
@[simp] theorem Tryz.fo_79_0 : fieldOff Tryz.prog 79 0 = some 0 := by kernel_rfl
@[simp] theorem Tryz.fo_79_1 : fieldOff Tryz.prog 79 1 = some 1 := by kernel_rfl
@[simp] theorem Tryz.ez_80 : esz Tryz.prog 80 = some (2, 32) := by kernel_rfl
@[simp] theorem Tryz.sz_80 : szOf Tryz.prog 80 = some 2 := by kernel_rfl
@[simp] theorem Tryz.tk_80 : tyk Tryz.prog 80 = some (true, 2) := by kernel_rfl
@[simp] theorem Tryz.zd_80 : zeroD Tryz.prog 80 = some (.agg [.str [], .str []]) := by kernel_rfl
@[simp] theorem Tryz.sd_80 : structD Tryz.prog 80 = some [.str [], .str []] := by kernel_rfl
@[simp] theorem Tryz.fo_80_0 : fieldOff Tryz.prog 80 0 = some 0 := by kernel_rfl
@[simp] theorem Tryz.fo_80_1 : fieldOff Tryz.prog 80 1 = some 1 := by kernel_rfl
@[simp] theorem Tryz.ez_81 : esz Tryz.prog 81 = some (1, 8) := by kernel_rfl
@[simp] theorem Tryz.sz_81 : szOf Tryz.prog 81 = some 1 := by kernel_rfl
@[simp] theorem Tryz.tk_81 : tyk Tryz.prog 81 = some (false, 1) := by kernel_rfl
@[simp] theorem Tryz.zd_81 : zeroD Tryz.prog 81 = some (.raw .nilFunc) := by kernel_rfl
@[simp] theorem Tryz.ez_82 : esz Tryz.prog 82 = some (1, 8) := by kernel_rfl
@[simp] theorem Tryz.sz_82 : szOf Tryz.prog 82 = some 1 := by kernel_rfl
@[simp] theorem Tryz.tk_82 : tyk Tryz.prog 82 = some (false, 1) := by kernel_rfl
@[simp] theorem Tryz.zd_82 : zeroD Tryz.prog 82 = some (.raw .nilFunc) := by kernel_rfl
@[simp] theorem Tryz.ez_83 : esz Tryz.prog 83 = some (1, 8) := by kernel_rfl
@[simp] theorem Tryz.sz_83 : szOf Tryz.prog 83 = some 1 := by kernel_rfl
@[simp] theorem Tryz.tk_83 : tyk Tryz.prog 83 = some (false, 1) := by kernel_rfl
@[simp] theorem Tryz.zd_83 : zeroD Tryz.prog 83 = some (.raw .nilFunc) := by kernel_rfl
@[simp] theorem Tryz.u_84 : Program.underlying Tryz.prog 84 = some (.array 8 27) := by kernel_rfl
@[simp] theorem Tryz.ez_84 : esz Tryz.prog 84 = some (8, 64) := by kernel_rfl
@[simp] theorem Tryz.sz_84 : szOf Tryz.prog 84 = some 8 := by kernel_rfl
@[simp] theorem Tryz.tk_84 : tyk Tryz.prog 84 = some (true, 8) := by kernel_rfl
@[simp] theorem Tryz.zd_84 : zeroD Tryz.prog 84 = some (.agg [.int .i64 0, .int .i64 0, .int .i64 0, .int .i64 0, .int .i64 0, .int .i64 0, .int .i64 0, .int .i64 0]) := by kernel_rfl
@[simp] theorem Tryz.ez_85 : esz Tryz.prog 85 = some (1, 8) := by kernel_rfl
@[simp] theorem Tryz.sz_85 : szOf Tryz.prog 85 = some 1 := by kernel_rfl
@[simp] theorem Tryz.tk_85 : tyk Tryz.prog 85 = some (false, 1) := by kernel_rfl
@[simp] theorem Tryz.zd_85 : zeroD Tryz.prog 85 = some (.raw .nilFunc) := by kernel_rfl
@[simp] theorem Tryz.ez_87 : esz Tryz.prog 87 = some (1, 8) := by kernel_rfl
@[simp] theorem Tryz.sz_87 : szOf Tryz.prog 87 = some 1 := by kernel_rfl
@[simp] theorem Tryz.tk_87 : tyk Tryz.prog 87 = some (false, 1) := by kernel_rfl
@[simp] theorem Tryz.zd_87 : zeroD Tryz.prog 87 = some (.raw .nilFunc) := by kernel_rfl
@[simp] theorem Tryz.ez_88 : esz Tryz.prog 88 = some (1, 8) := by kernel_rfl
@[simp] theorem Tryz.sz_88 : szOf Tryz.prog 88 = some 1 := by kernel_rfl
@[simp] theorem Tryz.tk_88 : tyk Tryz.prog 88 = some (false, 1) := by kernel_rfl
@[simp] theorem Tryz.zd_88 : zeroD Tryz.prog 88 = some (.raw .nilFunc) := by kernel_rfl
@[simp] theorem Tryz.ez_89 : esz Tryz.prog 89 = some (1, 8) := by kernel_rfl
@[simp] theorem Tryz.sz_89 : szOf Tryz.prog 89 = some 1 := by kernel_rfl
@[simp] theorem Tryz.tk_89 : tyk Tryz.prog 89 = some (false, 1) := by kernel_rfl
@[simp] theorem Tryz.zd_89 : zeroD Tryz.prog 89 = some (.raw .nilFunc) := by kernel_rfl
@[simp] theorem Tryz.ez_91 : esz Tryz.prog 91 = some (1, 8) := by kernel_rfl
@[simp] theorem Tryz.sz_91 : szOf Tryz.prog 91 = some 1 := by kernel_rfl
@[simp] theorem Tryz.tk_91 : tyk Tryz.prog 91 = some (false, 1) := by kernel_rfl
@[simp] theorem Tryz.zd_91 : zeroD Tryz.prog 91 = some (.raw .nilFunc) := by kernel_rfl
@[simp] theorem Tryz.u_92 : Program.underlying Tryz.prog 92 = some (.slice 5) := by kernel_rfl
@[simp] theorem Tryz.se_92 : sliceE Tryz.prog 92 = some 5 := by kernel_rfl
@[simp] theorem Tryz.ez_92 : esz Tryz.prog 92 = some (1, 24) := by kernel_rfl
@[simp] theorem Tryz.sz_92 : szOf Tryz.prog 92 = some 1 := by kernel_rfl
@[simp] theorem Tryz.tk_92 : tyk Tryz.prog 92 = some (false, 1) := by kernel_rfl
@[simp] theorem Tryz.zd_92 : zeroD Tryz.prog 92 = some (.sl []) := by kernel_rfl
@[simp] theorem Tryz.ez_93 : esz Tryz.prog 93 = some (1, 8) := by kernel_rfl
@[simp] theorem Tryz.sz_93 : szOf Tryz.prog 93 = some 1 := by kernel_rfl
@[simp] theorem Tryz.tk_93 : tyk Tryz.prog 93 = some (false, 1) := by kernel_rfl
@[simp] theorem Tryz.zd_93 : zeroD Tryz.prog 93 = some (.raw .nilFunc) := by kernel_rfl
@[simp] theorem Tryz.ez_94 : esz Tryz.prog 94 = some (1, 8) := by kernel_rfl
@[simp] theorem Tryz.sz_94 : szOf Tryz.prog 94 = some 1 := by kernel_rfl
@[simp] theorem Tryz.tk_94 : tyk Tryz.prog 94 = some (false, 1) := by kernel_rfl
@[simp] theorem Tryz.zd_94 : zeroD Tryz.prog 94 = some (.raw .nilFunc) := by kernel_rfl
@[simp] theorem Tryz.ez_95 : esz Tryz.prog 95 = some (1, 8) := by kernel_rfl
@[simp] theorem Tryz.sz_95 : szOf Tryz.prog 95 = some 1 := by kernel_rfl
@[simp] theorem Tryz.tk_95 : tyk Tryz.prog 95 = some (false, 1) := by kernel_rfl
@[simp] theorem Tryz.zd_95 : zeroD Tryz.prog 95 = some (.raw .nilFunc) := by kernel_rfl
@[simp] theorem Tryz.ez_96 : esz Tryz.prog 96 = some (1, 8) := by kernel_rfl
@[simp] theorem Tryz.sz_96 : szOf Tryz.prog 96 = some 1 := by kernel_rfl
@[simp] theorem Tryz.tk_96 : tyk Tryz.prog 96 = some (false, 1) := by kernel_rfl
@[simp] theorem Tryz.zd_96 : zeroD Tryz.prog 96 = some (.raw .nilFunc) := by kernel_rfl
@[simp] theorem Tryz.ez_97 : esz Tryz.prog 97 = some (1, 8) := by kernel_rfl
@[simp] theorem Tryz.sz_97 : szOf Tryz.prog 97 = some 1 := by kernel_rfl
@[simp] theorem Tryz.tk_97 : tyk Tryz.prog 97 = some (false, 1) := by kernel_rfl
@[simp] theorem Tryz.zd_97 : zeroD Tryz.prog 97 = some (.raw .nilFunc) := by kernel_rfl
@[simp] theorem Tryz.ez_98 : esz Tryz.prog 98 = some (1, 8) := by kernel_rfl
@[simp] theorem Tryz.sz_98 : szOf Tryz.prog 98 = some 1 := by kernel_rfl
@[simp] theorem Tryz.tk_98 : tyk Tryz.prog 98 = some (false, 1) := by kernel_rfl
@[simp] theorem Tryz.zd_98 : zeroD Tryz.prog 98 = some (.raw .nilFunc) := by kernel_rfl
@[simp] theorem Tryz.ez_99 : esz Tryz.prog 99 = some (1, 8) := by kernel_rfl
@[simp] theorem Tryz.sz_99 : szOf Tryz.prog 99 = some 1 := by kernel_rfl
@[simp] theorem Tryz.tk_99 : tyk Tryz.prog 99 = some (false, 1) := by kernel_rfl
@[simp] theorem Tryz.zd_99 : zeroD Tryz.prog 99 = some (.raw .nilFunc) := by kernel_rfl
@[simp] theorem Tryz.ez_100 : esz Tryz.prog 100 = some (1, 8) := by kernel_rfl
@[simp] theorem Tryz.sz_100 : szOf Tryz.prog 100 = some 1 := by kernel_rfl
@[simp] theorem Tryz.tk_100 : tyk Tryz.prog 100 = some (false, 1) := by kernel_rfl
@[simp] theorem Tryz.zd_100 : zeroD Tryz.prog 100 = some (.raw .nilFunc) := by kernel_rfl
@[simp] theorem Tryz.ez_101 : esz Tryz.prog 101 = some (1, 8) := by kernel_rfl
@[simp] theorem Tryz.sz_101 : szOf Tryz.prog 101 = some 1 := by kernel_rfl
@[simp] theorem Tryz.tk_101 : tyk Tryz.prog 101 = some (false, 1) := by kernel_rfl
@[simp] theorem Tryz.zd_101 : zeroD Tryz.prog 101 = some (.raw .nilFunc) := by kernel_rfl
@[simp] theorem Tryz.ez_102 : esz Tryz.prog 102 = some (1, 8) := by kernel_rfl
@[simp] theorem Tryz.sz_102 : szOf Tryz.prog 102 = some 1 := by kernel_rfl
@[simp] theorem Tryz.tk_102 : tyk Tryz.prog 102 = some (false, 1) := by kernel_rfl
@[simp] theorem Tryz.zd_102 : zeroD Tryz.prog 102 = some (.raw .nilFunc) := by kernel_rfl
@[simp] theorem Tryz.u_103 : Program.underlying Tryz.prog 103 = some (.int .u64) := by kernel_rfl
@[simp] theorem Tryz.se_103 : sliceE Tryz.prog 103 = none := by kernel_rfl
@[simp] theorem Tryz.ez_103 : esz Tryz.prog 103 = some (1, 8) := by kernel_rfl
@[simp] theorem Tryz.sz_103 : szOf Tryz.prog 103 = some 1 := by kernel_rfl
@[simp] theorem Tryz.tk_103 : tyk Tryz.prog 103 = some (false, 1) := by kernel_rfl
@[simp] theorem Tryz.zd_103 : zeroD Tryz.prog 103 = some (.int .u64 0) := by kernel_rfl
@[simp] theorem Tryz.ez_104 : esz Tryz.prog 104 = some (1, 8) := by kernel_rfl
@[simp] theorem Tryz.sz_104 : szOf Tryz.prog 104 = some 1 := by kernel_rfl
@[simp] theorem Tryz.tk_104 : tyk Tryz.prog 104 = some (false, 1) := by kernel_rfl
@[simp] theorem Tryz.zd_104 : zeroD Tryz.prog 104 = some (.raw .nilFunc) := by kernel_rfl
@[simp] theorem Tryz.ez_105 : esz Tryz.prog 105 = some (1, 8) := by kernel_rfl
@[simp] theorem Tryz.sz_105 : szOf Tryz.prog 105 = some 1 := by kernel_rfl
@[simp] theorem Tryz.tk_105 : tyk Tryz.prog 105 = some (false, 1) := by kernel_rfl
@[simp] theorem Tryz.zd_105 : zeroD Tryz.prog 105 = some (.raw .nilFunc) := by kernel_rfl
@[simp] theorem Tryz.ez_106 : esz Tryz.prog 106 = some (1, 8) := by kernel_rfl
@[simp] theorem Tryz.sz_106 : szOf Tryz.prog 106 = some 1 := by kernel_rfl
@[simp] theorem Tryz.tk_106 : tyk Tryz.prog 106 = some (false, 1) := by kernel_rfl
@[simp] theorem Tryz.zd_106 : zeroD Tryz.prog 106 = some (.raw .nilFunc) := by kernel_rfl
@[simp] theorem Tryz.ez_107 : esz Tryz.prog 107 = some (1, 8) := by kernel_rfl
@[simp] theorem Tryz.sz_107 : szOf Tryz.prog 107 = some 1 := by kernel_rfl
@[simp] theorem Tryz.tk_107 : tyk Tryz.prog 107 = some (false, 1) := by kernel_rfl
@[simp] theorem Tryz.zd_107 : zeroD Tryz.prog 107 = some (.raw .nilFunc) := by kernel_rfl
@[simp] theorem Tryz.ez_109 : esz Tryz.prog 109 = some (1, 8) := by kernel_rfl
@[simp] theorem Tryz.sz_109 : szOf Tryz.prog 109 = some 1 := by kernel_rfl
@[simp] theorem Tryz.tk_109 : tyk Tryz.prog 109 = some (false, 1) := by kernel_rfl
@[simp] theorem Tryz.zd_109 : zeroD Tryz.prog 109 = some (.raw .nilFunc) := by kernel_rfl
@[simp] theorem Tryz.ez_110 : esz Tryz.prog 110 = some (1, 8) := by kernel_rfl
@[simp] theorem Tryz.sz_110 : szOf Tryz.prog 110 = some 1 := by kernel_rfl
@[simp] theorem Tryz.tk_110 : tyk Tryz.prog 110 = some (false, 1) := by kernel_rfl
@[simp] theorem Tryz.zd_110 : zeroD Tryz.prog 110 = some (.raw .nilFunc) := by kernel_rfl
@[simp] theorem Tryz.u_111 : Program.underlying Tryz.prog 111 = some (.pointer 113) := by kernel_rfl
@[simp] theorem Tryz.ez_111 : esz Tryz.prog 111 = some (1, 8) := by kernel_rfl
@[simp] theorem Tryz.sz_111 : szOf Tryz.prog 111 = some 1 := by kernel_rfl
@[simp] theorem Tryz.tk_111 : tyk Tryz.prog 111 = some (false, 1) := by kernel_rfl
@[simp] theorem Tryz.zd_111 : zeroD Tryz.prog 111 = some (.nilp) := by kernel_rfl
@[simp] theorem Tryz.ez_112 : esz Tryz.prog 112 = some (2, 32) := by kernel_rfl
@[simp] theorem Tryz.sz_112 : szOf Tryz.prog 112 = some 2 := by kernel_rfl
@[simp] theorem Tryz.tk_112 : tyk Tryz.prog 112 = some (true, 2) := by kernel_rfl
@[simp] theorem Tryz.zd_112 : zeroD Tryz.prog 112 = some (.agg [.nilp, .sl []]) := by kernel_rfl
@[simp] theorem Tryz.sd_112 : structD Tryz.prog 112 = some [.nilp, .sl []] := by kernel_rfl
@[simp] theorem Tryz.fo_112_0 : fieldOff Tryz.prog 112 0 = some 0 := by kernel_rfl
@[simp] theorem Tryz.fo_112_1 : fieldOff Tryz.prog 112 1 = some 1 := by kernel_rfl
@[simp] theorem Tryz.ez_113 : esz Tryz.prog 113 = some (2, 32) := by kernel_rfl
@[simp] theorem Tryz.sz_113 : szOf Tryz.prog 113 = some 2 := by kernel_rfl
@[simp] theorem Tryz.tk_113 : tyk Tryz.prog 113 = some (true, 2) := by kernel_rfl
@[simp] theorem Tryz.zd_113 : zeroD Tryz.prog 113 = some (.agg [.nilp, .sl []]) := by kernel_rfl
@[simp] theorem Tryz.sd_113 : structD Tryz.prog 113 = some [.nilp, .sl []] := by kernel_rfl
@[simp] theorem Tryz.fo_113_0 : fieldOff Tryz.prog 113 0 = some 0 := by kernel_rfl
@[simp] theorem Tryz.fo_113_1 : fieldOff Tryz.prog 113 1 = some 1 := by kernel_rfl
@[simp] theorem Tryz.ez_116 : esz Tryz.prog 116 = some (1, 8) := by kernel_rfl
@[simp] theorem Tryz.sz_116 : szOf Tryz.prog 116 = some 1 := by kernel_rfl
@[simp] theorem Tryz.tk_116 : tyk Tryz.prog 116 = some (false, 1) := by kernel_rfl
@[simp] theorem Tryz.zd_116 : zeroD Tryz.prog 116 = some (.raw .nilFunc) := by kernel_rfl
@[simp] theorem Tryz.ez_118 : esz Tryz.prog 118 = some (1, 8) := by kernel_rfl
@[simp] theorem Tryz.sz_118 : szOf Tryz.prog 118 = some 1 := by kernel_rfl
@[simp] theorem Tryz.tk_118 : tyk Tryz.prog 118 = some (false, 1) := by kernel_rfl
@[simp] theorem Tryz.zd_118 : zeroD Tryz.prog 118 = some (.raw .nilFunc) := by kernel_rfl
@[simp] theorem Tryz.ez_119 : esz Tryz.prog 119 = some (1, 8) := by kernel_rfl
@[simp] theorem Tryz.sz_119 : szOf Tryz.prog 119 = some 1 := by kernel_rfl
@[simp] theorem Tryz.tk_119 : tyk Tryz.prog 119 = some (false, 1) := by kernel_rfl
@[simp] theorem Tryz.zd_119 : zeroD Tryz.prog 119 = some (.raw .nilFunc) := by kernel_rfl
@[simp] theorem Tryz.ez_120 : esz Tryz.prog 120 = some (1, 8) := by kernel_rfl
@[simp] theorem Tryz.sz_120 : szOf Tryz.prog 120 = some 1 := by kernel_rfl
@[simp] theorem Tryz.tk_120 : tyk Tryz.prog 120 = some (false, 1) := by kernel_rfl
@[simp] theorem Tryz.zd_120 : zeroD Tryz.prog 120 = some (.raw .nilFunc) := by kernel_rfl
@[simp] theorem Tryz.ez_121 : esz Tryz.prog 121 = some (1, 8) := by kernel_rfl
@[simp] theorem Tryz.sz_121 : szOf Tryz.prog 121 = some 1 := by kernel_rfl
@[simp] theorem Tryz.tk_121 : tyk Tryz.prog 121 = some (false, 1) := by kernel_rfl
@[simp] theorem Tryz.zd_121 : zeroD Tryz.prog 121 = some (.raw .nilFunc) := by kernel_rfl
@[simp] theorem Tryz.ez_122 : esz Tryz.prog 122 = some (1, 8) := by kernel_rfl
@[simp] theorem Tryz.sz_122 : szOf Tryz.prog 122 = some 1 := by kernel_rfl
@[simp] theorem Tryz.tk_122 : tyk Tryz.prog 122 = some (false, 1) := by kernel_rfl
@[simp] theorem Tryz.zd_122 : zeroD Tryz.prog 122 = some (.raw .nilFunc) := by kernel_rfl
@[simp] theorem Tryz.ez_125 : esz Tryz.prog 125 = some (1, 8) := by kernel_rfl
@[simp] theorem Tryz.sz_125 : szOf Tryz.prog 125 = some 1 := by kernel_rfl
@[simp] theorem Tryz.tk_125 : tyk Tryz.prog 125 = some (false, 1) := by kernel_rfl
@[simp] theorem Tryz.zd_125 : zeroD Tryz.prog 125 = some (.raw .nilFunc) := by kernel_rfl
@[simp] theorem Tryz.ez_126 : esz Tryz.prog 126 = some (1, 8) := by kernel_rfl
@[simp] theorem Tryz.sz_126 : szOf Tryz.prog 126 = some 1 := by kernel_rfl
@[simp] theorem Tryz.tk_126 : tyk Tryz.prog 126 = some (false, 1) := by kernel_rfl
@[simp] theorem Tryz.zd_126 : zeroD Tryz.prog 126 = some (.raw .nilFunc) := by kernel_rfl
@[simp] theorem Tryz.ez_127 : esz Tryz.prog 127 = some (1, 8) := by kernel_rfl
@[simp] theorem Tryz.sz_127 : szOf Tryz.prog 127 = some 1 := by kernel_rfl
@[simp] theorem Tryz.tk_127 : tyk Tryz.prog 127 = some (false, 1) := by kernel_rfl
@[simp] theorem Tryz.zd_127 : zeroD Tryz.prog 127 = some (.raw .nilFunc) := by kernel_rfl
@[simp] theorem Tryz.ez_129 : esz Tryz.prog 129 = some (1, 8) := by kernel_rfl
@[simp] theorem Tryz.sz_129 : szOf Tryz.prog 129 = some 1 := by kernel_rfl
@[simp] theorem Tryz.tk_129 : tyk Tryz.prog 129 = some (false, 1) := by kernel_rfl
@[simp] theorem Tryz.zd_129 : zeroD Tryz.prog 129 = some (.raw .nilFunc) := by kernel_rfl
@[simp] theorem Tryz.ez_130 : esz Tryz.prog 130 = some (1, 8) := by kernel_rfl
@[simp] theorem Tryz.sz_130 : szOf Tryz.prog 130 = some 1 := by kernel_rfl
@[simp] theorem Tryz.tk_130 : tyk Tryz.prog 130 = some (false, 1) := by kernel_rfl
@[simp] theorem Tryz.zd_130 : zeroD Tryz.prog 130 = some (.raw .nilFunc) := by kernel_rfl
@[simp] theorem Tryz.u_131 : Program.underlying Tryz.prog 131 = some (.int .u32) := by kernel_rfl
@[simp] theorem Tryz.se_131 : sliceE Tryz.prog 131 = none := by kernel_rfl
@[simp] theorem Tryz.ez_131 : esz Tryz.prog 131 = some (1, 4) := by kernel_rfl
@[simp] theorem Tryz.sz_131 : szOf Tryz.prog 131 = some 1 := by kernel_rfl
@[simp] theorem Tryz.tk_131 : tyk Tryz.prog 131 = some (false, 1) := by kernel_rfl
@[simp] theorem Tryz.zd_131 : zeroD Tryz.prog 131 = some (.int .u32 0) := by kernel_rfl
@[simp] theorem Tryz.ez_132 : esz Tryz.prog 132 = some (1, 8) := by kernel_rfl
@[simp] theorem Tryz.sz_132 : szOf Tryz.prog 132 = some 1 := by kernel_rfl
@[simp] theorem Tryz.tk_132 : tyk Tryz.prog 132 = some (false, 1) := by kernel_rfl
@[simp] theorem Tryz.zd_132 : zeroD Tryz.prog 132 = some (.raw .nilFunc) := by kernel_rfl
@[simp] theorem Tryz.u_133 : Program.underlying Tryz.prog 133 = some (.int .u64) := by kernel_rfl
@[simp] theorem Tryz.se_133 : sliceE Tryz.prog 133 = none := by kernel_rfl
@[simp] theorem Tryz.ez_133 : esz Tryz.prog 133 = some (1, 8) := by kernel_rfl
@[simp] theorem Tryz.sz_133 : szOf Tryz.prog 133 = some 1 := by kernel_rfl
@[simp] theorem Tryz.tk_133 : tyk Tryz.prog 133 = some (false, 1) := by kernel_rfl
@[simp] theorem Tryz.zd_133 : zeroD Tryz.prog 133 = some (.int .u64 0) := by kernel_rfl
@[simp] theorem Tryz.u_134 : Program.underlying Tryz.prog 134 = some (.slice 3) := by kernel_rfl
@[simp] theorem Tryz.se_134 : sliceE Tryz.prog 134 = some 3 := by kernel_rfl
@[simp] theorem Tryz.ez_134 : esz Tryz.prog 134 = some (1, 24) := by kernel_rfl
@[simp] theorem Tryz.sz_134 : szOf Tryz.prog 134 = some 1 := by kernel_rfl
@[simp] theorem Tryz.tk_134 : tyk Tryz.prog 134 = some (false, 1) := by kernel_rfl
@[simp] theorem Tryz.zd_134 : zeroD Tryz.prog 134 = some (.sl []) := by kernel_rfl
@[simp] theorem Tryz.ez_135 : esz Tryz.prog 135 = some (1, 8) := by kernel_rfl
@[simp] theorem Tryz.sz_135 : szOf Tryz.prog 135 = some 1 := by kernel_rfl
@[simp] theorem Tryz.tk_135 : tyk Tryz.prog 135 = some (false, 1) := by kernel_rfl
@[simp] theorem Tryz.zd_135 : zeroD Tryz.prog 135 = some (.raw .nilFunc) := by kernel_rfl
@[simp] theorem Tryz.u_136 : Program.underlying Tryz.prog 136 = some (.pointer 5) := by kernel_rfl
@[simp] theorem Tryz.ez_136 : esz Tryz.prog 136 = some (1, 8) := by kernel_rfl
@[simp] theorem Tryz.sz_136 : szOf Tryz.prog 136 = some 1 := by kernel_rfl
@[simp] theorem Tryz.tk_136 : tyk Tryz.prog 136 = some (false, 1) := by kernel_rfl
@[simp] theorem Tryz.zd_136 : zeroD Tryz.prog 136 = some (.nilp) := by kernel_rfl
@[simp] theorem Tryz.ez_137 : esz Tryz.prog 137 = some (1, 8) := by kernel_rfl
@[simp] theorem Tryz.sz_137 : szOf Tryz.prog 137 = some 1 := by kernel_rfl
@[simp] theorem Tryz.tk_137 : tyk Tryz.prog 137 = some (false, 1) := by kernel_rfl
@[simp] theorem Tryz.zd_137 : zeroD Tryz.prog 137 = some (.raw .nilFunc) := by kernel_rfl
@[simp] theorem Tryz.ez_138 : esz Tryz.prog 138 = some (1, 8) := by kernel_rfl
@[simp] theorem Tryz.sz_138 : szOf Tryz.prog 138 = some 1 := by kernel_rfl
@[simp] theorem Tryz.tk_138 : tyk Tryz.prog 138 = some (false, 1) := by kernel_rfl
@[simp] theorem Tryz.zd_138 : zeroD Tryz.prog 138 = some (.raw .nilFunc) := by kernel_rfl
@[simp] theorem Tryz.ez_139 : esz Tryz.prog 139 = some (1, 8) := by kernel_rfl
@[simp] theorem Tryz.sz_139 : szOf Tryz.prog 139 = some 1 := by kernel_rfl
@[simp] theorem Tryz.tk_139 : tyk Tryz.prog 139 = some (false, 1) := by kernel_rfl
@[simp] theorem Tryz.zd_139 : zeroD Tryz.prog 139 = some (.raw .nilFunc) := by kernel_rfl
@[simp] theorem Tryz.ez_140 : esz Tryz.prog 140 = some (1, 8) := by kernel_rfl
@[simp] theorem Tryz.sz_140 : szOf Tryz.prog 140 = some 1 := by kernel_rfl
@[simp] theorem Tryz.tk_140 : tyk Tryz.prog 140 = some (false, 1) := by kernel_rfl
@[simp] theorem Tryz.zd_140 : zeroD Tryz.prog 140 = some (.raw .nilFunc) := by kernel_rfl
@[simp] theorem Tryz.ez_141 : esz Tryz.prog 141 = some (1, 8) := by kernel_rfl
@[simp] theorem Tryz.sz_141 : szOf Tryz.prog 141 = some 1 := by kernel_rfl
@[simp] theorem Tryz.tk_141 : tyk Tryz.prog 141 = some (false, 1) := by kernel_rfl
@[simp] theorem Tryz.zd_141 : zeroD Tryz.prog 141 = some (.raw .nilFunc) := by kernel_rfl
@[simp] theorem Tryz.ez_142 : esz Tryz.prog 142 = some (1, 8) := by kernel_rfl
@[simp] theorem Tryz.sz_142 : szOf Tryz.prog 142 = some 1 := by kernel_rfl
@[simp] theorem Tryz.tk_142 : tyk Tryz.prog 142 = some (false, 1) := by kernel_rfl
@[simp] theorem Tryz.zd_142 : zeroD Tryz.prog 142 = some (.raw .nilFunc) := by kernel_rfl
@[simp] theorem Tryz.ez_143 : esz Tryz.prog 143 = some (1, 8) := by kernel_rfl
@[simp] theorem Tryz.sz_143 : szOf Tryz.prog 143 = some 1 := by kernel_rfl
@[simp] theorem Tryz.tk_143 : tyk Tryz.prog 143 = some (false, 1) := by kernel_rfl
@[simp] theorem Tryz.zd_143 : zeroD Tryz.prog 143 = some (.raw .nilFunc) := by kernel_rfl
@[simp] theorem Tryz.ez_144 : esz Tryz.prog 144 = some (1, 8) := by kernel_rfl
@[simp] theorem Tryz.sz_144 : szOf Tryz.prog 144 = some 1 := by kernel_rfl
@[simp] theorem Tryz.tk_144 : tyk Tryz.prog 144 = some (false, 1) := by kernel_rfl
@[simp] theorem Tryz.zd_144 : zeroD Tryz.prog 144 = some (.raw .nilFunc) := by kernel_rfl
@[simp] theorem Tryz.ez_145 : esz Tryz.prog 145 = some (1, 8) := by kernel_rfl
@[simp] theorem Tryz.sz_145 : szOf Tryz.prog 145 = some 1 := by kernel_rfl
@[simp] theorem Tryz.tk_145 : tyk Tryz.prog 145 = some (false, 1) := by kernel_rfl
@[simp] theorem Tryz.zd_145 : zeroD Tryz.prog 145 = some (.raw .nilFunc) := by kernel_rfl
@[simp] theorem Tryz.ez_146 : esz Tryz.prog 146 = some (1, 8) := by kernel_rfl
@[simp] theorem Tryz.sz_146 : szOf Tryz.prog 146 = some 1 := by kernel_rfl
@[simp] theorem Tryz.tk_146 : tyk Tryz.prog 146 = some (false, 1) := by kernel_rfl
@[simp] theorem Tryz.zd_146 : zeroD Tryz.prog 146 = some (.raw .nilFunc) := by kernel_rfl
@[simp] theorem Tryz.ez_148 : esz Tryz.prog 148 = some (1, 8) := by kernel_rfl
@[simp] theorem Tryz.sz_148 : szOf Tryz.prog 148 = some 1 := by kernel_rfl
@[simp] theorem Tryz.tk_148 : tyk Tryz.prog 148 = some (false, 1) := by kernel_rfl
@[simp] theorem Tryz.zd_148 : zeroD Tryz.prog 148 = some (.raw .nilFunc) := by kernel_rfl
@[simp] theorem Tryz.ez_149 : esz Tryz.prog 149 = some (1, 8) := by kernel_rfl
@[simp] theorem Tryz.sz_149 : szOf Tryz.prog 149 = some 1 := by kernel_rfl
@[simp] theorem Tryz.tk_149 : tyk Tryz.prog 149 = some (false, 1) := by kernel_rfl
@[simp] theorem Tryz.zd_149 : zeroD Tryz.prog 149 = some (.raw .nilFunc) := by kernel_rfl
@[simp] theorem Tryz.ez_150 : esz Tryz.prog 150 = some (1, 8) := by kernel_rfl
@[simp] theorem Tryz.sz_150 : szOf Tryz.prog 150 = some 1 := by kernel_rfl
@[simp] theorem Tryz.tk_150 : tyk Tryz.prog 150 = some (false, 1) := by kernel_rfl
@[simp] theorem Tryz.zd_150 : zeroD Tryz.prog 150 = some (.raw .nilFunc) := by kernel_rfl
@[simp] theorem Tryz.u_151 : Program.underlying Tryz.prog 151 = some (.pointer 3) := by kernel_rfl
@[simp] theorem Tryz.ez_151 : esz Tryz.prog 151 = some (1, 8) := by kernel_rfl
@[simp] theorem Tryz.sz_151 : szOf Tryz.prog 151 = some 1 := by kernel_rfl
@[simp] theorem Tryz.tk_151 : tyk Tryz.prog 151 = some (false, 1) := by kernel_rfl
@[simp] theorem Tryz.zd_151 : zeroD Tryz.prog 151 = some (.nilp) := by kernel_rfl
@[simp] theorem Tryz.ez_152 : esz Tryz.prog 152 = some (1, 8) := by kernel_rfl
@[simp] theorem Tryz.sz_152 : szOf Tryz.prog 152 = some 1 := by kernel_rfl
@[simp] theorem Tryz.tk_152 : tyk Tryz.prog 152 = some (false, 1) := by kernel_rfl
@[simp] theorem Tryz.zd_152 : zeroD Tryz.prog 152 = some (.raw .nilFunc) := by kernel_rfl
@[simp] theorem Tryz.ez_153 : esz Tryz.prog 153 = some (1, 8) := by kernel_rfl
@[simp] theorem Tryz.sz_153 : szOf Tryz.prog 153 = some 1 := by kernel_rfl
@[simp] theorem Tryz.tk_153 : tyk Tryz.prog 153 = some (false, 1) := by kernel_rfl
@[simp] theorem Tryz.zd_153 : zeroD Tryz.prog 153 = some (.raw .nilFunc) := by kernel_rfl
@[simp] theorem Tryz.ez_155 : esz Tryz.prog 155 = some (1, 8) := by kernel_rfl
@[simp] theorem Tryz.sz_155 : szOf Tryz.prog 155 = some 1 := by kernel_rfl
@[simp] theorem Tryz.tk_155 : tyk Tryz.prog 155 = some (false, 1) := by kernel_rfl
@[simp] theorem Tryz.zd_155 : zeroD Tryz.prog 155 = some (.raw .nilFunc) := by kernel_rfl
@[simp] theorem Tryz.ez_156 : esz Tryz.prog 156 = some (1, 8) := by kernel_rfl
@[simp] theorem Tryz.sz_156 : szOf Tryz.prog 156 = some 1 := by kernel_rfl
@[simp] theorem Tryz.tk_156 : tyk Tryz.prog 156 = some (false, 1) := by kernel_rfl
@[simp] theorem Tryz.zd_156 : zeroD Tryz.prog 156 = some (.raw .nilFunc) := by kernel_rfl
@[simp] theorem Tryz.ez_157 : esz Tryz.prog 157 = some (1, 8) := by kernel_rfl
@[simp] theorem Tryz.sz_157 : szOf Tryz.prog 157 = some 1 := by kernel_rfl
@[simp] theorem Tryz.tk_157 : tyk Tryz.prog 157 = some (false, 1) := by kernel_rfl
@[simp] theorem Tryz.zd_157 : zeroD Tryz.prog 157 = some (.raw .nilFunc) := by kernel_rfl
@[simp] theorem Tryz.ez_158 : esz Tryz.prog 158 = some (1, 8) := by kernel_rfl
@[simp] theorem Tryz.sz_158 : szOf Tryz.prog 158 = some 1 := by kernel_rfl
@[simp] theorem Tryz.tk_158 : tyk Tryz.prog 158 = some (false, 1) := by kernel_rfl
@[simp] theorem Tryz.zd_158 : zeroD Tryz.prog 158 = some (.raw .nilFunc) := by kernel_rfl
@[simp] theorem Tryz.ez_159 : esz Tryz.prog 159 = some (1, 8) := by kernel_rfl
@[simp] theorem Tryz.sz_159 : szOf Tryz.prog 159 = some 1 := by kernel_rfl
@[simp] theorem Tryz.tk_159 : tyk Tryz.prog 159 = some (false, 1) := by kernel_rfl
@[simp] theorem Tryz.zd_159 : zeroD Tryz.prog 159 = some (.raw .nilFunc) := by kernel_rfl
@[simp] theorem Tryz.ez_160 : esz Tryz.prog 160 = some (1, 8) := by kernel_rfl
@[simp] theorem Tryz.sz_160 : szOf Tryz.prog 160 = some 1 := by kernel_rfl
@[simp] theorem Tryz.tk_160 : tyk Tryz.prog 160 = some (false, 1) := by kernel_rfl
@[simp] theorem Tryz.zd_160 : zeroD Tryz.prog 160 = some (.raw .nilFunc) := by kernel_rfl
@[simp] theorem Tryz.ez_163 : esz Tryz.prog 163 = some (1, 8) := by kernel_rfl
@[simp] theorem Tryz.sz_163 : szOf Tryz.prog 163 = some 1 := by kernel_rfl
@[simp] theorem Tryz.tk_163 : tyk Tryz.prog 163 = some (false, 1) := by kernel_rfl
@[simp] theorem Tryz.zd_163 : zeroD Tryz.prog 163 = some (.raw .nilFunc) := by kernel_rfl
@[simp] theorem Tryz.ez_164 : esz Tryz.prog 164 = some (1, 8) := by kernel_rfl
@[simp] theorem Tryz.sz_164 : szOf Tryz.prog 164 = some 1 := by kernel_rfl
@[simp] theorem Tryz.tk_164 : tyk Tryz.prog 164 = some (false, 1) := by kernel_rfl
@[simp] theorem Tryz.zd_164 : zeroD Tryz.prog 164 = some (.raw .nilFunc) := by kernel_rfl
@[simp] theorem Tryz.u_165 : Program.underlying Tryz.prog 165 = some (.array 256 4) := by kernel_rfl
@[simp] theorem Tryz.ez_165 : esz Tryz.prog 165 = some (256, 256) := by kernel_rfl
@[simp] theorem Tryz.sz_165 : szOf Tryz.prog 165 = some 256 := by kernel_rfl
@[simp] theorem Tryz.tk_165 : tyk Tryz.prog 165 = some (true, 256) := by kernel_rfl
@[simp] theorem Tryz.ez_168 : esz Tryz.prog 168 = some (1, 8) := by kernel_rfl
@[simp] theorem Tryz.sz_168 : szOf Tryz.prog 168 = some 1 := by kernel_rfl
@[simp] theorem Tryz.tk_168 : tyk Tryz.prog 168 = some (false, 1) := by kernel_rfl
@[simp] theorem Tryz.zd_168 : zeroD Tryz.prog 168 = some (.raw .nilFunc) := by kernel_rfl
@[simp] theorem Tryz.ez_169 : esz Tryz.prog 169 = some (1, 8) := by kernel_rfl
@[simp] theorem Tryz.sz_169 : szOf Tryz.prog 169 = some 1 := by kernel_rfl
@[simp] theorem Tryz.tk_169 : tyk Tryz.prog 169 = some (false, 1) := by kernel_rfl
@[simp] theorem Tryz.zd_169 : zeroD Tryz.prog 169 = some (.raw .nilFunc) := by kernel_rfl
@[simp] theorem Tryz.ez_171 : esz Tryz.prog 171 = some (1, 8) := by kernel_rfl
@[simp] theorem Tryz.sz_171 : szOf Tryz.prog 171 = some 1 := by kernel_rfl
@[simp] theorem Tryz.tk_171 : tyk Tryz.prog 171 = some (false, 1) := by kernel_rfl
@[simp] theorem Tryz.zd_171 : zeroD Tryz.prog 171 = some (.raw .nilFunc) := by kernel_rfl
@[simp] theorem Tryz.ez_172 : esz Tryz.prog 172 = some (1, 8) := by kernel_rfl
@[simp] theorem Tryz.sz_172 : szOf Tryz.prog 172 = some 1 := by kernel_rfl
@[simp] theorem Tryz.tk_172 : tyk Tryz.prog 172 = some (false, 1) := by kernel_rfl
@[simp] theorem Tryz.zd_172 : zeroD Tryz.prog 172 = some (.raw .nilFunc) := by kernel_rfl
@[simp] theorem Tryz.ez_174 : esz Tryz.prog 174 = some (1, 8) := by kernel_rfl
@[simp] theorem Tryz.sz_174 : szOf Tryz.prog 174 = some 1 := by kernel_rfl
@[simp] theorem Tryz.tk_174 : tyk Tryz.prog 174 = some (false, 1) := by kernel_rfl
@[simp] theorem Tryz.zd_174 : zeroD Tryz.prog 174 = some (.raw .nilFunc) := by kernel_rfl
@[simp] theorem Tryz.ez_175 : esz Tryz.prog 175 = some (1, 8) := by kernel_rfl
@[simp] theorem Tryz.sz_175 : szOf Tryz.prog 175 = some 1 := by kernel_rfl
@[simp] theorem Tryz.tk_175 : tyk Tryz.prog 175 = some (false, 1) := by kernel_rfl
@[simp] theorem Tryz.zd_175 : zeroD Tryz.prog 175 = some (.raw .nilFunc) := by kernel_rfl
@[simp] theorem Tryz.ez_176 : esz Tryz.prog 176 = some (1, 8) := by kernel_rfl
@[simp] theorem Tryz.sz_176 : szOf Tryz.prog 176 = some 1 := by kernel_rfl
@[simp] theorem Tryz.tk_176 : tyk Tryz.prog 176 = some (false, 1) := by kernel_rfl
@[simp] theorem Tryz.zd_176 : zeroD Tryz.prog 176 = some (.raw .nilFunc) := by kernel_rfl
@[simp] theorem Tryz.u_177 : Program.underlying Tryz.prog 177 = some (.array 256 5) := by kernel_rfl
@[simp] theorem Tryz.ez_177 : esz Tryz.prog 177 = some (256, 256) := by kernel_rfl
@[simp] theorem Tryz.sz_177 : szOf Tryz.prog 177 = some 256 := by kernel_rfl
@[simp] theorem Tryz.tk_177 : tyk Tryz.prog 177 = some (true, 256) := by kernel_rfl
@[simp] theorem Tryz.ez_178 : esz Tryz.prog 178 = some (2, 2) := by kernel_rfl
@[simp] theorem Tryz.sz_178 : szOf Tryz.prog 178 = some 2 := by kernel_rfl
@[simp] theorem Tryz.tk_178 : tyk Tryz.prog 178 = some (true, 2) := by kernel_rfl
@[simp] theorem Tryz.zd_178 : zeroD Tryz.prog 178 = some (.agg [.int .u8 0, .int .u8 0]) := by kernel_rfl
@[simp] theorem Tryz.sd_178 : structD Tryz.prog 178 = some [.int .u8 0, .int .u8 0] := by kernel_rfl
@[simp] theorem Tryz.fo_178_0 : fieldOff Tryz.prog 178 0 = some 0 := by kernel_rfl
@[simp] theorem Tryz.fo_178_1 : fieldOff Tryz.prog 178 1 = some 1 := by kernel_rfl
@[simp] theorem Tryz.ez_181 : esz Tryz.prog 181 = some (1, 8) := by kernel_rfl
@[simp] theorem Tryz.sz_181 : szOf Tryz.prog 181 = some 1 := by kernel_rfl
@[simp] theorem Tryz.tk_181 : tyk Tryz.prog 181 = some (false, 1) := by kernel_rfl
@[simp] theorem Tryz.zd_181 : zeroD Tryz.prog 181 = some (.raw .nilFunc) := by kernel_rfl
@[simp] theorem Tryz.ez_189 : esz Tryz.prog 189 = some (1, 8) := by kernel_rfl
@[simp] theorem Tryz.sz_189 : szOf Tryz.prog 189 = some 1 := by kernel_rfl
@[simp] theorem Tryz.tk_189 : tyk Tryz.prog 189 = some (false, 1) := by kernel_rfl
@[simp] theorem Tryz.zd_189 : zeroD Tryz.prog 189 = some (.raw .nilFunc) := by kernel_rfl
@[simp] theorem Tryz.eqs_80 : eqsOk Tryz.prog 80 = true := by kernel_rfl
@[simp] theorem Tryz.lf_80 (a0 b0 : Str) (a1 b1 : Str) : leafOk Tryz.prog (Program.fieldsOf Tryz.prog 80).toList 0 [.str a0, .str a1] [.str b0, .str b1] = true := by kernel_rfl
end Go.Proofs

namespace Go.Proofs.Tz
open Go.Vw
set_option maxRecDepth 100000
set_option maxHeartbeats 4000000
set_option linter.unusedSimpArgs false

/-- One round is over: round k + 1 comes, of at most N. -/
def Again (N k : Nat) (I : Nat → St → Prop) (τ : St) : Prop := ∃ m', m' < N - k ∧ ∃ k', k' ≤ N ∧ m' = N - k' ∧ I k' τ
theorem again {N k : Nat} {I : Nat → St → Prop} {τ : St} (hk : k < N) (h : I (k + 1) τ) : Again N k I τ := ⟨N - (k + 1), by omega, k + 1, hk, rfl, h⟩
theorem loopN {body : (Exit → St → Prop) → St → Prop} {Q : Exit → St → Prop} {σ : St} (N : Nat) (I : Nat → St → Prop) (h0 : I 0 σ)
    (hr : ∀ k τ, k ≤ N → I k τ → body (thenV (Again N k I) Q) τ) : LoopK body Q σ :=
  ⟨fun m τ => ∃ k, k ≤ N ∧ m = N - k ∧ I k τ, N, ⟨0, Nat.zero_le _, rfl, h0⟩, by
    rintro m τ ⟨k, hk, rfl, hI⟩
    exact hr k τ hk hI⟩

theorem take_s {α : Type} {l : List α} {k : Nat} (h : k < l.length) : l.take (k + 1) = l.take k ++ [l[k]] := by
  rw [List.take_succ_eq_append_getElem h]

def strs (l : List Str) : D := .sl (l.map .str)
def u8 (c : UInt8) : D := .int .u8 c.toNat

def isLetter (c : UInt8) : Bool := decide (97 ≤ (c.toNat : Int)) && decide ((c.toNat : Int) ≤ 122) || decide (65 ≤ (c.toNat : Int)) && decide ((c.toNat : Int) ≤ 90)
def isDigit (c : UInt8) : Bool := decide (48 ≤ (c.toNat : Int)) && decide ((c.toNat : Int) ≤ 57)

theorem letter_fn (c : UInt8) : Ctr Tryz.prog 100 [.d (u8 c)] (.d (.bool (isLetter c))) := by
  refine fn_of_vwp (fun _ => false) (by kernel_rfl) Tryz.func100 (by kernel_rfl) rfl rfl (Nat.le_of_ble_eq_true rfl) (by kernel_rfl) rfl rfl ?_
  by_cases h1 : 97 ≤ (c.toNat : Int) <;> by_cases h2 : (c.toNat : Int) ≤ 122 <;> by_cases h3 : 65 ≤ (c.toNat : Int) <;> simp -implicitDefEqProofs [u8, isLetter, h1, h2, h3]
theorem digit_fn (c : UInt8) : Ctr Tryz.prog 101 [.d (u8 c)] (.d (.bool (isDigit c))) := by
  refine fn_of_vwp (fun _ => false) (by kernel_rfl) Tryz.func101 (by kernel_rfl) rfl rfl (Nat.le_of_ble_eq_true rfl) (by kernel_rfl) rfl rfl ?_
  by_cases h1 : 48 ≤ (c.toNat : Int) <;> simp [u8, isDigit, h1]
def lowc (c : UInt8) : UInt8 := if 65 ≤ (c.toNat : Int) ∧ (c.toNat : Int) ≤ 90 then c + 32 else c
def lower (s : Str) : Str := s.map lowc
theorem lowc_toNat (c : UInt8) (h1 : 65 ≤ (c.toNat : Int)) (h2 : (c.toNat : Int) ≤ 90) : ((lowc c).toNat : Int) = c.toNat + 97 - 65 := by
  rw [lowc, if_pos ⟨h1, h2⟩, UInt8.toNat_add]
  have : (32 : UInt8).toNat = 32 := rfl
  omega
theorem bytes_u8 (s : Str) : s.map u8 = bytesD s := rfl
theorem lower_len (s : Str) : (lower s).length = s.length := by simp [lower]
theorem lower_take {s : Str} {k : Nat} (h : k < List.length s) : (lower (s.take (k + 1))).map u8 = (lower (s.take k)).map u8 ++ [u8 (lowc s[k])] := by
  rw [take_s h]; simp only [lower, List.map_append, List.map_cons, List.map_nil]
theorem lower_fn (s : Str) (hs : List.length s < 1000000) : Ctr Tryz.prog 59 [.d (.str s)] (.d (.str (lower s))) := by
  refine fn_of_vwp (fun i => decide (i < 1000000)) (by kernel_rfl) Tryz.func59 (by kernel_rfl) rfl rfl (Nat.le_of_ble_eq_true rfl) (by kernel_rfl) rfl rfl ?_
  simp -implicitDefEqProofs
  refine loopN (List.length s) (fun k τ => τ 0 = .d (.str s) ∧ τ 4 = .d (.int .i64 k) ∧ τ 3 = .own true 5 ((lower (s.take k)).map u8)) (by simp [lower]) ?_
  rintro k τ hk ⟨h0, h4, h3⟩
  by_cases hlt : k < List.length s
  · by_cases h1 : 65 ≤ (s[k].toNat : Int)
    · by_cases h2 : (s[k].toNat : Int) ≤ 90
      · simp -implicitDefEqProofs [h0, h3, h4, hlt, h1, h2, lower_len]
        refine ⟨by omega, by omega, by omega, by omega, again hlt ⟨by simp [h0], by simp, ?_⟩⟩
        simp -implicitDefEqProofs [lower_take hlt, u8, lowc_toNat _ h1 h2]
      · simp -implicitDefEqProofs [h0, h3, h4, hlt, h1, h2, lower_len]
        refine ⟨by omega, by omega, again hlt ⟨by simp [h0], by simp, ?_⟩⟩
        simp -implicitDefEqProofs [lower_take hlt, u8, lowc, h2]
    · simp -implicitDefEqProofs [h0, h3, h4, hlt, h1, lower_len]
      refine ⟨by omega, by omega, again hlt ⟨by simp [h0], by simp, ?_⟩⟩
      simp -implicitDefEqProofs [lower_take hlt, u8, lowc, h1]
  · simp -implicitDefEqProofs [h0, h3, h4, hlt, bytes_u8]
    rw [List.take_of_length_le (by omega)]

def nameC (c : UInt8) : Bool := isLetter c || isDigit c || decide ((c.toNat : Int) = 45)
def nameB (s : Str) : Bool := decide (1 ≤ s.length) && decide (s.length ≤ 64) && (s.head?.any isLetter) && s.all nameC
def cleanC (c : UInt8) : Bool := decide (32 ≤ (c.toNat : Int)) && decide ((c.toNat : Int) ≤ 126)
def cleanB (s : Str) : Bool := decide (1 ≤ s.length) && decide (s.length ≤ 256) && s.head? != some 32 && s.getLast? != some 32 && s.all cleanC

theorem all_take {s : Str} {p : UInt8 → Bool} {k : Nat} (h : k < List.length s) (ha : ∀ x ∈ s.take k, p x = true) (hp : p s[k] = true) : ∀ x ∈ s.take (k + 1), p x = true := by
  rw [take_s h]
  intro x hx
  rcases List.mem_append.1 hx with hx | hx
  · exact ha x hx
  · rw [List.mem_singleton.1 hx]; exact hp
theorem all_not {s : Str} {p : UInt8 → Bool} {k : Nat} (h : k < List.length s) (hp : p s[k] = false) : s.all p = false := by
  rw [List.all_eq_false]; exact ⟨_, List.getElem_mem h, by simp [hp]⟩

theorem name_fn (s : Str) : Ctr Tryz.prog 76 [.d (.str s)] (.d (.bool (nameB s))) := by
  refine fn_of_vwp (fun _ => false) (by kernel_rfl) Tryz.func76 (by kernel_rfl) rfl rfl (Nat.le_of_ble_eq_true rfl) (by kernel_rfl) rfl rfl ?_
  by_cases hs : s = []
  · simp -implicitDefEqProofs [nameB, hs]
  obtain ⟨c, t, hct⟩ : ∃ c t, s = c :: t := List.exists_cons_of_ne_nil hs
  have hpos : 0 < List.length s := by rw [hct]; simp
  have h1 : ¬ ((List.length s : Int) < 1) := by omega
  have hc0 : s[0] = c := by simp [hct]
  have hh : s.head? = some c := by simp [hct]
  by_cases h2 : 64 < (List.length s : Int)
  · have : ¬ List.length s ≤ 64 := by omega
    simp -implicitDefEqProofs [nameB, h1, h2, this]
  have h2' : List.length s ≤ 64 := by omega
  have h1' : 1 ≤ List.length s := hpos
  simp -implicitDefEqProofs [h1, h2, hpos, hc0]
  refine callK (letter_fn c) ?_
  by_cases hc : isLetter c = true
  · simp -implicitDefEqProofs [hc]
    refine loopN (List.length s) (fun k τ => τ 0 = .d (.str s) ∧ τ 3 = .d (.int .i64 k) ∧ ∀ x ∈ s.take k, nameC x = true) (by simp) ?_
    rintro k τ hk ⟨h0, h3, ha⟩
    by_cases hlt : k < List.length s
    · simp -implicitDefEqProofs [h0, h3, hlt]
      refine callK (letter_fn s[k]) ?_
      by_cases e1 : isLetter s[k] = true
      · simp -implicitDefEqProofs [e1, h0, h3, hlt]
        refine ⟨by omega, again hlt ⟨by simp [h0], by simp, ?_⟩⟩
        exact all_take hlt ha (by simp [nameC, e1])
      · simp -implicitDefEqProofs [e1, h0, h3, hlt]
        refine callK (digit_fn s[k]) ?_
        by_cases e2 : isDigit s[k] = true
        · simp -implicitDefEqProofs [e2, h0, h3, hlt]
          refine ⟨by omega, again hlt ⟨by simp [h0], by simp, ?_⟩⟩
          exact all_take hlt ha (by simp [nameC, e2])
        · by_cases e3 : (s[k].toNat : Int) = 45
          · simp -implicitDefEqProofs [e2, e3, h0, h3, hlt]
            refine ⟨by omega, again hlt ⟨by simp [h0], by simp, ?_⟩⟩
            exact all_take hlt ha (by simp [nameC, e3])
          · simp -implicitDefEqProofs [e2, e3, h0, h3, hlt]
            simp -implicitDefEqProofs [nameB, all_not hlt (show nameC s[k] = false by simp [nameC, e1, e2, e3])]
    · simp -implicitDefEqProofs [h0, h3, hlt]
      rw [List.take_of_length_le (by omega)] at ha
      simp -implicitDefEqProofs [nameB, h1', h2', hh, hc]
      exact ha
  · simp -implicitDefEqProofs [hc, nameB, hh]
end Go.Proofs.Tz

/- The order of strings. -/
namespace Go.Proofs.Tz
open Go.Vw Go.Lib
set_option linter.unusedSimpArgs false

theorem bl (x y : Str) : Op.bytesLess x y = decide (x < y) := bytesLess_eq x y
theorem bl_t {x y : Str} : Op.bytesLess x y = true ↔ x < y := by rw [bl]; simp
theorem bl_f {x y : Str} : Op.bytesLess x y = false ↔ ¬ x < y := by rw [bl]; simp
theorem s_irr (x : Str) : ¬ x < x := List.lt_irrefl x
theorem s_trans {x y z : Str} (h1 : x < y) (h2 : y < z) : x < z := List.lt_trans h1 h2
theorem s_tri {x y : Str} (h1 : ¬ x < y) (h2 : ¬ y < x) : x = y := List.le_antisymm (List.not_lt.1 h2) (List.not_lt.1 h1)
end Go.Proofs.Tz

namespace Go.Proofs.Tz
open Go.Vw
set_option maxRecDepth 100000
set_option maxHeartbeats 4000000
set_option linter.unusedSimpArgs false

theorem clean_fn (s : Str) : Ctr Tryz.prog 77 [.d (.str s)] (.d (.bool (cleanB s))) := by
  refine fn_of_vwp (fun _ => false) (by kernel_rfl) Tryz.func77 (by kernel_rfl) rfl rfl (Nat.le_of_ble_eq_true rfl) (by kernel_rfl) rfl rfl ?_
  by_cases hs : s = []
  · simp -implicitDefEqProofs [cleanB, hs]
  have hpos : 0 < List.length s := by
    cases s with
    | nil => exact absurd rfl hs
    | cons => simp
  have h1 : ¬ ((List.length s : Int) < 1) := by omega
  have hh : s.head? = some s[0] := by simp [List.head?_eq_getElem?, hpos]
  have hl : s.getLast? = some s[List.length s - 1] := by rw [List.getLast?_eq_getElem?, List.getElem?_eq_getElem (by omega)]
  have hi : 0 ≤ (List.length s : Int) - 1 := by omega
  have hi2 : ((List.length s : Int) - 1).toNat = List.length s - 1 := by omega
  have hi3 : List.length s - 1 < List.length s := by omega
  have hi4 : -9223372036854775808 ≤ (List.length s : Int) - 1 := by omega
  by_cases h2 : 256 < (List.length s : Int)
  · have : ¬ List.length s ≤ 256 := by omega
    simp -implicitDefEqProofs [cleanB, h1, h2, this]
  have h2' : List.length s ≤ 256 := by omega
  have h1' : 1 ≤ List.length s := hpos
  have hi5 : (List.length s : Int) - 1 ≤ 9223372036854775807 := by omega
  by_cases ha : (s[0].toNat : Int) = 32
  · have : s[0] = 32 := by apply UInt8.toNat_inj.1; rw [show (32 : UInt8).toNat = 32 from rfl]; omega
    simp -implicitDefEqProofs [cleanB, h1, h2, hpos, ha, hh, this]
  have ha' : ¬ s[0] = 32 := fun e => ha (by rw [e]; rfl)
  by_cases hb : (s[List.length s - 1].toNat : Int) = 32
  · have : s[List.length s - 1] = 32 := by apply UInt8.toNat_inj.1; rw [show (32 : UInt8).toNat = 32 from rfl]; omega
    simp -implicitDefEqProofs [cleanB, h1, h2, hpos, ha, hh, hl, hb, hi, hi2, hi3, hi4, hi5, this]
    all_goals omega
  have hb' : ¬ s[List.length s - 1] = 32 := fun e => hb (by rw [e]; rfl)
  simp -implicitDefEqProofs [h1, h2, hpos, ha, hb, hi, hi2, hi3, hi4, hi5]
  refine ⟨by omega, ?_⟩
  refine loopN (List.length s) (fun k τ => τ 0 = .d (.str s) ∧ τ 3 = .d (.int .i64 k) ∧ ∀ x ∈ s.take k, cleanC x = true) (by simp) ?_
  rintro k τ hk ⟨h0, h3, hall⟩
  by_cases hlt : k < List.length s
  · by_cases e1 : (s[k].toNat : Int) < 32
    · have e1' : ¬ 32 ≤ (s[k].toNat : Int) := by omega
      simp -implicitDefEqProofs [h0, h3, hlt, e1]
      simp -implicitDefEqProofs [cleanB, all_not hlt (show cleanC s[k] = false by simp [cleanC, e1'])]
    · by_cases e2 : 126 < (s[k].toNat : Int)
      · have e2' : ¬ (s[k].toNat : Int) ≤ 126 := by omega
        simp -implicitDefEqProofs [h0, h3, hlt, e1, e2]
        simp -implicitDefEqProofs [cleanB, all_not hlt (show cleanC s[k] = false by simp [cleanC, e2'])]
      · have e1' : 32 ≤ (s[k].toNat : Int) := by omega
        have e2' : (s[k].toNat : Int) ≤ 126 := by omega
        simp -implicitDefEqProofs [h0, h3, hlt, e1, e2]
        refine ⟨by omega, again hlt ⟨by simp [h0], by simp, ?_⟩⟩
        exact all_take hlt hall (by simp [cleanC, e1', e2'])
  · simp -implicitDefEqProofs [h0, h3, hlt]
    rw [List.take_of_length_le (by omega)] at hall
    simp -implicitDefEqProofs [cleanB, h1', h2', hh, hl, ha', hb']
    exact hall

theorem same_fn (l m : List Str) (hl : l.length < 1000000) (hm : m.length < 1000000) : Ctr Tryz.prog 47 [.d (strs l), .d (strs m)] (.d (.bool (decide (l = m)))) := by
  refine fn_of_vwp (fun _ => false) (by kernel_rfl) Tryz.func47 (by kernel_rfl) rfl rfl (Nat.le_of_ble_eq_true rfl) (by kernel_rfl) rfl rfl ?_
  by_cases hlm : l.length = m.length
  · simp -implicitDefEqProofs [strs, hlm]
    refine loopN m.length (fun k τ => τ 0 = .d (strs l) ∧ τ 1 = .d (strs m) ∧ τ 5 = .d (.int .i64 k) ∧ l.take k = m.take k) (by simp [strs]) ?_
    rintro k τ hk ⟨h0, h1, h5, ht⟩
    by_cases hlt : k < m.length
    · have hlt' : k < l.length := by omega
      by_cases he : l[k] = m[k]
      · simp -implicitDefEqProofs [h0, h1, h5, strs, hlm, hlt, hlt', he]
        refine ⟨by omega, again hlt ⟨by simp [h0, strs], by simp [h1, strs], by simp, ?_⟩⟩
        rw [take_s hlt, take_s hlt', ht, he]
      · simp -implicitDefEqProofs [h0, h1, h5, strs, hlm, hlt, hlt', he]
        rintro rfl
        exact he rfl
    · simp -implicitDefEqProofs [h0, h1, h5, strs, hlm, hlt]
      rw [List.take_of_length_le (by omega), List.take_of_length_le (by omega)] at ht
      first | exact ⟨by omega, ht⟩ | exact ht
  · have hlm' : ¬ (l.length : Int) = m.length := by omega
    simp -implicitDefEqProofs [strs, hlm']
    rintro rfl
    exact hlm rfl
end Go.Proofs.Tz

namespace Go.Proofs.Tz
open Go.Vw
set_option maxRecDepth 100000
set_option maxHeartbeats 4000000
set_option linter.unusedSimpArgs false

/-- One step of Insert. -/
def insS (s : Str) (r : Bool × List Str) (x : Str) : Bool × List Str :=
  (r.1 || !Op.bytesLess x s, r.2 ++ (if r.1 = false ∧ Op.bytesLess x s = false then [s] else []) ++ (if x = s then [] else [x]))
def insF (s : Str) (l : List Str) : Bool × List Str := l.foldl (insS s) (false, [])
def ins (l : List Str) (s : Str) : List Str := (insF s l).2 ++ (if (insF s l).1 then [] else [s])

theorem insF_take {s : Str} {l : List Str} {k : Nat} (h : k < l.length) : insF s (l.take (k + 1)) = insS s (insF s (l.take k)) l[k] := by
  rw [take_s h]; simp only [insF, List.foldl_append, List.foldl_cons, List.foldl_nil]
theorem insF_len (s : Str) : ∀ (l : List Str) (r : Bool × List Str), (l.foldl (insS s) r).2.length ≤ r.2.length + 2 * l.length
  | [], r => by simp
  | x :: l, r => by
    have := insF_len s l (insS s r x)
    simp only [List.foldl_cons, List.length_cons]
    have h2 : (insS s r x).2.length ≤ r.2.length + 2 := by
      simp only [insS, List.length_append]
      split <;> split <;> simp <;> omega
    all_goals omega
theorem insF_len' (s : Str) (l : List Str) : (insF s l).2.length ≤ 2 * l.length := by simpa [insF] using insF_len s l (false, [])

theorem ins_fn (l : List Str) (s : Str) (hl : l.length < 1000000) : Ctr Tryz.prog 58 [.d (strs l), .d (.str s)] (.own true 9 ((ins l s).map .str)) := by
  refine fn_of_vwp (fun i => decide (i < 1000000)) (by kernel_rfl) Tryz.func58 (by kernel_rfl) rfl rfl (Nat.le_of_ble_eq_true rfl) (by kernel_rfl) rfl rfl ?_
  simp -implicitDefEqProofs
  refine loopN l.length (fun k τ => τ 0 = .d (strs l) ∧ τ 1 = .d (.str s) ∧ τ 6 = .d (.bool (insF s (l.take k)).1) ∧ τ 5 = .own true 9 ((insF s (l.take k)).2.map .str) ∧ τ 7 = .d (.int .i64 k)) (by simp [insF]) ?_
  rintro k τ hk ⟨h0, h1, h6, h5, h7⟩
  have hlen := insF_len' s (l.take k)
  rw [List.length_take, Nat.min_eq_left hk] at hlen
  have ht := fun h => insF_take (s := s) (l := l) (k := k) h
  generalize hr : insF s (l.take k) = r at *
  obtain ⟨d, out⟩ := r
  simp only at hlen h6 h5
  by_cases hlt : k < l.length
  · have ht := ht hlt
    cases d with
    | true =>
      by_cases he : l[k] = s
      · simp -implicitDefEqProofs [h0, h1, h6, h5, h7, strs, hlt, he]
        refine ⟨by omega, again hlt ⟨by simp [h0, strs], by simp [h1], ?_, ?_, by simp⟩⟩
        · rw [ht]; simp [h6, insS]
        · rw [ht]; simp [h5, insS, he]
      · simp -implicitDefEqProofs [h0, h1, h6, h5, h7, strs, hlt, he]
        refine ⟨by omega, by omega, by omega, again hlt ⟨by simp [h0, strs], by simp [h1], ?_, ?_, by simp⟩⟩
        · rw [ht]; simp [h6, insS]
        · rw [ht]; simp [h5, insS, he]
    | false =>
      by_cases hb : Op.bytesLess l[k] s = true
      · by_cases he : l[k] = s
        · have hb' : Op.bytesLess s s = true := by rw [he] at hb; exact hb
          simp -implicitDefEqProofs [h0, h1, h6, h5, h7, strs, hlt, he, hb']
          refine ⟨by omega, again hlt ⟨by simp [h0, strs], by simp [h1], ?_, ?_, by simp⟩⟩
          · rw [ht]; simp [h6, insS, he, hb']
          · rw [ht]; simp [h5, insS, he, hb']
        · simp -implicitDefEqProofs [h0, h1, h6, h5, h7, strs, hlt, he, hb]
          refine ⟨by omega, by omega, by omega, again hlt ⟨by simp [h0, strs], by simp [h1], ?_, ?_, by simp⟩⟩
          · rw [ht]; simp [h6, insS, he, hb]
          · rw [ht]; simp [h5, insS, he, hb]
      · by_cases he : l[k] = s
        · have hb' : Op.bytesLess s s = false := by rw [he] at hb; simpa using hb
          simp -implicitDefEqProofs [h0, h1, h6, h5, h7, strs, hlt, he, hb']
          refine ⟨by omega, by omega, by omega, again hlt ⟨by simp [h0, strs], by simp [h1], ?_, ?_, by simp⟩⟩
          · rw [ht]; simp [h6, insS, he, hb']
          · rw [ht]; simp [h5, insS, he, hb']
        · simp -implicitDefEqProofs [h0, h1, h6, h5, h7, strs, hlt, he, hb]
          refine ⟨by omega, by omega, by omega, by omega, by omega, again hlt ⟨by simp [h0, strs], by simp [h1], ?_, ?_, by simp⟩⟩
          · rw [ht]; simp [h6, insS, he, hb]
          · rw [ht]; simp [h5, insS, he, hb]
  · rw [List.take_of_length_le (by omega)] at hr
    cases d with
    | true =>
      simp -implicitDefEqProofs [h0, h1, h6, h5, h7, strs, hlt, ins, hr]
      all_goals omega
    | false =>
      simp -implicitDefEqProofs [h0, h1, h6, h5, h7, strs, hlt, ins, hr]
      all_goals omega
end Go.Proofs.Tz

namespace Go.Proofs.Tz
open Go.Vw
set_option maxRecDepth 100000
set_option maxHeartbeats 4000000
set_option linter.unusedSimpArgs false

abbrev Att := Str × List Str
def att (a : Att) : D := .agg [.str a.1, strs a.2]
def atts (l : List Att) : D := .sl (l.map att)

/-- Every string of a list is short enough for the walk. -/
def Fits (l : List Att) : Prop := l.length < 1000000 ∧ ∀ a ∈ l, List.length a.1 < 1000000 ∧ a.2.length < 1000000

theorem sameA_fn (l m : List Att) (hl : Fits l) (hm : Fits m) : Ctr Tryz.prog 22 [.d (atts l), .d (atts m)] (.d (.bool (decide (l = m)))) := by
  refine fn_of_vwp (fun _ => false) (by kernel_rfl) Tryz.func22 (by kernel_rfl) rfl rfl (Nat.le_of_ble_eq_true rfl) (by kernel_rfl) rfl rfl ?_
  have hl1 := hl.1
  have hm1 := hm.1
  by_cases hlm : l.length = m.length
  · simp -implicitDefEqProofs [atts, hlm]
    refine loopN m.length (fun k τ => τ 0 = .d (atts l) ∧ τ 1 = .d (atts m) ∧ τ 5 = .d (.int .i64 k) ∧ l.take k = m.take k) (by simp [atts]) ?_
    rintro k τ hk ⟨h0, h1, h5, ht⟩
    by_cases hlt : k < m.length
    · have hlt' : k < l.length := by omega
      by_cases he : l[k].1 = m[k].1
      · simp -implicitDefEqProofs [h0, h1, h5, atts, att, strs, hlm, hlt, hlt', he]
        refine callP (same_fn _ _ (hl.2 _ (List.getElem_mem hlt')).2 (hm.2 _ (List.getElem_mem hlt)).2) ?_
        by_cases he2 : l[k].2 = m[k].2
        · simp -implicitDefEqProofs [h0, h1, h5, atts, att, strs, hlm, hlt, hlt', he, he2]
          refine ⟨by omega, again hlt ⟨by simp [h0, atts, att, strs], by simp [h1, atts, att, strs], by simp, ?_⟩⟩
          rw [take_s hlt, take_s hlt', ht, Prod.ext he he2]
        · simp -implicitDefEqProofs [h0, h1, h5, atts, att, strs, hlm, hlt, hlt', he, he2]
          rintro rfl
          exact he2 rfl
      · simp -implicitDefEqProofs [h0, h1, h5, atts, att, strs, hlm, hlt, hlt', he]
        rintro rfl
        exact he rfl
    · simp -implicitDefEqProofs [h0, h1, h5, atts, hlm, hlt]
      rw [List.take_of_length_le (by omega), List.take_of_length_le (by omega)] at ht
      first | exact ⟨by omega, ht⟩ | exact ht
  · have hlm' : ¬ (l.length : Int) = m.length := by omega
    simp -implicitDefEqProofs [atts, hlm']
    rintro rfl
    exact hlm rfl

end Go.Proofs.Tz

namespace Go.Proofs.Tz
open Go.Vw
set_option maxRecDepth 100000
set_option maxHeartbeats 4000000
set_option linter.unusedSimpArgs false

theorem insF_len2 (s : Str) : ∀ (l : List Str) (r : Bool × List Str) (c : Nat), r.2.length ≤ c + r.1.toNat → (l.foldl (insS s) r).2.length ≤ c + l.length + (l.foldl (insS s) r).1.toNat
  | [], _, _, h => h
  | x :: l, (d, out), c, h => by
    have h2 : (insS s (d, out) x).2.length ≤ (c + 1) + (insS s (d, out) x).1.toNat := by
      simp only at h
      cases d <;> by_cases hb : Op.bytesLess x s = true <;> by_cases he : x = s <;> simp [insS, hb, he] at h ⊢ <;> first
        | omega
        | (split <;> simp <;> omega)
    have := insF_len2 s l (insS s (d, out) x) (c + 1) h2
    simp only [List.foldl_cons, List.length_cons]; omega
theorem ins_len (l : List Str) (s : Str) : (ins l s).length ≤ l.length + 1 := by
  have : (insF s l).2.length ≤ 0 + l.length + (insF s l).1.toNat := insF_len2 s l (false, []) 0 (by simp)
  simp only [ins, List.length_append]
  cases h : (insF s l).1 <;> simp [h] at this ⊢ <;> omega

def namesS (ns : List Str) (a : Att) : List Str := if a.2 = [] then ns else ins ns (lower a.1)
def namesF (l : List Att) : List Str := l.foldl namesS []
def valsS (n : Str) (vs : List Str) (a : Att) : List Str := if lower a.1 = n then a.2.foldl ins vs else vs
def valsF (l : List Att) (n : Str) : List Str := l.foldl (valsS n) []
def sortedL (l : List Att) : List Att := (namesF l).map fun n => (n, valsF l n)

theorem namesF_take {l : List Att} {k : Nat} (h : k < l.length) : namesF (l.take (k + 1)) = namesS (namesF (l.take k)) l[k] := by
  rw [take_s h]; simp only [namesF, List.foldl_append, List.foldl_cons, List.foldl_nil]
theorem valsF_take {l : List Att} {n : Str} {k : Nat} (h : k < l.length) : valsF (l.take (k + 1)) n = valsS n (valsF (l.take k) n) l[k] := by
  rw [take_s h]; simp only [valsF, List.foldl_append, List.foldl_cons, List.foldl_nil]
theorem names_len : ∀ (l : List Att) (ns : List Str), (l.foldl namesS ns).length ≤ ns.length + l.length
  | [], ns => by simp
  | a :: l, ns => by
    have := names_len l (namesS ns a)
    have h2 : (namesS ns a).length ≤ ns.length + 1 := by
      unfold namesS; split
      · omega
      · exact ins_len _ _
    simp only [List.foldl_cons, List.length_cons]; omega
theorem insAll_len : ∀ (l ns : List Str), (l.foldl ins ns).length ≤ ns.length + l.length
  | [], ns => by simp
  | a :: l, ns => by
    have := insAll_len l (ins ns a)
    have := ins_len ns a
    simp only [List.foldl_cons, List.length_cons]; omega
def total (l : List Att) : Nat := (l.map (·.2.length)).sum
theorem vals_len (n : Str) : ∀ (l : List Att) (vs : List Str), (l.foldl (valsS n) vs).length ≤ vs.length + total l
  | [], vs => by simp [total]
  | a :: l, vs => by
    have := vals_len n l (valsS n vs a)
    have h2 : (valsS n vs a).length ≤ vs.length + a.2.length := by
      unfold valsS; split
      · exact insAll_len _ _
      · omega
    simp only [List.foldl_cons, total, List.map_cons, List.sum_cons] at this ⊢
    all_goals omega
def Fit2 (l : List Att) : Prop := Fits l ∧ total l < 500000
theorem total_take (l : List Att) (k : Nat) (h : k < l.length) : total (l.take k) + l[k].2.length ≤ total l := by
  have e : total l = total (l.take k) + (l[k].2.length + total (l.drop (k + 1))) := by
    conv => lhs; rw [← List.take_append_drop k l, List.drop_eq_getElem_cons h]
    simp only [total, List.map_append, List.map_cons, List.sum_append, List.sum_cons]
  all_goals omega

def outA (l : List Att) (ns : List Str) (i : Nat) : List D := ((ns.take i).map fun n => (n, valsF l n)).map att
theorem outA_zero (l : List Att) (ns : List Str) : outA l ns 0 = [] := rfl
theorem outA_succ (l : List Att) {ns : List Str} {i : Nat} (h : i < ns.length) : outA l ns (i + 1) = outA l ns i ++ [.agg [.str ns[i], strs (valsF l ns[i])]] := by
  rw [outA, take_s h]; simp only [List.map_append, List.map_cons, List.map_nil]; rfl
theorem outA_len (l : List Att) {ns : List Str} {i : Nat} (h : i ≤ ns.length) : (outA l ns i).length = i := by simp [outA, Nat.min_eq_left h]
theorem outA_all (l : List Att) (i : Nat) (h : (namesF l).length ≤ i) : outA l (namesF l) i = (sortedL l).map att := by rw [outA, List.take_of_length_le h]; rfl
theorem outA_width (l : List Att) (ns : List Str) (i : Nat) : ∀ u ∈ outA l ns i, width u = 2 := by
  intro u hu
  simp only [outA, List.map_map, List.mem_map] at hu
  obtain ⟨n, _, rfl⟩ := hu
  rfl

theorem sortedR_fn (l : List Att) (hl : Fit2 l) : Ctr Tryz.prog 23 [.d (atts l)] (.own true 64 ((sortedL l).map att)) := by
  refine fn_of_vwp (fun i => i == 5) (by kernel_rfl) Tryz.func23 (by kernel_rfl) rfl rfl (Nat.le_of_ble_eq_true rfl) (by kernel_rfl) rfl rfl ?_
  obtain ⟨⟨hl1, hl2⟩, hl3⟩ := hl
  simp -implicitDefEqProofs
  refine loopN l.length (fun k τ => τ 0 = .d (atts l) ∧ τ 4 = .d (.int .i64 k) ∧ τ 3 = .own false 9 ((namesF (l.take k)).map .str)) (by simp [namesF]) ?_
  rintro k τ hk ⟨h0, h4, h3⟩
  by_cases hlt : k < l.length
  · have hn := names_len (l.take k) []
    rw [List.length_take] at hn
    by_cases he : l[k].2 = []
    · simp -implicitDefEqProofs [h0, h4, h3, hlt, atts, att, strs, he]
      refine ⟨by omega, again hlt ⟨by simp [h0, atts, att, strs], by simp, ?_⟩⟩
      rw [namesF_take hlt]; simp [h3, namesS, he]
    · have he' : 0 < l[k].2.length := List.length_pos_iff.2 he
      simp -implicitDefEqProofs [h0, h4, h3, hlt, atts, att, strs, he']
      refine callK (lower_fn _ (hl2 _ (List.getElem_mem hlt)).1) ?_
      simp -implicitDefEqProofs [h0, h4, h3, hlt, atts, att, strs, he']
      have hf := ins_fn (namesF (l.take k)) (lower l[k].1) (by simp only [List.length_nil] at hn; unfold namesF; omega)
      simp only [strs] at hf
      refine callK hf ?_
      simp -implicitDefEqProofs [h0, h4, h3, hlt, atts, att, strs, he']
      refine ⟨by omega, again hlt ⟨by simp [h0, atts, att, strs], by simp, ?_⟩⟩
      rw [namesF_take hlt]; simp [namesS, he]
  · simp -implicitDefEqProofs [h0, h4, h3, hlt, atts]
    rw [List.take_of_length_le (by omega)] at h3
    have hn := names_len l []
    generalize hN : namesF l = ns at *
    rw [show List.foldl namesS [] l = namesF l from rfl, hN] at hn
    simp only [List.length_nil, Nat.zero_add] at hn
    refine loopN ns.length (fun i τ => τ 0 = .d (atts l) ∧ τ 3 = .own false 9 (ns.map .str) ∧ τ 6 = .d (.int .i64 i) ∧ τ 5 = .own true 64 (outA l ns i)) (by simp [h0, h3, hN, atts, outA_zero]) ?_
    clear h0 h3 h4 τ
    rintro i τ hi ⟨h0, h3, h6, h5⟩
    by_cases hlt2 : i < ns.length
    · simp -implicitDefEqProofs [h0, h3, h5, h6, hlt2, atts, att, strs]
      refine loopN l.length (fun k τ => τ 0 = .d (atts l) ∧ τ 3 = .own false 9 (ns.map .str) ∧ τ 6 = .d (.int .i64 i) ∧ τ 5 = .own true 64 (outA l ns i) ∧ τ 8 = .d (.int .i64 k) ∧ τ 7 = .box (.agg [.str ns[i], strs (valsF (l.take k) ns[i])])) (by simp [h0, h3, h5, h6, hN, atts, att, strs, valsF]) ?_
      clear h0 h3 h6 h5 τ hk hlt k
      rintro k τ hk ⟨h0, h3, h6, h5, h8, h7⟩
      by_cases hlt : k < l.length
      · have hv := vals_len ns[i] (l.take k) []
        have ht := total_take l k hlt
        rw [show (l.take k).foldl (valsS ns[i]) [] = valsF (l.take k) ns[i] from rfl] at hv
        have hst := valsF_take (n := ns[i]) hlt
        generalize valsF (l.take k) ns[i] = vs at *
        simp -implicitDefEqProofs [h0, h3, h5, h6, h7, h8, hlt, hlt2, atts, att, strs]
        refine loopN l[k].2.length (fun j τ => τ 0 = .d (atts l) ∧ τ 3 = .own false 9 (ns.map .str) ∧ τ 6 = .d (.int .i64 i) ∧ τ 5 = .own true 64 (outA l ns i) ∧ τ 8 = .d (.int .i64 k) ∧ τ 9 = .d (.int .i64 j) ∧ τ 7 = .box (.agg [.str ns[i], strs (if lower l[k].1 = ns[i] then (l[k].2.take j).foldl ins vs else vs)])) (by simp [h0, h3, h5, h6, h7, h8, atts, att, strs]) ?_
        clear h0 h3 h6 h5 h8 h7 τ
        rintro j τ hj ⟨h0, h3, h6, h5, h8, h9, h7⟩
        have hal := (hl2 _ (List.getElem_mem hlt))
        by_cases hn : lower l[k].1 = ns[i]
        · rw [if_pos hn] at h7
          by_cases hlt3 : j < l[k].2.length
          · simp -implicitDefEqProofs [h0, h3, h5, h6, h7, h8, h9, hlt, hlt2, hlt3, atts, att, strs]
            refine callP (lower_fn _ hal.1) ?_
            simp -implicitDefEqProofs [h0, h3, h5, h6, h7, h8, h9, hlt, hlt2, hlt3, atts, att, strs, hn]
            have hal2 := insAll_len (l[k].2.take j) vs
            have hf := ins_fn ((l[k].2.take j).foldl ins vs) l[k].2[j] (by simp only [List.length_take, List.length_nil] at hal2 hv; omega)
            simp only [strs] at hf
            refine callP hf ?_
            simp -implicitDefEqProofs [h0, h3, h5, h6, h7, h8, h9, hlt, hlt2, hlt3, atts, att, strs, hn]
            refine ⟨by omega, again hlt3 ⟨by simp [h0, atts, att, strs], by simp [h3], by simp [h6], by simp [h5], by simp [h8], by simp, ?_⟩⟩
            rw [take_s hlt3, List.foldl_append]
            simp -implicitDefEqProofs [strs]
          · simp -implicitDefEqProofs [h0, h3, h5, h6, h7, h8, h9, hlt, hlt2, hlt3, atts, att, strs]
            refine callP (lower_fn _ hal.1) ?_
            simp -implicitDefEqProofs [h0, h3, h5, h6, h7, h8, h9, hlt, hlt2, hlt3, atts, att, strs, hn]
            refine ⟨by omega, again hlt ⟨by simp [h0, atts, att, strs], by simp [h3], by simp [h6], by simp [h5], by simp, ?_⟩⟩
            rw [hst, valsS, if_pos hn]
            rw [List.take_of_length_le (by omega)] at h7
            simp -implicitDefEqProofs [h7, strs]
        · rw [if_neg hn] at h7
          simp -implicitDefEqProofs [h0, h3, h5, h6, h7, h8, h9, hlt, hlt2, atts, att, strs]
          refine callP (lower_fn _ hal.1) ?_
          simp (config := { maxSteps := 1000000 }) [h0, h3, h5, h6, h7, h8, h9, hlt, hlt2, atts, att, strs, hn]
          refine ⟨by omega, again hlt ⟨by simp [h0, atts, att, strs], by simp [h3], by simp [h6], by simp [h5], by simp, ?_⟩⟩
          rw [hst, valsS, if_neg hn]
          simp -implicitDefEqProofs [h7, strs]
      · have hw := outA_width l ns i
        rw [List.take_of_length_le (by omega)] at h7
        simp -implicitDefEqProofs [h0, h3, h5, h6, h7, h8, hlt, hlt2, atts, att, strs]
        rw [outA_len l hi]
        refine ⟨by omega, by omega, by omega, again hlt2 ⟨by simp [h0, atts, att, strs], by simp [h3], by simp, ?_⟩⟩
        simp -implicitDefEqProofs [outA_succ l hlt2, strs]
    · simp -implicitDefEqProofs [h0, h3, h5, h6, hlt2, atts, att, strs]
      rw [← hN]; exact outA_all l i (by rw [hN]; omega)
end Go.Proofs.Tz

namespace Go.Proofs.Tz
open Go.Vw
set_option maxRecDepth 100000
set_option maxHeartbeats 4000000
set_option linter.unusedSimpArgs false

theorem upper_fn (c : UInt8) : Ctr Tryz.prog 109 [.d (u8 c)] (.d (.bool (decide (65 ≤ (c.toNat : Int)) && decide ((c.toNat : Int) ≤ 90)))) := by
  refine fn_of_vwp (fun _ => false) (by kernel_rfl) Tryz.func109 (by kernel_rfl) rfl rfl (Nat.le_of_ble_eq_true rfl) (by kernel_rfl) rfl rfl ?_
  by_cases h1 : 65 ≤ (c.toNat : Int) <;> simp [u8, h1]
theorem fletter_fn (c : UInt8) : Ctr Tryz.prog 158 [.d (u8 c)] (.d (.bool (isLetter c))) := by
  refine fn_of_vwp (fun _ => false) (by kernel_rfl) Tryz.func158 (by kernel_rfl) rfl rfl (Nat.le_of_ble_eq_true rfl) (by kernel_rfl) rfl rfl ?_
  simp -implicitDefEqProofs
  refine callK (upper_fn c) ?_
  by_cases h1 : 97 ≤ (c.toNat : Int) <;> by_cases h2 : (c.toNat : Int) ≤ 122 <;> by_cases h3 : 65 ≤ (c.toNat : Int) <;> by_cases h4 : (c.toNat : Int) ≤ 90 <;> simp -implicitDefEqProofs [u8, isLetter, h1, h2, h3, h4]
theorem fdigit_fn (c : UInt8) : Ctr Tryz.prog 159 [.d (u8 c)] (.d (.bool (isDigit c))) := by
  refine fn_of_vwp (fun _ => false) (by kernel_rfl) Tryz.func159 (by kernel_rfl) rfl rfl (Nat.le_of_ble_eq_true rfl) (by kernel_rfl) rfl rfl ?_
  by_cases h1 : 48 ≤ (c.toNat : Int) <;> simp [u8, isDigit, h1]
theorem allowed_fn (c : UInt8) : Ctr Tryz.prog 157 [.d (u8 c)] (.d (.bool (nameC c))) := by
  refine fn_of_vwp (fun _ => false) (by kernel_rfl) Tryz.func157 (by kernel_rfl) rfl rfl (Nat.le_of_ble_eq_true rfl) (by kernel_rfl) rfl rfl ?_
  simp -implicitDefEqProofs [u8]
  refine callK (fletter_fn c) ?_
  by_cases h1 : isLetter c = true
  · simp -implicitDefEqProofs [h1, nameC]
  · simp -implicitDefEqProofs [h1]
    refine callK (fdigit_fn c) ?_
    by_cases h2 : isDigit c = true <;> by_cases h3 : (c.toNat : Int) = 45 <;> simp [h1, h2, h3, nameC]
end Go.Proofs.Tz

namespace Go.Proofs.Tz
open Go.Vw
set_option maxRecDepth 100000
set_option maxHeartbeats 4000000
set_option linter.unusedSimpArgs false

theorem sorted_len (l : List Att) : (sortedL l).length ≤ l.length := by
  have := names_len l []
  simp only [List.length_nil, Nat.zero_add] at this
  simpa [sortedL, namesF] using this
theorem made_fn (s : Str) (hs : List.length s < 1000000) : Ctr Tryz.prog 156 [.d (.str s), .d (.clo 157 [])] (.d (.bool (s.all nameC && decide (s ≠ []) && decide (s.length ≤ 64)))) := by
  refine fn_of_vwp (fun _ => false) (by kernel_rfl) Tryz.func156 (by kernel_rfl) rfl rfl (Nat.le_of_ble_eq_true rfl) (by kernel_rfl) rfl rfl ?_
  simp -implicitDefEqProofs
  refine loopN (List.length s) (fun k τ => τ 0 = .d (.str s) ∧ τ 1 = .d (.clo 157 []) ∧ τ 7 = .d (.int .i64 (List.length s)) ∧ τ 8 = .d (.int .i64 k) ∧ ∀ x ∈ s.take k, nameC x = true) (by simp) ?_
  rintro k τ hk ⟨h0, h1, h7, h8, ha⟩
  by_cases hlt : k < List.length s
  · simp -implicitDefEqProofs [h0, h1, h7, h8, hlt]
    refine callK (allowed_fn s[k]) ?_
    by_cases e1 : nameC s[k] = true
    · simp -implicitDefEqProofs [h0, h1, h7, h8, hlt, e1]
      exact ⟨by omega, again hlt ⟨by simp [h0], by simp [h1], by simp [h7], by simp, all_take hlt ha e1⟩⟩
    · simp -implicitDefEqProofs [h0, h1, h7, h8, hlt, e1]
      intro h
      exact absurd (h _ (List.getElem_mem hlt)) e1
  · rw [List.take_of_length_le (by omega)] at ha
    have hall : List.all s nameC = true := by simpa using ha
    by_cases e2 : s = []
    · simp -implicitDefEqProofs [h0, h1, h7, h8, hlt, e2]
    · simp -implicitDefEqProofs [h0, h1, h7, h8, hlt, e2, hall]
      all_goals omega

theorem fname_fn (s : Str) (hs : List.length s < 1000000) : Ctr Tryz.prog 127 [.d (.str s)] (.d (.bool (nameB s))) := by
  refine fn_of_vwp (fun _ => false) (by kernel_rfl) Tryz.func127 (by kernel_rfl) rfl rfl (Nat.le_of_ble_eq_true rfl) (by kernel_rfl) rfl rfl ?_
  simp -implicitDefEqProofs
  refine callK (made_fn s hs) ?_
  by_cases e : (s.all nameC && decide (s ≠ []) && decide (s.length ≤ 64)) = true
  · have e0 := e
    simp only [Bool.and_eq_true, decide_eq_true_eq] at e
    obtain ⟨⟨e1, e2⟩, e3⟩ := e
    obtain ⟨c, t, rfl⟩ := List.exists_cons_of_ne_nil e2
    simp only [e0]
    simp -implicitDefEqProofs
    refine callK (fletter_fn c) ?_
    have e4 : (List.length (c :: t)) ≤ 64 := e3
    simp -implicitDefEqProofs [nameB, e1, e4]
    intro _
    simpa using e4
  · rw [Bool.not_eq_true] at e
    simp only [e]
    simp -implicitDefEqProofs [nameB]
    intro h1 h2 _
    have hne : s ≠ [] := by
      rintro rfl
      simp at h1
    simpa [hne, h2] using e
end Go.Proofs.Tz

namespace Go.Proofs.Tz
open Go.Vw
set_option maxRecDepth 100000
set_option maxHeartbeats 4000000
set_option linter.unusedSimpArgs false

end Go.Proofs.Tz

namespace Go.Proofs.Tz
open Go.Vw
set_option maxRecDepth 100000
set_option maxHeartbeats 4000000
set_option linter.unusedSimpArgs false

end Go.Proofs.Tz

namespace Go.Proofs.Tz
open Go.Vw
set_option maxRecDepth 100000
set_option maxHeartbeats 4000000
set_option linter.unusedSimpArgs false

def wantB (ns : List Str) (x : Str) : Bool := ns.any fun n => decide (lower n = x)
def wanted (ns : List Str) (a : Att) : Bool := decide (ns = []) || wantB ns a.1
end Go.Proofs.Tz

namespace Go.Proofs.Tz
open Go.Vw
set_option maxRecDepth 100000
set_option maxHeartbeats 4000000
set_option linter.unusedSimpArgs false

end Go.Proofs.Tz

namespace Go.Proofs.Tz
open Go.Vw
set_option maxRecDepth 100000
set_option maxHeartbeats 4000000
set_option linter.unusedSimpArgs false

end Go.Proofs.Tz

namespace Go.Proofs.Tz
open Go.Vw
set_option maxRecDepth 100000
set_option maxHeartbeats 4000000
set_option linter.unusedSimpArgs false

theorem lowc_not {c : UInt8} (h : ¬ (65 ≤ (c.toNat : Int) ∧ (c.toNat : Int) ≤ 90)) : lowc c = c := if_neg h

def halfL (s : Str) (k : Nat) : List D := ((lower (s.take k)) ++ s.drop k).map u8
theorem halfL_len (s : Str) (k : Nat) (h : k ≤ List.length s) : (halfL s k).length = List.length s := by simp [halfL, lower]; omega
theorem halfL_get (s : Str) (k : Nat) (h : k < List.length s) : (halfL s k)[k]? = some (u8 s[k]) := by
  have hl : (lower (s.take k)).length = k := by simp [lower]; omega
  simp only [halfL, List.getElem?_map]
  rw [List.getElem?_append_right (by omega), hl, Nat.sub_self]
  simp [h]
theorem halfL_set (s : Str) (k : Nat) (h : k < List.length s) : (halfL s k).set k (u8 (lowc s[k])) = halfL s (k + 1) := by
  have hl : (lower (s.take k)).length = k := by simp [lower]; omega
  simp only [halfL, ← List.map_set]
  rw [List.set_append_right _ _ (by omega), hl, Nat.sub_self, List.drop_eq_getElem_cons h, List.set_cons_zero, take_s h]
  simp only [lower, List.map_append, List.map_cons, List.map_nil, List.append_assoc, List.singleton_append]

theorem foldLower_fn (s : Str) (hs : List.length s < 1000000) : Ctr Tryz.prog 81 [.d (.str s)] (.d (.str (lower s))) := by
  refine fn_of_vwp (fun i => decide (i < 1000000)) (by kernel_rfl) Tryz.func81 (by kernel_rfl) rfl rfl (Nat.le_of_ble_eq_true rfl) (by kernel_rfl) rfl rfl ?_
  simp -implicitDefEqProofs
  refine ⟨by omega, ?_⟩
  refine loopN (List.length s) (fun k τ => τ 9 = .d (.int .i64 k) ∧ τ 8 = .d (.int .i64 (List.length s)) ∧ τ 3 = .own true 100005 (halfL s k)) (by simp [halfL, lower, bytesD, u8]) ?_
  rintro k τ hk ⟨h9, h8, h3⟩
  have hlen := halfL_len s k hk
  by_cases hlt : k < List.length s
  · have hg := halfL_get s k hlt
    have hset := halfL_set s k hlt
    generalize halfL s k = M at *
    have hlt2 : k < M.length := by omega
    have hg2 : M[k] = u8 s[k] := (List.getElem?_eq_some_iff.1 hg).2
    simp -implicitDefEqProofs [h9, h8, h3, hlt, hlt2, hg2, u8]
    refine callK (upper_fn _) ?_
    by_cases h1 : 65 ≤ (s[k].toNat : Int) ∧ (s[k].toNat : Int) ≤ 90
    · simp -implicitDefEqProofs [h9, h8, h3, hlt, hlt2, hg2, u8, h1.1, h1.2]
      have e : u8 (lowc s[k]) = .int .u8 ((s[k].toNat : Int) + 32) := by
        simp only [u8, lowc_toNat _ h1.1 h1.2]; congr 1; omega
      rw [e] at hset
      exact ⟨by omega, by omega, again hlt ⟨by simp, by simp [h8], by simp [hset]⟩⟩
    · have hb : (decide (65 ≤ (s[k].toNat : Int)) && decide ((s[k].toNat : Int) ≤ 90)) = false := by simpa using h1
      simp -implicitDefEqProofs [h9, h8, h3, hlt, hlt2, hg2, u8, hb]
      rw [lowc_not h1, ← hg2, List.set_getElem_self] at hset
      exact ⟨by omega, again hlt ⟨by simp, by simp [h8], by simp [h3, hset]⟩⟩
  · simp -implicitDefEqProofs [h9, h8, h3, hlt]
    have e : halfL s k = bytesD (lower s) := by
      have : k = List.length s := by omega
      subst this
      simp [halfL, bytesD, u8]
    simp -implicitDefEqProofs [e, h3]
end Go.Proofs.Tz

namespace Go.Proofs.Tz
open Go.Vw
set_option maxRecDepth 100000
set_option maxHeartbeats 4000000
set_option linter.unusedSimpArgs false

theorem u8ne {x c : UInt8} (h : ¬ x = c) : ¬ ((x.toNat : Int) = c.toNat) := fun e => h (UInt8.toNat_inj.1 (by omega))

def trimLB (c : UInt8) (s : Str) : Str := s.dropWhile fun x => decide (x = c)
def trimRB (c : UInt8) (s : Str) : Str := (s.reverse.dropWhile fun x => decide (x = c)).reverse

theorem trimL_fn (s : Str) (c : UInt8) : Ctr Tryz.prog 169 [.d (.str s), .d (u8 c)] (.d (.str (trimLB c s))) := by
  refine fn_of_vwp (fun _ => false) (by kernel_rfl) Tryz.func169 (by kernel_rfl) rfl rfl (Nat.le_of_ble_eq_true rfl) (by kernel_rfl) rfl rfl ?_
  simp -implicitDefEqProofs [u8]
  refine loopK (fun n τ => ∃ t : Str, n = t.length ∧ τ 0 = .d (.str t) ∧ τ 1 = .d (.int .u8 c.toNat) ∧ trimLB c t = trimLB c s) s.length ⟨s, rfl, by simp, by simp, rfl⟩ ?_
  rintro n τ ⟨t, rfl, h0, h1, ht⟩
  cases t with
  | nil =>
    simp -implicitDefEqProofs [h0, h1]
    rw [← ht]; rfl
  | cons x t =>
    by_cases hx : x = c
    · subst hx
      simp -implicitDefEqProofs [h0, h1]
      exact ⟨_, by omega, t, rfl, rfl, by rw [← ht, trimLB, trimLB, List.dropWhile_cons, if_pos (by simp)]⟩
    · have := u8ne hx
      simp -implicitDefEqProofs [h0, h1, this]
      rw [← ht, trimLB, List.dropWhile_cons, if_neg (by simp [hx])]

theorem trimRB_last {c : UInt8} {t : Str} (h : 0 < List.length t) : trimRB c t = if t[List.length t - 1] = c then trimRB c (t.take (List.length t - 1)) else t := by
  have e : t = t.take (List.length t - 1) ++ [t[List.length t - 1]] := by
    have := take_s (l := t) (k := List.length t - 1) (by omega)
    rw [show List.length t - 1 + 1 = List.length t by omega, List.take_length] at this
    exact this
  conv => lhs; rw [e]
  rw [trimRB, List.reverse_append, List.reverse_singleton, List.singleton_append, List.dropWhile_cons]
  by_cases hx : t[List.length t - 1] = c
  · rw [if_pos (by simpa using hx), if_pos hx, trimRB]
  · rw [if_neg (by simpa using hx), if_neg hx, List.reverse_cons, List.reverse_reverse]
    exact e.symm

theorem trimR_fn (s : Str) (c : UInt8) (hs : List.length s < 1000000) : Ctr Tryz.prog 170 [.d (.str s), .d (u8 c)] (.d (.str (trimRB c s))) := by
  refine fn_of_vwp (fun _ => false) (by kernel_rfl) Tryz.func170 (by kernel_rfl) rfl rfl (Nat.le_of_ble_eq_true rfl) (by kernel_rfl) rfl rfl ?_
  simp -implicitDefEqProofs [u8]
  refine loopK (fun n τ => ∃ t : Str, n = t.length ∧ τ 0 = .d (.str t) ∧ τ 1 = .d (.int .u8 c.toNat) ∧ List.length t < 1000000 ∧ trimRB c t = trimRB c s) s.length ⟨s, rfl, by simp, by simp, hs, rfl⟩ ?_
  rintro n τ ⟨t, rfl, h0, h1, hl, ht⟩
  by_cases hpos : 0 < List.length t
  · have hi : 0 ≤ (List.length t : Int) - 1 := by omega
    have hi2 : ((List.length t : Int) - 1).toNat = List.length t - 1 := by omega
    have hi3 : List.length t - 1 < List.length t := by omega
    have hi4 : -9223372036854775808 ≤ (List.length t : Int) - 1 := by omega
    have hi5 : (List.length t : Int) - 1 ≤ 9223372036854775807 := by omega
    have hi6 : 1 ≤ (List.length t : Int) := by omega
    have hz : ¬ t = [] := fun e => by subst e; simp at hpos
    rw [trimRB_last hpos] at ht
    by_cases hx : t[List.length t - 1] = c
    · rw [if_pos hx] at ht
      simp -implicitDefEqProofs [h0, h1, hpos, hi, hi2, hi3, hi4, hi5, hi6, hx, hz]
      exact ⟨List.length t - 1, by omega, t.take (List.length t - 1), by rw [List.length_take]; omega, rfl, by rw [List.length_take]; omega, ht⟩
    · have := u8ne hx
      rw [if_neg hx] at ht
      simp -implicitDefEqProofs [h0, h1, hpos, hi, hi2, hi3, hi4, hi5, hi6, this, hz]
      exact ht
  · obtain rfl : t = [] := List.eq_nil_of_length_eq_zero (by omega)
    simp -implicitDefEqProofs [h0, h1]
    rw [← ht]; rfl

def trimB (s : Str) : Str := trimLB 32 (trimRB 32 s)
theorem trim102_fn (s : Str) (hs : List.length s < 1000000) : Ctr Tryz.prog 161 [.d (.str s), .d (.str [32])] (.d (.str (trimB s))) := by
  refine fn_of_vwp (fun _ => false) (by kernel_rfl) Tryz.func161 (by kernel_rfl) rfl rfl (Nat.le_of_ble_eq_true rfl) (by kernel_rfl) rfl rfl ?_
  by_cases hz : s = []
  · subst hz
    simp -implicitDefEqProofs
    try rfl
  simp -implicitDefEqProofs [hz]
  have h1 : Ctr Tryz.prog 170 [.d (.str s), .d (.int .u8 32)] (.d (.str (trimRB 32 s))) := trimR_fn s 32 hs
  have h2 : Ctr Tryz.prog 169 [.d (.str (trimRB 32 s)), .d (.int .u8 32)] (.d (.str (trimB s))) := trimL_fn (trimRB 32 s) 32
  refine callP h1 ?_
  simp -implicitDefEqProofs [hz]
  refine callP h2 ?_
  simp -implicitDefEqProofs [hz]
theorem trim_fn (s : Str) (hs : List.length s < 1000000) : Ctr Tryz.prog 130 [.d (.str s)] (.d (.str (trimB s))) := by
  refine fn_of_vwp (fun _ => false) (by kernel_rfl) Tryz.func130 (by kernel_rfl) rfl rfl (Nat.le_of_ble_eq_true rfl) (by kernel_rfl) rfl rfl ?_
  simp -implicitDefEqProofs
  refine callK (trim102_fn s hs) ?_
  simp -implicitDefEqProofs

def cleanF (s : Str) : Bool := s.all cleanC && decide (s ≠ []) && decide (List.length s ≤ 256) && decide (trimB s = s)

theorem dec_lo {s : Str} {k : Nat} (h : k < List.length s) (hc : s[k].toNat < 128) : Go.Utf8.decode ⟨s.toArray⟩ k = (s[k].toNat, 1) := by
  have hb : k < (⟨s.toArray⟩ : ByteArray).size := by simpa [ByteArray.size] using h
  have e : (⟨s.toArray⟩ : ByteArray)[k]'hb = s[k] := rfl
  have := decode_ascii ⟨s.toArray⟩ k hb (by rw [e]; exact hc)
  rw [e] at this
  exact this
theorem dec_hi {s : Str} {k : Nat} (h : k < List.length s) (hc : 128 ≤ s[k].toNat) : 128 ≤ (Go.Utf8.decode ⟨s.toArray⟩ k).1 := by
  have hb : k < (⟨s.toArray⟩ : ByteArray).size := by simpa [ByteArray.size] using h
  have e : (⟨s.toArray⟩ : ByteArray)[k]'hb = s[k] := rfl
  exact (decode_high ⟨s.toArray⟩ k hb (by rw [e]; exact hc)).1

theorem trimLB_len (c : UInt8) (s : Str) : List.length (trimLB c s) ≤ List.length s := (List.dropWhile_sublist _).length_le
theorem trimRB_len (c : UInt8) (s : Str) : List.length (trimRB c s) ≤ List.length s := by
  have := (List.dropWhile_sublist (fun x : UInt8 => decide (x = c)) (l := s.reverse)).length_le
  simpa [trimRB] using this
theorem trimB_iff {s : Str} (h : 0 < List.length s) : trimB s = s ↔ s[0] ≠ 32 ∧ s[List.length s - 1] ≠ 32 := by
  constructor
  · intro e
    have h1 := trimLB_len 32 (trimRB 32 s)
    have h2 := trimRB_len 32 s
    have h3 : List.length (trimB s) = List.length s := by rw [e]
    rw [trimB] at h3
    have hr : s[List.length s - 1] ≠ 32 := by
      intro h4
      rw [trimRB_last h, if_pos h4] at h3 h1
      have h5 := trimRB_len 32 (s.take (List.length s - 1))
      rw [List.length_take] at h5
      omega
    refine ⟨fun h4 => ?_, hr⟩
    rw [trimB, trimRB_last h, if_neg hr] at e
    cases s with
    | nil => simp at h
    | cons x t =>
      simp only [List.getElem_cons_zero] at h4
      rw [trimLB, List.dropWhile_cons, if_pos (by simp [h4])] at e
      have := trimLB_len 32 t
      rw [trimLB, e, List.length_cons] at this
      omega
  · rintro ⟨h1, h2⟩
    rw [trimB, trimRB_last h, if_neg h2]
    cases s with
    | nil => rfl
    | cons x t => rw [trimLB, List.dropWhile_cons, if_neg (by simpa using h1)]
theorem cleanF_eq (s : Str) : cleanF s = cleanB s := by
  by_cases h : 0 < List.length s
  · have hne : s ≠ [] := fun e => by subst e; simp at h
    have hh : s.head? = some s[0] := by simp [List.head?_eq_getElem?, h]
    have hl : s.getLast? = some s[List.length s - 1] := by rw [List.getLast?_eq_getElem?, List.getElem?_eq_getElem (by omega)]
    rw [Bool.eq_iff_iff]
    simp only [cleanF, cleanB, Bool.and_eq_true, decide_eq_true_eq, trimB_iff h, hh, hl, bne_iff_ne, ne_eq, Option.some.injEq]
    have : 1 ≤ List.length s := h
    constructor
    · rintro ⟨⟨⟨a, b⟩, c⟩, d, e⟩; exact ⟨⟨⟨⟨this, c⟩, d⟩, e⟩, a⟩
    · rintro ⟨⟨⟨⟨_, c⟩, d⟩, e⟩, a⟩; exact ⟨⟨⟨a, hne⟩, c⟩, d, e⟩
  · obtain rfl : s = [] := List.eq_nil_of_length_eq_zero (by omega)
    rfl

theorem fclean_fn (s : Str) (hs : List.length s < 1000000) : Ctr Tryz.prog 128 [.d (.str s)] (.d (.bool (cleanF s))) := by
  refine fn_of_vwp (fun _ => false) (by kernel_rfl) Tryz.func128 (by kernel_rfl) rfl rfl (Nat.le_of_ble_eq_true rfl) (by kernel_rfl) rfl rfl ?_
  simp -implicitDefEqProofs
  refine loopN (List.length s) (fun k τ => τ 0 = .d (.str s) ∧ τ 6 = .iter s k ∧ ∀ x ∈ s.take k, cleanC x = true) (by simp) ?_
  rintro k τ hk ⟨h0, h6, hall⟩
  by_cases hlt : k < List.length s
  · by_cases ha : s[k].toNat < 128
    · have hd := dec_lo hlt ha
      by_cases e1 : (s[k].toNat : Int) < 32
      · have e1' : ¬ 32 ≤ (s[k].toNat : Int) := by omega
        simp -implicitDefEqProofs [h0, h6, hlt, hd, e1]
        simp [cleanF, all_not hlt (show cleanC s[k] = false by simp [cleanC, e1'])]
      · by_cases e2 : 126 < (s[k].toNat : Int)
        · have e2' : ¬ (s[k].toNat : Int) ≤ 126 := by omega
          simp -implicitDefEqProofs [h0, h6, hlt, hd, e1, e2]
          simp [cleanF, all_not hlt (show cleanC s[k] = false by simp [cleanC, e2'])]
        · have e1' : 32 ≤ (s[k].toNat : Int) := by omega
          have e2' : (s[k].toNat : Int) ≤ 126 := by omega
          simp -implicitDefEqProofs [h0, h6, hlt, hd, e1, e2]
          exact again hlt ⟨by simp [h0], by simp, all_take hlt hall (by simp [cleanC, e1', e2'])⟩
    · have hd := dec_hi hlt (by omega)
      have e1 : ¬ ((Go.Utf8.decode ⟨s.toArray⟩ k).1 : Int) < 32 := by omega
      have e2 : 126 < ((Go.Utf8.decode ⟨s.toArray⟩ k).1 : Int) := by omega
      have e2' : ¬ (s[k].toNat : Int) ≤ 126 := by omega
      simp -implicitDefEqProofs [h0, h6, hlt, e1, e2]
      simp [cleanF, all_not hlt (show cleanC s[k] = false by simp [cleanC, e2'])]
  · rw [List.take_of_length_le (by omega)] at hall
    have hall' : s.all cleanC = true := List.all_eq_true.2 hall
    by_cases hz : s = []
    · subst hz
      simp -implicitDefEqProofs [h0, h6, cleanF]
    · by_cases h2 : (List.length s : Int) ≤ 256
      · have h2' : List.length s ≤ 256 := by omega
        simp -implicitDefEqProofs [h0, h6, hlt, hz, h2]
        refine callK (trim_fn s hs) ?_
        simp -implicitDefEqProofs [h0, h6, hlt, hz, h2, cleanF, hall', h2']
      · have h2' : ¬ List.length s ≤ 256 := by omega
        simp -implicitDefEqProofs [h0, h6, hlt, hz, h2, cleanF, h2']
end Go.Proofs.Tz

/- strings.Builder: copyCheck. -/
set_option linter.unusedVariables false
namespace Go.Proofs.Tz
open Go.Vw Go.RowKit Go.Proofs

/-- strings.Builder's size. -/
theorem bld_size : (Tryz.prog.info? 113).map (·.size) = some 2 := by kernel_rfl
theorem bld_lies : liesAt Tryz.prog Tryz.prog.depth 113 (2 / Tryz.prog.cellsOf 113) 0 113 1 = true := by kernel_rfl

set_option maxRecDepth 100000 in
set_option maxHeartbeats 1000000 in
theorem cc_used (b : Nat) (w : World) (h0 : w.cell? ⟨b, 0, none⟩ = some (.pointer (some ⟨b, 0, none⟩))) :
    Calls Tryz.prog 129 #[.pointer (some ⟨b, 0, none⟩)] w fun e w' => e = .returned (.tuple #[]) ∧ w' = w := by
  obtain ⟨j, hj, _⟩ := Option.map_eq_some_iff.1 bld_size
  go_enter Tryz.func129, Tryz.ntmps129
  go_wp2
  rw [Lib.run_neq_ptr_same w _ Tryz.underlying111 hj]
  go_wp2
  go_end0
  exact ⟨rfl, rfl⟩

set_option maxRecDepth 100000 in
set_option maxHeartbeats 1000000 in
theorem cc_fresh (b : Nat) (w : World) (h0 : w.cell? ⟨b, 0, none⟩ = some (.pointer none)) (hsh : w.shape? b = some (113, 2)) (hfz : w.frozen? ⟨b, 0, none⟩ = false) :
    Calls Tryz.prog 129 #[.pointer (some ⟨b, 0, none⟩)] w fun e w' => e = .returned (.tuple #[]) ∧ w' = w.setCell ⟨b, 0, none⟩ (.pointer (some ⟨b, 0, none⟩)) := by
  obtain ⟨j, hj, hjs⟩ := Option.map_eq_some_iff.1 bld_size
  go_enter Tryz.func129, Tryz.ntmps129
  go_wp2
  rw [Lib.run_to_unsafe w ⟨b, 0, none⟩ Tryz.underlying111 Tryz.underlying154 hj (by rw [hjs]; decide) hsh (Nat.zero_lt_succ 1)]
  simp only [Result.andThen]
  rw [Oper.upon_value]
  go_wp2
  rw [run_callFunc_extern Tryz.func160 (by kernel_rfl) (by kernel_rfl) (by kernel_rfl) (e := Extern.AbiNoEscape.same) (by kernel_rfl)]
  rw [Lib.run_noEscape]
  simp only [Result.andThen]
  rw [Oper.upon_value]
  go_wp2
  rw [Lib.run_from_unsafe w ⟨b, 0, none⟩ Tryz.underlying154 Tryz.underlying111 hj hsh bld_lies]
  simp only [Result.andThen]
  rw [Oper.upon_value]
  go_wp2
  go_end0
  exact ⟨rfl, rfl⟩

/-- The address of a variable. -/
abbrev va (b : Nat) : Value := .pointer (some ⟨b, 0, none⟩)

/-- A builder's two cells in memory. -/
theorem bld_cells {w : World} {L : Nat → Nat → Prop} {b : Nat} {p : D} {hd : Value} (hp : p = .nilp ∨ p = .raw (va b))
    (h : BoxT w L (some b) 113 (.agg [p, .raw hd]) (va b)) : ∃ pv, w.heap[b]? = some (.cells #[pv, hd] 113 (0, 0)) ∧ (∀ o, ¬ L b o) ∧ hd.oneCell' = true ∧ vIsAgg hd = false ∧ ((p = .nilp ∧ pv = .pointer none) ∨ (p = .raw (va b) ∧ pv = va b)) := by
  obtain ⟨g, C, h1, h2, h3, h4, h5⟩ := h
  obtain rfl : b = g := by simpa using h1
  simp only [Rep, RepL] at h4
  obtain ⟨css, ⟨c, cs, rfl, hc, c2, cs2, rfl, ⟨rfl, h7, h8⟩, rfl⟩, h6⟩ := h4
  rcases hp with rfl | rfl
  · simp only [Rep] at hc
    subst hc
    have : C = #[.pointer none, hd] := by apply Array.ext'; simpa using h6
    subst this
    exact ⟨_, h3, h5, h7, h8, .inl ⟨rfl, rfl⟩⟩
  · simp only [Rep] at hc
    obtain ⟨rfl, _, _⟩ := hc
    have : C = #[va b, hd] := by apply Array.ext'; simpa using h6
    subst this
    exact ⟨_, h3, h5, h7, h8, .inr ⟨rfl, rfl⟩⟩
theorem bld_laid {w : World} {L : Nat → Nat → Prop} {b : Nat} {hd : Value} (h1 : w.heap[b]? = some (.cells #[va b, hd] 113 (0, 0))) (h2 : ∀ o, ¬ L b o) (h3 : hd.oneCell' = true) (h4 : vIsAgg hd = false) :
    RH Tryz.prog w L (.hb (va b) 113 (.agg [.raw (va b), .raw hd])) := by
  refine ⟨rfl, b, _, rfl, rfl, h1, ?_, h2⟩
  simp only [Rep, RepL]
  exact ⟨[[va b], [hd]], ⟨_, _, rfl, ⟨rfl, rfl, rfl⟩, _, _, rfl, ⟨rfl, h3, h4⟩, rfl⟩, rfl⟩

theorem copyCheck_fn {b : Nat} {p : D} (hp : p = .nilp ∨ p = .raw (va b)) {hd : Value} :
    CtrG Tryz.prog 129 [.d (.raw (va b))] [.hb (va b) 113 (.agg [p, .raw hd])] (fun r hs' => r = .tup [] ∧ hs' = [.hb (va b) 113 (.agg [.raw (va b), .raw hd])]) := by
  refine ⟨enters_of Tryz.func129 (by kernel_rfl) rfl, fun w L vals hlok hgl hv hh _ => ?_⟩
  obtain ⟨v, us, rfl, hv1, hv2⟩ := hv
  obtain rfl : us = [] := hv2
  obtain rfl : v = va b := RepV.raw_inv hv1
  have hb : BoxT w L (some b) 113 (.agg [p, .raw hd]) (va b) := (hh (.hb (va b) 113 (.agg [p, .raw hd])) (by simp)).2
  obtain ⟨pv, e1, e2, e3, e4, e5⟩ := bld_cells hp hb
  have hlt : b < w.heap.size := (Array.getElem?_eq_some_iff.1 e1).1
  rcases e5 with ⟨rfl, rfl⟩ | ⟨rfl, rfl⟩
  · refine (cc_fresh b w (by rw [Lib.cell_of_heap e1]; rfl) (by simp [World.shape?, e1]) (Lib.frozen_of_heap e1 0)).mono ?_
    rintro e w' ⟨rfl, rfl⟩
    have hsz : (w.setCell ⟨b, 0, none⟩ (va b)).heap.size = w.heap.size := by simp [World.setCell]
    refine ⟨_, L, none, .tup [], _, rfl, ⟨rfl, rfl, rfl, Nat.le_of_eq hsz.symm, fun k hk hn => Below.heap_setCell w _ _ k (fun e => hn (by simp [hblk, e])), Nat.le_refl _⟩, fun g q hq => by rw [hsz]; exact hlok g q hq, fun _ _ _ _ => Iff.rfl, fun g hg => ?_, ?_, ⟨[], rfl, rfl⟩, fun x hx => ?_, rfl, rfl⟩
    · simp [hblk] at hg; subst hg; exact ⟨by rw [hsz]; exact hlt, .inr (by simp [hblk])⟩
    · simp [apartB, hblk]
    · simp at hx; subst hx
      refine bld_laid ?_ e2 e3 e4
      simp [World.setCell, Array.getElem?_modify, e1]
  · refine (cc_used b w (by rw [Lib.cell_of_heap e1]; rfl)).mono ?_
    rintro e w' ⟨rfl, rfl⟩
    refine ⟨_, L, none, .tup [], _, rfl, GrownS.refl _ _, hlok, fun _ _ _ _ => Iff.rfl, fun g hg => ?_, ?_, ⟨[], rfl, rfl⟩, fun x hx => ?_, rfl, rfl⟩
    · simp [hblk] at hg; subst hg; exact ⟨hlt, .inr (by simp [hblk])⟩
    · simp [apartB, hblk]
    · simp at hx; subst hx
      exact bld_laid e1 e2 e3 e4
end Go.Proofs.Tz

/- strings.Builder: String. -/
set_option linter.unusedVariables false
namespace Go.Proofs.Tz
open Go.Vw Go.RowKit Go.Proofs

theorem byte_info : (Tryz.prog.info? 5).map (·.size) = some 1 := by kernel_rfl
theorem byte_cells : Tryz.prog.cellsOf 5 = 1 := by kernel_rfl

theorem bytes_cells {w : World} {L : Nat → Nat → Prop} : ∀ {s : Str} {css : List (List Value)}, RepL w L (bytesD s) css → css.flatten = s.map fun c => Value.int .u8 (c.toNat : Int)
  | [], css, h => by simp only [bytesD, List.map_nil, RepL] at h; subst h; rfl
  | c :: s, css, h => by
    simp only [bytesD, List.map_cons, RepL, Rep] at h
    obtain ⟨c1, cs, rfl, rfl, h2⟩ := h
    simp [bytes_cells (s := s) h2]

set_option maxRecDepth 100000 in
set_option maxHeartbeats 1000000 in
theorem bs_row {b g cap : Nat} {p : Value} {l : List UInt8} (w : World) (h0 : l ≠ []) (hbk : w.heap[b]? = some (.cells #[p, .slice (some ⟨g, 0, none⟩) l.length cap] 113 (0, 0))) {cur : Array Value} (hg : w.heap[g]? = some (.cells cur 5 (0, 0)))
    (hnc : l.length ≤ cap) (hcm : cap ≤ maxLen) (hcs : cap ≤ cur.size) (htk : ∀ j x, l[j]? = some x → w.cell? ((⟨g, 0, none⟩ : Addr).add j) = some (.int .u8 x.toNat)) :
    Calls Tryz.prog 108 #[.pointer (some ⟨b, 0, none⟩)] w fun e w' => e = .returned (.string ⟨l.toArray⟩) ∧ w' = w.drew.freeze ⟨g, 0, none⟩ l.length := by
  have hl0 : l.length ≠ 0 := by simpa using h0
  have c1 : w.drew.cell? ⟨b, 1, none⟩ = some (.slice (some ⟨g, 0, none⟩) l.length cap) := by
    have : w.drew.heap[b]? = some (.cells #[p, .slice (some ⟨g, 0, none⟩) l.length cap] 113 (0, 0)) := hbk
    rw [Lib.cell_of_heap this]; rfl
  have hSD : (Builtin.unsafeSliceData_ #[92] 136 #[.slice (some ⟨g, 0, none⟩) l.length cap]).run Tryz.prog w.drew = .ok (.pointer (some ⟨g, 0, none⟩)) w.drew :=
    Lib.run_unsafeSliceData_row _ _ _ _ _ _ (by omega)
  have hUS : (Builtin.unsafeString_ #[136, 3] 9 #[.pointer (some ⟨g, 0, none⟩), .int .i64 l.length]).run Tryz.prog w.drew = .ok (.string ⟨l.toArray⟩) (w.drew.freeze ⟨g, 0, none⟩ l.length) := by
    refine Lib.run_unsafeString_row w.drew 136 3 9 5 Tryz.underlying136 byte_cells g cur.size (by have hg' : w.drew.heap[g]? = some (.cells cur 5 (0, 0)) := hg; simp [World.shape?, hg']) l h0 (by omega) (by unfold maxLen at hcm; omega) ?_
    exact htk
  go_enter Tryz.func108, Tryz.ntmps108
  go_wp2
  go_region
  all_goals (go_wp2; go_ret; exact ⟨rfl, rfl⟩)

theorem bs_none (W : World) (q : Option Addr) : (Builtin.unsafeString_ #[136, 3] 9 #[.pointer q, .int .i64 0]).run Tryz.prog W = .ok (.string .empty) W := Lib.run_unsafeString_none W _ _ _ q

set_option maxRecDepth 100000 in
set_option maxHeartbeats 1000000 in
theorem bs_nil {b : Nat} {p : Value} (w : World) (hbk : w.heap[b]? = some (.cells #[p, .slice none 0 0] 113 (0, 0))) :
    Calls Tryz.prog 108 #[.pointer (some ⟨b, 0, none⟩)] w fun e w' => e = .returned (.string ⟨#[]⟩) ∧ w' = w.drew := by
  have hUS := bs_none
  have c1 : w.drew.cell? ⟨b, 1, none⟩ = some (.slice none 0 0) := by
    have : w.drew.heap[b]? = some (.cells #[p, .slice none 0 0] 113 (0, 0)) := hbk
    rw [Lib.cell_of_heap this]; rfl
  have hSD : (Builtin.unsafeSliceData_ #[92] 136 #[.slice none 0 0]).run Tryz.prog w.drew = .ok (.pointer none) w.drew := rfl
  go_enter Tryz.func108, Tryz.ntmps108
  go_wp2
  go_region
  all_goals (go_wp2; go_ret; exact ⟨rfl, rfl⟩)

set_option maxRecDepth 100000 in
set_option maxHeartbeats 1000000 in
theorem bs_room {b g cap : Nat} {p : Value} (w : World) (hc0 : cap ≠ 0) (hbk : w.heap[b]? = some (.cells #[p, .slice (some ⟨g, 0, none⟩) 0 cap] 113 (0, 0))) :
    Calls Tryz.prog 108 #[.pointer (some ⟨b, 0, none⟩)] w fun e w' => e = .returned (.string ⟨#[]⟩) ∧ w' = w.drew := by
  have hUS := bs_none
  have c1 : w.drew.cell? ⟨b, 1, none⟩ = some (.slice (some ⟨g, 0, none⟩) 0 cap) := by
    have : w.drew.heap[b]? = some (.cells #[p, .slice (some ⟨g, 0, none⟩) 0 cap] 113 (0, 0)) := hbk
    rw [Lib.cell_of_heap this]; rfl
  have hSD : (Builtin.unsafeSliceData_ #[92] 136 #[.slice (some ⟨g, 0, none⟩) 0 cap]).run Tryz.prog w.drew = .ok (.pointer (some ⟨g, 0, none⟩)) w.drew :=
    Lib.run_unsafeSliceData_row _ _ _ _ _ _ hc0
  clear hc0
  go_enter Tryz.func108, Tryz.ntmps108
  go_wp2
  go_region
  all_goals (go_wp2; go_ret; exact ⟨rfl, rfl⟩)

set_option maxRecDepth 100000 in
set_option maxHeartbeats 1000000 in
theorem bs_noroom {b g : Nat} {p : Value} {cur : Array Value} (w : World) (hbk : w.heap[b]? = some (.cells #[p, .slice (some ⟨g, 0, none⟩) 0 0] 113 (0, 0))) (hg : w.heap[g]? = some (.cells cur 5 (0, 0))) :
    Calls Tryz.prog 108 #[.pointer (some ⟨b, 0, none⟩)] w fun e w' => e = .returned (.string ⟨#[]⟩) ∧ (w' = w.drew.alloc (.view ⟨g, 0, none⟩ 5) ∨ w' = (w.alloc (.view ⟨g, 0, none⟩ 5)).drew) := by
  have hUS := bs_none
  have hlt : b < w.heap.size := (Array.getElem?_eq_some_iff.1 hbk).1
  have c1 : w.drew.cell? ⟨b, 1, none⟩ = some (.slice (some ⟨g, 0, none⟩) 0 0) := by
    have : w.drew.heap[b]? = some (.cells #[p, .slice (some ⟨g, 0, none⟩) 0 0] 113 (0, 0)) := hbk
    rw [Lib.cell_of_heap this]; rfl
  have hSD : (Builtin.unsafeSliceData_ #[92] 136 #[.slice (some ⟨g, 0, none⟩) 0 0]).run Tryz.prog w.drew = .ok (.pointer (some ⟨w.drew.heap.size, 0, none⟩)) (w.drew.alloc (.view ⟨g, 0, none⟩ 5)) :=
    Lib.run_unsafeSliceData_zero w.drew _ _ 5 Tryz.underlying136 ⟨g, 0, none⟩ 0 (5, cur.size) (by have hg' : w.drew.heap[g]? = some (.cells cur 5 (0, 0)) := hg; simp [World.shape?, hg'])
  have c2 : (w.drew.alloc (.view ⟨g, 0, none⟩ 5)).cell? ⟨b, 1, none⟩ = some (.slice (some ⟨g, 0, none⟩) 0 0) := by
    have : (w.drew.alloc (.view ⟨g, 0, none⟩ 5)).heap[b]? = _ := (Lib.alloc_old w.drew _ b hlt).trans hbk
    rw [Lib.cell_of_heap this]; rfl
  have c3 : (w.alloc (.view ⟨g, 0, none⟩ 5)).drew.cell? ⟨b, 1, none⟩ = some (.slice (some ⟨g, 0, none⟩) 0 0) := c2
  have c0 : w.cell? ⟨b, 1, none⟩ = some (.slice (some ⟨g, 0, none⟩) 0 0) := c1
  go_enter Tryz.func108, Tryz.ntmps108
  go_wp2
  go_region
  all_goals (go_wp2; go_ret; exact ⟨rfl, .inl rfl⟩)

/-- A builder: its variable's block, its copy-check's pointer, its bytes' head. -/
abbrev bld (b : Nat) (p : D) (hd : Value) (s : Str) : List AV := [.hb (va b) 113 (.agg [p, .raw hd]), .hs hd 5 (bytesD s)]

theorem bytesD_length (s : Str) : (bytesD s).length = s.length := by simp [bytesD]
theorem heap_freeze (w : World) (a : Addr) (n k : Nat) (h : k ≠ a.block) : (w.freeze a n).heap[k]? = w.heap[k]? := by
  unfold World.freeze
  split
  · rfl
  · simp only []
    rw [Array.getElem?_modify, if_neg (fun e => h e.symm)]
theorem size_freeze (w : World) (a : Addr) (n : Nat) : (w.freeze a n).heap.size = w.heap.size := by
  unfold World.freeze
  split
  · rfl
  · simp
theorem size_alloc (w : World) (o : Obj) : (w.alloc o).heap.size = w.heap.size + 1 := by unfold World.alloc; simp
theorem freeze_parts (w : World) (a : Addr) (n : Nat) : (w.freeze a n).os = w.os ∧ (w.freeze a n).tape = w.tape ∧ (w.freeze a n).output = w.output := by
  unfold World.freeze
  split <;> exact ⟨rfl, rfl, rfl⟩

theorem string_fn {b : Nat} {p : D} (hp : p = .nilp ∨ p = .raw (va b)) {hd : Value} {s : Str} :
    CtrG Tryz.prog 108 [.d (.raw (va b))] (bld b p hd s) (fun r hs' => r = .d (.str s) ∧ hs' = []) := by
  refine ⟨enters_of Tryz.func108 (by kernel_rfl) rfl, fun w L vals hlok hgl hv hh hap => ?_⟩
  obtain ⟨v, us, rfl, hv1, hv2⟩ := hv
  obtain rfl : us = [] := hv2
  obtain rfl : v = va b := RepV.raw_inv hv1
  have hb : BoxT w L (some b) 113 (.agg [p, .raw hd]) (va b) := (hh (.hb (va b) 113 (.agg [p, .raw hd])) (by simp)).2
  obtain ⟨pv, e1, e2, e3, e4, e5⟩ := bld_cells hp hb
  have hs : OwnR Tryz.prog w L hd.ownBlock true 5 (bytesD s) hd := (hh (.hs hd 5 (bytesD s)) (by simp)).2
  obtain ⟨css, sz, f1, f2, f3, f4, f5⟩ := hs
  obtain rfl : sz = 1 := by
    have : ety 5 = 5 := rfl
    rw [this, byte_info] at f1; simpa using f1.symm
  have hcs := bytes_cells f2
  have done : ∀ (w' : World), GrownS w w' (fun k => some k ∈ (bld b p hd s).map hblk) → ∀ st : Str, st = s → Ending.returned (.string ⟨st.toArray⟩) = Ending.returned (.string ⟨s.toArray⟩) ∧
      ∃ v L' og r hs', Ending.returned (.string ⟨s.toArray⟩) = Ending.returned v ∧ GrownS w w' (fun k => some k ∈ (bld b p hd s).map hblk) ∧ (∀ b q, L' b q → b < w'.heap.size) ∧ (∀ b' q, b' < w.heap.size → some b' ∉ (bld b p hd s).map hblk → (L' b' q ↔ L b' q)) ∧
      (∀ g, some g ∈ og :: hs'.map hblk → g < w'.heap.size ∧ (w.heap.size ≤ g ∨ some g ∈ (bld b p hd s).map hblk)) ∧ apartB (og :: hs'.map hblk) ∧ RC Tryz.prog w' L' og r v ∧ (∀ x ∈ hs', RH Tryz.prog w' L' x) ∧ (r = .d (.str s) ∧ hs' = []) := by
    intro w' hg st hst
    refine ⟨by rw [hst], _, L, none, .d (.str s), [], rfl, hg, fun b q hq => Nat.lt_of_lt_of_le (hlok b q hq) hg.size, fun _ _ _ _ => Iff.rfl, fun g hgm => by simp at hgm, by simp [apartB], RepV.str, by simp, rfl, rfl⟩
  rcases f4.2 with ⟨rfl, hn⟩ | ⟨g, cap, cur, hv, hh', hnc, hcm, hsz, ht⟩
  · have hs0 : s = [] := by simpa [bytesD] using hn
    subst hs0
    refine (bs_nil w e1).mono ?_
    rintro e w' ⟨rfl, rfl⟩
    exact (done w.drew ⟨rfl, rfl, rfl, Nat.le_refl _, fun _ _ _ => rfl, Nat.le_succ _⟩ [] rfl).2
  · subst hv
    rw [bytesD_length] at *
    have hblk1 : (bld b p (.slice (some ⟨g, 0, none⟩) s.length cap) s).map hblk = [some b, some g] := by simp [hblk, Value.ownBlock]
    by_cases h0 : s = []
    · subst h0
      by_cases hc0 : cap = 0
      · subst hc0
        refine (bs_noroom w e1 hh').mono ?_
        rintro e w' ⟨rfl, hw⟩
        refine (done w' ?_ [] rfl).2
        rcases hw with rfl | rfl
        · exact ⟨rfl, rfl, rfl, by rw [size_alloc]; exact Nat.le_succ _, fun k hk _ => Lib.alloc_old w.drew _ k hk, Nat.le_succ _⟩
        · exact ⟨rfl, rfl, rfl, by show _ ≤ (w.alloc _).heap.size; rw [size_alloc]; exact Nat.le_succ _, fun k hk _ => Lib.alloc_old w _ k hk, Nat.le_succ _⟩
      · refine (bs_room w hc0 e1).mono ?_
        rintro e w' ⟨rfl, rfl⟩
        exact (done w.drew ⟨rfl, rfl, rfl, Nat.le_refl _, fun _ _ _ => rfl, Nat.le_succ _⟩ [] rfl).2
    · refine (bs_row w h0 e1 hh' hnc hcm (by omega) (fun j x hx => ?_)).mono ?_
      · have := rowOK.cells f4 (g := g) rfl j (.int .u8 x.toNat) (by rw [hcs, List.getElem?_map, hx]; rfl)
        exact this
      · rintro e w' ⟨rfl, rfl⟩
        refine (done (w.drew.freeze ⟨g, 0, none⟩ s.length) ⟨(freeze_parts _ _ _).1, (freeze_parts _ _ _).2.1, (freeze_parts _ _ _).2.2, by rw [size_freeze]; exact Nat.le_refl _, fun k hk hn => ?_, by rw [freeze_drawn]; exact Nat.le_succ _⟩ s rfl).2
        rw [heap_freeze _ _ _ _ (fun e => hn (by rw [hblk1]; simp [e]))]
        rfl
end Go.Proofs.Tz

/- strings.Builder: WriteByte, WriteString, Len. -/
set_option linter.unusedVariables false
set_option linter.unusedSimpArgs false
namespace Go.Proofs.Tz
open Go.Vw Go.RowKit Go.Proofs

/-- A call to which names are given, with its contract. -/
theorem givB {P : Program} {g : FuncId} {args : List AV} {σ : St} {d : Nat} {K : St → Prop} (ks : List Nat) (b : Nat) {hs : List AV} {Post : AV → List AV → Prop} (h : CtrG P g args hs Post) (h1 : ks.map σ = hs) (h2 : hs.all isH = true) (h3 : ks.Nodup)
    (hk : ∀ r hs', Post r hs' → K (putH (put (takeH σ ks) d r) ks b hs')) : GivK P g args σ d K :=
  ⟨ks, b, Post, fun k hk => by
    have : σ k ∈ hs := by rw [← h1]; exact List.mem_map.2 ⟨k, hk, rfl⟩
    exact List.all_eq_true.1 h2 _ this, h3, by rw [h1]; exact h, hk⟩

/-- The address of a named variable's field. -/
theorem rawFd {P : Program} {s f : Nat} {u : Value} {σ : St} {C : AV → Prop} (j : Nat) {e : TypeId} {ds : List D} (hj : σ j = .hb u e (.agg ds)) (h0 : 1000000 ≤ j) (h1 : f < ds.length) (h2 : fieldOff P s f = some (widths (ds.take f))) (h : C (.adr j [f])) : RawFd P s f u σ C :=
  ⟨j, e, ds, h0, hj, h1, h2, h⟩
theorem appSK {e : TypeId} {t : Str} {l : List D} {u : Value} {σ : St} {d : Nat} {K : St → Prop} (j : Nat) (hj : σ j = .hs u e l) (h2 : l.length + List.length t ≤ 140737488355328)
    (hk : ∀ A c, K (put (put σ j (.hs (.slice A (l ++ bytesD t).length c) e (l ++ bytesD t))) d (.d (.raw (.slice A (l ++ bytesD t).length c))))) : AppSK e t u σ d K := ⟨j, l, .inl hj, h2, hk⟩
@[simp] theorem cval_nilIface : cval Value.nilIface = .undef := rfl

theorem writeByte_fn {b : Nat} {p : D} (hp : p = .nilp ∨ p = .raw (va b)) {hd : Value} {s : Str} (c : UInt8) (hl : s.length + 1 ≤ 140737488355328) :
    CtrG Tryz.prog 104 [.d (.raw (va b)), .d (.int .u8 c.toNat)] (bld b p hd s) (fun r hs' => ∃ hd', hs' = bld b (.raw (va b)) hd' (s ++ [c])) := by
  refine fn_of_vwpGN (fun i => i == 5000006) (by kernel_rfl) (rs := [.tmp 4]) Tryz.func104 (by kernel_rfl) rfl rfl (by simp) (Nat.le_of_ble_eq_true rfl) (by kernel_rfl) rfl ?_
  simp -implicitDefEqProofs [initG]
  refine givB [1000000] 1000000 (copyCheck_fn (hd := hd) hp) (by simp [initG]) rfl (by simp) ?_
  rintro r hs' ⟨rfl, rfl⟩
  simp -implicitDefEqProofs [initG, takeH, putH]
  refine rawFd 1000000 (by simp; exact ⟨rfl, rfl⟩) (by omega) (by simp) (by kernel_rfl) ?_
  simp -implicitDefEqProofs [initG]
  refine appK (l := bytesD s) 1000001 (by simp [initG]) (by simp) (by simp [bytesD]; omega) (by simp [bytesD]; omega) (fun A c2 => ?_)
  simp -implicitDefEqProofs [initG]
  refine rawFd 1000000 (by simp; exact ⟨rfl, rfl⟩) (by omega) (by simp) (by kernel_rfl) ?_
  simp -implicitDefEqProofs [initG]
  refine ⟨[.undef], [1000000, 1000001], by simp, by simp [isH], by simp [resDs, resD], .slice A ((bytesD s).length + 1) c2, by simp [bytesD]⟩

theorem writeString_fn {b : Nat} {p : D} (hp : p = .nilp ∨ p = .raw (va b)) {hd : Value} {s : Str} (t : Str) (hl : s.length + t.length ≤ 140737488355328) :
    CtrG Tryz.prog 105 [.d (.raw (va b)), .d (.str t)] (bld b p hd s) (fun r hs' => ∃ hd', hs' = bld b (.raw (va b)) hd' (s ++ t)) := by
  refine fn_of_vwpGN (fun i => i == 5000007) (by kernel_rfl) (rs := [.tmp 4, .tmp 5]) Tryz.func105 (by kernel_rfl) rfl rfl (by simp) (Nat.le_of_ble_eq_true rfl) (by kernel_rfl) rfl ?_
  simp -implicitDefEqProofs [initG]
  refine givB [1000000] 1000000 (copyCheck_fn (hd := hd) hp) (by simp [initG]) rfl (by simp) ?_
  rintro r hs' ⟨rfl, rfl⟩
  simp -implicitDefEqProofs [initG, takeH, putH]
  refine rawFd 1000000 (by simp; exact ⟨rfl, rfl⟩) (by omega) (by simp) (by kernel_rfl) ?_
  simp -implicitDefEqProofs [initG]
  refine appSK (l := bytesD s) 1000001 (by simp [initG]) (by simp [bytesD]; omega) (fun A c2 => ?_)
  simp -implicitDefEqProofs [initG]
  refine rawFd 1000000 (by simp; exact ⟨rfl, rfl⟩) (by omega) (by simp) (by kernel_rfl) ?_
  simp -implicitDefEqProofs [initG]
  refine ⟨[.undef, .undef], [1000000, 1000001], by simp, by simp [isH], by simp [resDs, resD], .slice A ((bytesD s).length + (bytesD t).length) c2, by simp [bytesD]⟩

end Go.Proofs.Tz

/- Library functions on bytes that change nothing: IndexByte, Count. -/
set_option linter.unusedVariables false
set_option linter.unusedSimpArgs false
namespace Go.Proofs.Tz
open Go.Vw Go.RowKit Go.Proofs

/-- A function that leaves the world as it was. -/
theorem Ctr.same {P : Program} {f : FuncId} {xs : List D} {r : D} {vs : List Value} {v : Value} (hE : Enters P f) (h : ∀ w, Calls P f vs.toArray w fun e w' => e = .returned v ∧ w' = w)
    (hx : ∀ w L og vals, RCs P w L og (xs.map .d) vals → vals = vs) (hr : ∀ w L, RepV w L r v) : Ctr P f (xs.map .d) (.d r) := by
  refine ⟨hE, fun w L og vals hlok hgl hog hv => ?_⟩
  rw [hx w L og vals hv]
  refine (h w).mono ?_
  rintro e w' ⟨rfl, rfl⟩
  exact ⟨_, L, none, rfl, GrownS.refl _ _, hlok, fun _ _ _ _ => Iff.rfl, by simp, hr _ _⟩

/-- The place of the first byte c; or -1. -/
abbrev ixB (s : Str) (c : UInt8) : Int := Go.Lib.indexByte s c

end Go.Proofs.Tz

/- codec.plain, identityref02.plain. -/
set_option linter.unusedVariables false
set_option linter.unusedSimpArgs false
namespace Go.Proofs.Tz
open Go.Vw Go.RowKit Go.Proofs

theorem u8_int (c : UInt8) (k : Nat) (hk : k < 256) : ((c.toNat : Int) = k) ↔ c = UInt8.ofNat k := by
  constructor
  · intro h
    have : c.toNat = k := by omega
    rw [← this, UInt8.ofNat_toNat]
  · rintro rfl
    simp [UInt8.toNat_ofNat', Nat.mod_eq_of_lt hk]

end Go.Proofs.Tz

/- Escape. -/
set_option maxRecDepth 100000
set_option maxHeartbeats 4000000
set_option linter.unusedVariables false
set_option linter.unusedSimpArgs false
namespace Go.Proofs.Tz
open Go.Vw Go.RowKit Go.Proofs

abbrev hexDs : Str := [48, 49, 50, 51, 52, 53, 54, 55, 56, 57, 65, 66, 67, 68, 69, 70]
/-- A new variable gets a name, and so does a nil slice in it. -/
theorem newK2 {P : Program} {e : TypeId} {z : D} {σ : St} {d : Nat} {K : St → Prop} (j k : Nat) (e' : TypeId) (h1 : σ k = .undef) (h2 : (P.info? (ety e')).isSome = true) (h3 : σ j = .undef) (hjk : j ≠ k)
    (hK : ∀ g, K (put (put (put σ k (.hs (.slice none 0 0) e' [])) j (.hb (va g) e z)) d (.d (.raw (va g))))) : NewK P e z σ d K :=
  ⟨j, some (k, e'), ⟨h1, h2⟩, by simp [nilN, hjk, h3], hK⟩

theorem zTX61 : zeroTX Tryz.prog true 8 113 = .agg [.nilp, .raw (.slice none 0 0)] := by kernel_rfl

def BldAt (τ : St) (b : Nat) (s : Str) : Prop := ∃ p hd, (p = .nilp ∨ p = .raw (va b)) ∧ τ 1000000 = .hb (va b) 113 (.agg [p, .raw hd]) ∧ τ 1000001 = .hs hd 5 (bytesD s)

end Go.Proofs.Tz

/- Unescape: the plain law. -/
set_option linter.unusedVariables false
set_option linter.unusedSimpArgs false
namespace Go.Proofs.Tz
open Go.Vw Go.RowKit Go.Proofs

/-- A hexadecimal digit's value, or -1. -/
abbrev hexV (c : UInt8) : Int := ixB hexDs c
def hx (h l : UInt8) : UInt8 := UInt8.ofNat (16 * (hexV h).toNat + (hexV l).toNat)

end Go.Proofs.Tz

/- Unescape: the walks. -/
set_option maxRecDepth 100000
set_option maxHeartbeats 4000000
set_option linter.unusedVariables false
set_option linter.unusedSimpArgs false
namespace Go.Proofs.Tz
open Go.Vw Go.RowKit Go.Proofs

theorem again' {N k k' : Nat} {I : Nat → St → Prop} {τ : St} (hk : k < k') (hk' : k' ≤ N) (h : I k' τ) : Again N k I τ := ⟨N - k', by omega, k', hk', rfl, h⟩

end Go.Proofs.Tz

/- strings.Split at one byte. -/
set_option maxRecDepth 100000
set_option maxHeartbeats 4000000
set_option linter.unusedVariables false
set_option linter.unusedSimpArgs false
namespace Go.Proofs.Tz
open Go.Vw Go.RowKit Go.Proofs

end Go.Proofs.Tz

/- General facts on lists, pieces of strings and their escapes (no program in sight). -/
set_option linter.unusedVariables false
set_option linter.unusedSimpArgs false
namespace Go.Proofs.Tz
open Go.Vw Go.RowKit Go.Proofs

theorem drop_c {α : Type} {l : List α} {k : Nat} (h : k < l.length) : l.drop k = l[k] :: l.drop (k + 1) := List.drop_eq_getElem_cons h
/-- The pieces, joined. -/
def joinB (c : UInt8) : List Str → Str
  | [] => []
  | [p] => p
  | p :: q :: ps => p ++ c :: joinB c (q :: ps)
/-- All of a list are so. -/
def AllB {α : Type} (p : α → Bool) (l : List α) : Prop := ∀ x ∈ l, p x = true
theorem AllB.nil {α : Type} {p : α → Bool} : AllB p [] := fun _ h => by simp at h
theorem AllB.all {α : Type} {p : α → Bool} {l : List α} (h : AllB p l) : l.all p = true := List.all_eq_true.2 h
end Go.Proofs.Tz
