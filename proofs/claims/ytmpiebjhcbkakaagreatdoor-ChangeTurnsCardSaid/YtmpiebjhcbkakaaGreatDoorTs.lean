/-
  What the functions that the statements about layer 16 (change) reach compute, part 1 of 4: contracts and plain laws, for lists and strings of bounded size (each theorem states its bound).
-/
import Derived.Test.YtmpiebjhcbkakaaGreatDoorWu
import Derived.Test.YtmpiebjhcbkakaaGreatDoorProg
import Derived.KernelRfl
import Derived.WalkKit
import Derived.Lib.Builder
import Derived.Lib.UnsafeStr
import Derived.Laws.Externs
import Derived.RegionTactic
import Derived.Lib.Bytealg
import Derived.Lib.Join

set_option linter.unusedSimpArgs false
set_option linter.unusedVariables false

/- Facts on the types of this translation, as rewrite rules of the abstract walk. -/
namespace Go.Proofs
open Go.Vw
@[simp] theorem Tryz.ez_1 : esz Tryz.prog 1 = some (1, 8) := by kernel_rfl
@[simp] theorem Tryz.sz_1 : szOf Tryz.prog 1 = some 1 := by kernel_rfl
@[simp] theorem Tryz.tk_1 : tyk Tryz.prog 1 = some (false, 1) := by kernel_rfl
@[simp] theorem Tryz.zd_1 : zeroD Tryz.prog 1 = some (.raw .nilFunc) := by kernel_rfl
@[simp] theorem Tryz.u_2 : Program.underlying Tryz.prog 2 = some (.int .i64) := by kernel_rfl
@[simp] theorem Tryz.se_2 : sliceE Tryz.prog 2 = none := by kernel_rfl
@[simp] theorem Tryz.ez_2 : esz Tryz.prog 2 = some (1, 8) := by kernel_rfl
@[simp] theorem Tryz.sz_2 : szOf Tryz.prog 2 = some 1 := by kernel_rfl
@[simp] theorem Tryz.tk_2 : tyk Tryz.prog 2 = some (false, 1) := by kernel_rfl
@[simp] theorem Tryz.zd_2 : zeroD Tryz.prog 2 = some (.int .i64 0) := by kernel_rfl
@[simp] theorem Tryz.u_3 : Program.underlying Tryz.prog 3 = some (.int .i64) := by kernel_rfl
@[simp] theorem Tryz.se_3 : sliceE Tryz.prog 3 = none := by kernel_rfl
@[simp] theorem Tryz.ez_3 : esz Tryz.prog 3 = some (1, 8) := by kernel_rfl
@[simp] theorem Tryz.sz_3 : szOf Tryz.prog 3 = some 1 := by kernel_rfl
@[simp] theorem Tryz.tk_3 : tyk Tryz.prog 3 = some (false, 1) := by kernel_rfl
@[simp] theorem Tryz.zd_3 : zeroD Tryz.prog 3 = some (.int .i64 0) := by kernel_rfl
@[simp] theorem Tryz.u_4 : Program.underlying Tryz.prog 4 = some .bool := by kernel_rfl
@[simp] theorem Tryz.se_4 : sliceE Tryz.prog 4 = none := by kernel_rfl
@[simp] theorem Tryz.ez_4 : esz Tryz.prog 4 = some (1, 1) := by kernel_rfl
@[simp] theorem Tryz.sz_4 : szOf Tryz.prog 4 = some 1 := by kernel_rfl
@[simp] theorem Tryz.tk_4 : tyk Tryz.prog 4 = some (false, 1) := by kernel_rfl
@[simp] theorem Tryz.zd_4 : zeroD Tryz.prog 4 = some (.bool false) := by kernel_rfl
@[simp] theorem Tryz.u_5 : Program.underlying Tryz.prog 5 = some (.int .u8) := by kernel_rfl
@[simp] theorem Tryz.se_5 : sliceE Tryz.prog 5 = none := by kernel_rfl
@[simp] theorem Tryz.ez_5 : esz Tryz.prog 5 = some (1, 1) := by kernel_rfl
@[simp] theorem Tryz.sz_5 : szOf Tryz.prog 5 = some 1 := by kernel_rfl
@[simp] theorem Tryz.tk_5 : tyk Tryz.prog 5 = some (false, 1) := by kernel_rfl
@[simp] theorem Tryz.zd_5 : zeroD Tryz.prog 5 = some (.int .u8 0) := by kernel_rfl
@[simp] theorem Tryz.u_9 : Program.underlying Tryz.prog 9 = some .string := by kernel_rfl
@[simp] theorem Tryz.se_9 : sliceE Tryz.prog 9 = none := by kernel_rfl
@[simp] theorem Tryz.ez_9 : esz Tryz.prog 9 = some (1, 16) := by kernel_rfl
@[simp] theorem Tryz.sz_9 : szOf Tryz.prog 9 = some 1 := by kernel_rfl
@[simp] theorem Tryz.tk_9 : tyk Tryz.prog 9 = some (false, 1) := by kernel_rfl
@[simp] theorem Tryz.zd_9 : zeroD Tryz.prog 9 = some (.str []) := by kernel_rfl
@[simp] theorem Tryz.u_12 : Program.underlying Tryz.prog 12 = some (.int .u64) := by kernel_rfl
@[simp] theorem Tryz.se_12 : sliceE Tryz.prog 12 = none := by kernel_rfl
@[simp] theorem Tryz.ez_12 : esz Tryz.prog 12 = some (1, 8) := by kernel_rfl
@[simp] theorem Tryz.sz_12 : szOf Tryz.prog 12 = some 1 := by kernel_rfl
@[simp] theorem Tryz.tk_12 : tyk Tryz.prog 12 = some (false, 1) := by kernel_rfl
@[simp] theorem Tryz.zd_12 : zeroD Tryz.prog 12 = some (.int .u64 0) := by kernel_rfl
@[simp] theorem Tryz.ez_13 : esz Tryz.prog 13 = some (2, 24) := by kernel_rfl
@[simp] theorem Tryz.sz_13 : szOf Tryz.prog 13 = some 2 := by kernel_rfl
@[simp] theorem Tryz.tk_13 : tyk Tryz.prog 13 = some (true, 2) := by kernel_rfl
@[simp] theorem Tryz.zd_13 : zeroD Tryz.prog 13 = some (.agg [.str [], .int .u64 0]) := by kernel_rfl
@[simp] theorem Tryz.sd_13 : structD Tryz.prog 13 = some [.str [], .int .u64 0] := by kernel_rfl
@[simp] theorem Tryz.fo_13_0 : fieldOff Tryz.prog 13 0 = some 0 := by kernel_rfl
@[simp] theorem Tryz.fo_13_1 : fieldOff Tryz.prog 13 1 = some 1 := by kernel_rfl
@[simp] theorem Tryz.u_21 : Program.underlying Tryz.prog 21 = some (.int .i32) := by kernel_rfl
@[simp] theorem Tryz.se_21 : sliceE Tryz.prog 21 = none := by kernel_rfl
@[simp] theorem Tryz.ez_21 : esz Tryz.prog 21 = some (1, 4) := by kernel_rfl
@[simp] theorem Tryz.sz_21 : szOf Tryz.prog 21 = some 1 := by kernel_rfl
@[simp] theorem Tryz.tk_21 : tyk Tryz.prog 21 = some (false, 1) := by kernel_rfl
@[simp] theorem Tryz.zd_21 : zeroD Tryz.prog 21 = some (.int .i32 0) := by kernel_rfl
@[simp] theorem Tryz.ez_22 : esz Tryz.prog 22 = some (3, 24) := by kernel_rfl
@[simp] theorem Tryz.sz_22 : szOf Tryz.prog 22 = some 3 := by kernel_rfl
@[simp] theorem Tryz.tk_22 : tyk Tryz.prog 22 = some (true, 3) := by kernel_rfl
@[simp] theorem Tryz.zd_22 : zeroD Tryz.prog 22 = some (.agg [.int .i64 0, .int .i64 0, .int .i64 0]) := by kernel_rfl
@[simp] theorem Tryz.sd_22 : structD Tryz.prog 22 = some [.int .i64 0, .int .i64 0, .int .i64 0] := by kernel_rfl
@[simp] theorem Tryz.fo_22_0 : fieldOff Tryz.prog 22 0 = some 0 := by kernel_rfl
@[simp] theorem Tryz.fo_22_1 : fieldOff Tryz.prog 22 1 = some 1 := by kernel_rfl
@[simp] theorem Tryz.fo_22_2 : fieldOff Tryz.prog 22 2 = some 2 := by kernel_rfl
@[simp] theorem Tryz.ez_23 : esz Tryz.prog 23 = some (3, 24) := by kernel_rfl
@[simp] theorem Tryz.sz_23 : szOf Tryz.prog 23 = some 3 := by kernel_rfl
@[simp] theorem Tryz.tk_23 : tyk Tryz.prog 23 = some (true, 3) := by kernel_rfl
@[simp] theorem Tryz.zd_23 : zeroD Tryz.prog 23 = some (.agg [.int .i64 0, .int .i64 0, .int .i64 0]) := by kernel_rfl
@[simp] theorem Tryz.sd_23 : structD Tryz.prog 23 = some [.int .i64 0, .int .i64 0, .int .i64 0] := by kernel_rfl
@[simp] theorem Tryz.fo_23_0 : fieldOff Tryz.prog 23 0 = some 0 := by kernel_rfl
@[simp] theorem Tryz.fo_23_1 : fieldOff Tryz.prog 23 1 = some 1 := by kernel_rfl
@[simp] theorem Tryz.fo_23_2 : fieldOff Tryz.prog 23 2 = some 2 := by kernel_rfl
@[simp] theorem Tryz.u_24 : Program.underlying Tryz.prog 24 = some (.int .i64) := by kernel_rfl
@[simp] theorem Tryz.se_24 : sliceE Tryz.prog 24 = none := by kernel_rfl
@[simp] theorem Tryz.ez_24 : esz Tryz.prog 24 = some (1, 8) := by kernel_rfl
@[simp] theorem Tryz.sz_24 : szOf Tryz.prog 24 = some 1 := by kernel_rfl
@[simp] theorem Tryz.tk_24 : tyk Tryz.prog 24 = some (false, 1) := by kernel_rfl
@[simp] theorem Tryz.zd_24 : zeroD Tryz.prog 24 = some (.int .i64 0) := by kernel_rfl
@[simp] theorem Tryz.ez_25 : esz Tryz.prog 25 = some (8, 96) := by kernel_rfl
@[simp] theorem Tryz.sz_25 : szOf Tryz.prog 25 = some 8 := by kernel_rfl
@[simp] theorem Tryz.tk_25 : tyk Tryz.prog 25 = some (true, 8) := by kernel_rfl
@[simp] theorem Tryz.zd_25 : zeroD Tryz.prog 25 = some (.agg [.agg [.int .i64 0, .int .i64 0, .int .i64 0], .int .i64 0, .str [], .str [], .str [], .str []]) := by kernel_rfl
@[simp] theorem Tryz.sd_25 : structD Tryz.prog 25 = some [.agg [.int .i64 0, .int .i64 0, .int .i64 0], .int .i64 0, .str [], .str [], .str [], .str []] := by kernel_rfl
@[simp] theorem Tryz.fo_25_0 : fieldOff Tryz.prog 25 0 = some 0 := by kernel_rfl
@[simp] theorem Tryz.fo_25_1 : fieldOff Tryz.prog 25 1 = some 3 := by kernel_rfl
@[simp] theorem Tryz.fo_25_2 : fieldOff Tryz.prog 25 2 = some 4 := by kernel_rfl
@[simp] theorem Tryz.fo_25_3 : fieldOff Tryz.prog 25 3 = some 5 := by kernel_rfl
@[simp] theorem Tryz.fo_25_4 : fieldOff Tryz.prog 25 4 = some 6 := by kernel_rfl
@[simp] theorem Tryz.fo_25_5 : fieldOff Tryz.prog 25 5 = some 7 := by kernel_rfl
@[simp] theorem Tryz.ez_26 : esz Tryz.prog 26 = some (8, 96) := by kernel_rfl
@[simp] theorem Tryz.sz_26 : szOf Tryz.prog 26 = some 8 := by kernel_rfl
@[simp] theorem Tryz.tk_26 : tyk Tryz.prog 26 = some (true, 8) := by kernel_rfl
@[simp] theorem Tryz.zd_26 : zeroD Tryz.prog 26 = some (.agg [.agg [.int .i64 0, .int .i64 0, .int .i64 0], .int .i64 0, .str [], .str [], .str [], .str []]) := by kernel_rfl
@[simp] theorem Tryz.sd_26 : structD Tryz.prog 26 = some [.agg [.int .i64 0, .int .i64 0, .int .i64 0], .int .i64 0, .str [], .str [], .str [], .str []] := by kernel_rfl
@[simp] theorem Tryz.fo_26_0 : fieldOff Tryz.prog 26 0 = some 0 := by kernel_rfl
@[simp] theorem Tryz.fo_26_1 : fieldOff Tryz.prog 26 1 = some 3 := by kernel_rfl
@[simp] theorem Tryz.fo_26_2 : fieldOff Tryz.prog 26 2 = some 4 := by kernel_rfl
@[simp] theorem Tryz.fo_26_3 : fieldOff Tryz.prog 26 3 = some 5 := by kernel_rfl
@[simp] theorem Tryz.fo_26_4 : fieldOff Tryz.prog 26 4 = some 6 := by kernel_rfl
@[simp] theorem Tryz.fo_26_5 : fieldOff Tryz.prog 26 5 = some 7 := by kernel_rfl
@[simp] theorem Tryz.ez_27 : esz Tryz.prog 27 = some (1, 8) := by kernel_rfl
@[simp] theorem Tryz.sz_27 : szOf Tryz.prog 27 = some 1 := by kernel_rfl
@[simp] theorem Tryz.tk_27 : tyk Tryz.prog 27 = some (false, 1) := by kernel_rfl
@[simp] theorem Tryz.zd_27 : zeroD Tryz.prog 27 = some (.raw .nilFunc) := by kernel_rfl
@[simp] theorem Tryz.u_28 : Program.underlying Tryz.prog 28 = some (.slice 26) := by kernel_rfl
@[simp] theorem Tryz.se_28 : sliceE Tryz.prog 28 = some 26 := by kernel_rfl
@[simp] theorem Tryz.ez_28 : esz Tryz.prog 28 = some (1, 24) := by kernel_rfl
@[simp] theorem Tryz.sz_28 : szOf Tryz.prog 28 = some 1 := by kernel_rfl
@[simp] theorem Tryz.tk_28 : tyk Tryz.prog 28 = some (false, 1) := by kernel_rfl
@[simp] theorem Tryz.zd_28 : zeroD Tryz.prog 28 = some (.sl []) := by kernel_rfl
@[simp] theorem Tryz.ez_29 : esz Tryz.prog 29 = some (1, 8) := by kernel_rfl
@[simp] theorem Tryz.sz_29 : szOf Tryz.prog 29 = some 1 := by kernel_rfl
@[simp] theorem Tryz.tk_29 : tyk Tryz.prog 29 = some (false, 1) := by kernel_rfl
@[simp] theorem Tryz.zd_29 : zeroD Tryz.prog 29 = some (.raw .nilFunc) := by kernel_rfl
@[simp] theorem Tryz.u_30 : Program.underlying Tryz.prog 30 = some (.int .i64) := by kernel_rfl
@[simp] theorem Tryz.se_30 : sliceE Tryz.prog 30 = none := by kernel_rfl
@[simp] theorem Tryz.ez_30 : esz Tryz.prog 30 = some (1, 8) := by kernel_rfl
@[simp] theorem Tryz.sz_30 : szOf Tryz.prog 30 = some 1 := by kernel_rfl
@[simp] theorem Tryz.tk_30 : tyk Tryz.prog 30 = some (false, 1) := by kernel_rfl
@[simp] theorem Tryz.zd_30 : zeroD Tryz.prog 30 = some (.int .i64 0) := by kernel_rfl
@[simp] theorem Tryz.ez_32 : esz Tryz.prog 32 = some (1, 8) := by kernel_rfl
@[simp] theorem Tryz.sz_32 : szOf Tryz.prog 32 = some 1 := by kernel_rfl
@[simp] theorem Tryz.tk_32 : tyk Tryz.prog 32 = some (false, 1) := by kernel_rfl
@[simp] theorem Tryz.zd_32 : zeroD Tryz.prog 32 = some (.raw .nilFunc) := by kernel_rfl
@[simp] theorem Tryz.ez_34 : esz Tryz.prog 34 = some (1, 8) := by kernel_rfl
@[simp] theorem Tryz.sz_34 : szOf Tryz.prog 34 = some 1 := by kernel_rfl
@[simp] theorem Tryz.tk_34 : tyk Tryz.prog 34 = some (false, 1) := by kernel_rfl
@[simp] theorem Tryz.zd_34 : zeroD Tryz.prog 34 = some (.raw .nilFunc) := by kernel_rfl
@[simp] theorem Tryz.ez_35 : esz Tryz.prog 35 = some (1, 8) := by kernel_rfl
@[simp] theorem Tryz.sz_35 : szOf Tryz.prog 35 = some 1 := by kernel_rfl
@[simp] theorem Tryz.tk_35 : tyk Tryz.prog 35 = some (false, 1) := by kernel_rfl
@[simp] theorem Tryz.zd_35 : zeroD Tryz.prog 35 = some (.raw .nilFunc) := by kernel_rfl
@[simp] theorem Tryz.ez_36 : esz Tryz.prog 36 = some (1, 8) := by kernel_rfl
@[simp] theorem Tryz.sz_36 : szOf Tryz.prog 36 = some 1 := by kernel_rfl
@[simp] theorem Tryz.tk_36 : tyk Tryz.prog 36 = some (false, 1) := by kernel_rfl
@[simp] theorem Tryz.zd_36 : zeroD Tryz.prog 36 = some (.raw .nilFunc) := by kernel_rfl
@[simp] theorem Tryz.ez_37 : esz Tryz.prog 37 = some (1, 8) := by kernel_rfl
@[simp] theorem Tryz.sz_37 : szOf Tryz.prog 37 = some 1 := by kernel_rfl
@[simp] theorem Tryz.tk_37 : tyk Tryz.prog 37 = some (false, 1) := by kernel_rfl
@[simp] theorem Tryz.zd_37 : zeroD Tryz.prog 37 = some (.raw .nilFunc) := by kernel_rfl
@[simp] theorem Tryz.ez_38 : esz Tryz.prog 38 = some (1, 8) := by kernel_rfl
@[simp] theorem Tryz.sz_38 : szOf Tryz.prog 38 = some 1 := by kernel_rfl
@[simp] theorem Tryz.tk_38 : tyk Tryz.prog 38 = some (false, 1) := by kernel_rfl
@[simp] theorem Tryz.zd_38 : zeroD Tryz.prog 38 = some (.raw .nilFunc) := by kernel_rfl
@[simp] theorem Tryz.u_39 : Program.underlying Tryz.prog 39 = some (.slice 23) := by kernel_rfl
@[simp] theorem Tryz.se_39 : sliceE Tryz.prog 39 = some 23 := by kernel_rfl
@[simp] theorem Tryz.ez_39 : esz Tryz.prog 39 = some (1, 24) := by kernel_rfl
@[simp] theorem Tryz.sz_39 : szOf Tryz.prog 39 = some 1 := by kernel_rfl
@[simp] theorem Tryz.tk_39 : tyk Tryz.prog 39 = some (false, 1) := by kernel_rfl
@[simp] theorem Tryz.zd_39 : zeroD Tryz.prog 39 = some (.sl []) := by kernel_rfl
@[simp] theorem Tryz.ez_40 : esz Tryz.prog 40 = some (1, 8) := by kernel_rfl
@[simp] theorem Tryz.sz_40 : szOf Tryz.prog 40 = some 1 := by kernel_rfl
@[simp] theorem Tryz.tk_40 : tyk Tryz.prog 40 = some (false, 1) := by kernel_rfl
@[simp] theorem Tryz.zd_40 : zeroD Tryz.prog 40 = some (.raw .nilFunc) := by kernel_rfl
@[simp] theorem Tryz.ez_41 : esz Tryz.prog 41 = some (1, 8) := by kernel_rfl
@[simp] theorem Tryz.sz_41 : szOf Tryz.prog 41 = some 1 := by kernel_rfl
@[simp] theorem Tryz.tk_41 : tyk Tryz.prog 41 = some (false, 1) := by kernel_rfl
@[simp] theorem Tryz.zd_41 : zeroD Tryz.prog 41 = some (.raw .nilFunc) := by kernel_rfl
@[simp] theorem Tryz.ez_42 : esz Tryz.prog 42 = some (1, 8) := by kernel_rfl
@[simp] theorem Tryz.sz_42 : szOf Tryz.prog 42 = some 1 := by kernel_rfl
@[simp] theorem Tryz.tk_42 : tyk Tryz.prog 42 = some (false, 1) := by kernel_rfl
@[simp] theorem Tryz.zd_42 : zeroD Tryz.prog 42 = some (.raw .nilFunc) := by kernel_rfl
@[simp] theorem Tryz.ez_43 : esz Tryz.prog 43 = some (1, 8) := by kernel_rfl
@[simp] theorem Tryz.sz_43 : szOf Tryz.prog 43 = some 1 := by kernel_rfl
@[simp] theorem Tryz.tk_43 : tyk Tryz.prog 43 = some (false, 1) := by kernel_rfl
@[simp] theorem Tryz.zd_43 : zeroD Tryz.prog 43 = some (.raw .nilFunc) := by kernel_rfl
@[simp] theorem Tryz.u_44 : Program.underlying Tryz.prog 44 = some (.slice 56) := by kernel_rfl
@[simp] theorem Tryz.se_44 : sliceE Tryz.prog 44 = some 56 := by kernel_rfl
@[simp] theorem Tryz.ez_44 : esz Tryz.prog 44 = some (1, 24) := by kernel_rfl
@[simp] theorem Tryz.sz_44 : szOf Tryz.prog 44 = some 1 := by kernel_rfl
@[simp] theorem Tryz.tk_44 : tyk Tryz.prog 44 = some (false, 1) := by kernel_rfl
@[simp] theorem Tryz.zd_44 : zeroD Tryz.prog 44 = some (.sl []) := by kernel_rfl
@[simp] theorem Tryz.ez_45 : esz Tryz.prog 45 = some (1, 8) := by kernel_rfl
@[simp] theorem Tryz.sz_45 : szOf Tryz.prog 45 = some 1 := by kernel_rfl
@[simp] theorem Tryz.tk_45 : tyk Tryz.prog 45 = some (false, 1) := by kernel_rfl
@[simp] theorem Tryz.zd_45 : zeroD Tryz.prog 45 = some (.raw .nilFunc) := by kernel_rfl
@[simp] theorem Tryz.ez_46 : esz Tryz.prog 46 = some (1, 8) := by kernel_rfl
@[simp] theorem Tryz.sz_46 : szOf Tryz.prog 46 = some 1 := by kernel_rfl
@[simp] theorem Tryz.tk_46 : tyk Tryz.prog 46 = some (false, 1) := by kernel_rfl
@[simp] theorem Tryz.zd_46 : zeroD Tryz.prog 46 = some (.raw .nilFunc) := by kernel_rfl
@[simp] theorem Tryz.ez_47 : esz Tryz.prog 47 = some (1, 8) := by kernel_rfl
@[simp] theorem Tryz.sz_47 : szOf Tryz.prog 47 = some 1 := by kernel_rfl
@[simp] theorem Tryz.tk_47 : tyk Tryz.prog 47 = some (false, 1) := by kernel_rfl
@[simp] theorem Tryz.zd_47 : zeroD Tryz.prog 47 = some (.raw .nilFunc) := by kernel_rfl
@[simp] theorem Tryz.ez_48 : esz Tryz.prog 48 = some (1, 8) := by kernel_rfl
@[simp] theorem Tryz.sz_48 : szOf Tryz.prog 48 = some 1 := by kernel_rfl
@[simp] theorem Tryz.tk_48 : tyk Tryz.prog 48 = some (false, 1) := by kernel_rfl
@[simp] theorem Tryz.zd_48 : zeroD Tryz.prog 48 = some (.raw .nilFunc) := by kernel_rfl
@[simp] theorem Tryz.ez_49 : esz Tryz.prog 49 = some (1, 8) := by kernel_rfl
@[simp] theorem Tryz.sz_49 : szOf Tryz.prog 49 = some 1 := by kernel_rfl
@[simp] theorem Tryz.tk_49 : tyk Tryz.prog 49 = some (false, 1) := by kernel_rfl
@[simp] theorem Tryz.zd_49 : zeroD Tryz.prog 49 = some (.raw .nilFunc) := by kernel_rfl
@[simp] theorem Tryz.ez_50 : esz Tryz.prog 50 = some (1, 8) := by kernel_rfl
@[simp] theorem Tryz.sz_50 : szOf Tryz.prog 50 = some 1 := by kernel_rfl
@[simp] theorem Tryz.tk_50 : tyk Tryz.prog 50 = some (false, 1) := by kernel_rfl
@[simp] theorem Tryz.zd_50 : zeroD Tryz.prog 50 = some (.raw .nilFunc) := by kernel_rfl
@[simp] theorem Tryz.ez_51 : esz Tryz.prog 51 = some (1, 8) := by kernel_rfl
@[simp] theorem Tryz.sz_51 : szOf Tryz.prog 51 = some 1 := by kernel_rfl
@[simp] theorem Tryz.tk_51 : tyk Tryz.prog 51 = some (false, 1) := by kernel_rfl
@[simp] theorem Tryz.zd_51 : zeroD Tryz.prog 51 = some (.raw .nilFunc) := by kernel_rfl
@[simp] theorem Tryz.ez_52 : esz Tryz.prog 52 = some (1, 8) := by kernel_rfl
@[simp] theorem Tryz.sz_52 : szOf Tryz.prog 52 = some 1 := by kernel_rfl
@[simp] theorem Tryz.tk_52 : tyk Tryz.prog 52 = some (false, 1) := by kernel_rfl
@[simp] theorem Tryz.zd_52 : zeroD Tryz.prog 52 = some (.raw .nilFunc) := by kernel_rfl
@[simp] theorem Tryz.ez_53 : esz Tryz.prog 53 = some (1, 8) := by kernel_rfl
@[simp] theorem Tryz.sz_53 : szOf Tryz.prog 53 = some 1 := by kernel_rfl
@[simp] theorem Tryz.tk_53 : tyk Tryz.prog 53 = some (false, 1) := by kernel_rfl
@[simp] theorem Tryz.zd_53 : zeroD Tryz.prog 53 = some (.raw .nilFunc) := by kernel_rfl
@[simp] theorem Tryz.u_54 : Program.underlying Tryz.prog 54 = some (.slice 9) := by kernel_rfl
@[simp] theorem Tryz.se_54 : sliceE Tryz.prog 54 = some 9 := by kernel_rfl
@[simp] theorem Tryz.ez_54 : esz Tryz.prog 54 = some (1, 24) := by kernel_rfl
@[simp] theorem Tryz.sz_54 : szOf Tryz.prog 54 = some 1 := by kernel_rfl
@[simp] theorem Tryz.tk_54 : tyk Tryz.prog 54 = some (false, 1) := by kernel_rfl
@[simp] theorem Tryz.zd_54 : zeroD Tryz.prog 54 = some (.sl []) := by kernel_rfl
@[simp] theorem Tryz.ez_55 : esz Tryz.prog 55 = some (2, 40) := by kernel_rfl
@[simp] theorem Tryz.sz_55 : szOf Tryz.prog 55 = some 2 := by kernel_rfl
@[simp] theorem Tryz.tk_55 : tyk Tryz.prog 55 = some (true, 2) := by kernel_rfl
@[simp] theorem Tryz.zd_55 : zeroD Tryz.prog 55 = some (.agg [.str [], .sl []]) := by kernel_rfl
@[simp] theorem Tryz.sd_55 : structD Tryz.prog 55 = some [.str [], .sl []] := by kernel_rfl
@[simp] theorem Tryz.fo_55_0 : fieldOff Tryz.prog 55 0 = some 0 := by kernel_rfl
@[simp] theorem Tryz.fo_55_1 : fieldOff Tryz.prog 55 1 = some 1 := by kernel_rfl
@[simp] theorem Tryz.ez_56 : esz Tryz.prog 56 = some (2, 40) := by kernel_rfl
@[simp] theorem Tryz.sz_56 : szOf Tryz.prog 56 = some 2 := by kernel_rfl
@[simp] theorem Tryz.tk_56 : tyk Tryz.prog 56 = some (true, 2) := by kernel_rfl
@[simp] theorem Tryz.zd_56 : zeroD Tryz.prog 56 = some (.agg [.str [], .sl []]) := by kernel_rfl
@[simp] theorem Tryz.sd_56 : structD Tryz.prog 56 = some [.str [], .sl []] := by kernel_rfl
@[simp] theorem Tryz.fo_56_0 : fieldOff Tryz.prog 56 0 = some 0 := by kernel_rfl
@[simp] theorem Tryz.fo_56_1 : fieldOff Tryz.prog 56 1 = some 1 := by kernel_rfl
@[simp] theorem Tryz.ez_57 : esz Tryz.prog 57 = some (1, 8) := by kernel_rfl
@[simp] theorem Tryz.sz_57 : szOf Tryz.prog 57 = some 1 := by kernel_rfl
@[simp] theorem Tryz.tk_57 : tyk Tryz.prog 57 = some (false, 1) := by kernel_rfl
@[simp] theorem Tryz.zd_57 : zeroD Tryz.prog 57 = some (.raw .nilFunc) := by kernel_rfl
@[simp] theorem Tryz.ez_58 : esz Tryz.prog 58 = some (1, 8) := by kernel_rfl
@[simp] theorem Tryz.sz_58 : szOf Tryz.prog 58 = some 1 := by kernel_rfl
@[simp] theorem Tryz.tk_58 : tyk Tryz.prog 58 = some (false, 1) := by kernel_rfl
@[simp] theorem Tryz.zd_58 : zeroD Tryz.prog 58 = some (.raw .nilFunc) := by kernel_rfl
@[simp] theorem Tryz.ez_59 : esz Tryz.prog 59 = some (1, 8) := by kernel_rfl
@[simp] theorem Tryz.sz_59 : szOf Tryz.prog 59 = some 1 := by kernel_rfl
@[simp] theorem Tryz.tk_59 : tyk Tryz.prog 59 = some (false, 1) := by kernel_rfl
@[simp] theorem Tryz.zd_59 : zeroD Tryz.prog 59 = some (.raw .nilFunc) := by kernel_rfl
@[simp] theorem Tryz.ez_60 : esz Tryz.prog 60 = some (1, 8) := by kernel_rfl
@[simp] theorem Tryz.sz_60 : szOf Tryz.prog 60 = some 1 := by kernel_rfl
@[simp] theorem Tryz.tk_60 : tyk Tryz.prog 60 = some (false, 1) := by kernel_rfl
@[simp] theorem Tryz.zd_60 : zeroD Tryz.prog 60 = some (.raw .nilFunc) := by kernel_rfl
@[simp] theorem Tryz.ez_62 : esz Tryz.prog 62 = some (1, 8) := by kernel_rfl
@[simp] theorem Tryz.sz_62 : szOf Tryz.prog 62 = some 1 := by kernel_rfl
@[simp] theorem Tryz.tk_62 : tyk Tryz.prog 62 = some (false, 1) := by kernel_rfl
@[simp] theorem Tryz.zd_62 : zeroD Tryz.prog 62 = some (.raw .nilFunc) := by kernel_rfl
@[simp] theorem Tryz.ez_63 : esz Tryz.prog 63 = some (1, 8) := by kernel_rfl
@[simp] theorem Tryz.sz_63 : szOf Tryz.prog 63 = some 1 := by kernel_rfl
@[simp] theorem Tryz.tk_63 : tyk Tryz.prog 63 = some (false, 1) := by kernel_rfl
@[simp] theorem Tryz.zd_63 : zeroD Tryz.prog 63 = some (.raw .nilFunc) := by kernel_rfl
@[simp] theorem Tryz.ez_64 : esz Tryz.prog 64 = some (1, 8) := by kernel_rfl
@[simp] theorem Tryz.sz_64 : szOf Tryz.prog 64 = some 1 := by kernel_rfl
@[simp] theorem Tryz.tk_64 : tyk Tryz.prog 64 = some (false, 1) := by kernel_rfl
@[simp] theorem Tryz.zd_64 : zeroD Tryz.prog 64 = some (.raw .nilFunc) := by kernel_rfl
@[simp] theorem Tryz.ez_65 : esz Tryz.prog 65 = some (1, 8) := by kernel_rfl
@[simp] theorem Tryz.sz_65 : szOf Tryz.prog 65 = some 1 := by kernel_rfl
@[simp] theorem Tryz.tk_65 : tyk Tryz.prog 65 = some (false, 1) := by kernel_rfl
@[simp] theorem Tryz.zd_65 : zeroD Tryz.prog 65 = some (.raw .nilFunc) := by kernel_rfl
@[simp] theorem Tryz.ez_66 : esz Tryz.prog 66 = some (1, 8) := by kernel_rfl
@[simp] theorem Tryz.sz_66 : szOf Tryz.prog 66 = some 1 := by kernel_rfl
@[simp] theorem Tryz.tk_66 : tyk Tryz.prog 66 = some (false, 1) := by kernel_rfl
@[simp] theorem Tryz.zd_66 : zeroD Tryz.prog 66 = some (.raw .nilFunc) := by kernel_rfl
@[simp] theorem Tryz.ez_67 : esz Tryz.prog 67 = some (1, 8) := by kernel_rfl
@[simp] theorem Tryz.sz_67 : szOf Tryz.prog 67 = some 1 := by kernel_rfl
@[simp] theorem Tryz.tk_67 : tyk Tryz.prog 67 = some (false, 1) := by kernel_rfl
@[simp] theorem Tryz.zd_67 : zeroD Tryz.prog 67 = some (.raw .nilFunc) := by kernel_rfl
@[simp] theorem Tryz.ez_68 : esz Tryz.prog 68 = some (1, 8) := by kernel_rfl
@[simp] theorem Tryz.sz_68 : szOf Tryz.prog 68 = some 1 := by kernel_rfl
@[simp] theorem Tryz.tk_68 : tyk Tryz.prog 68 = some (false, 1) := by kernel_rfl
@[simp] theorem Tryz.zd_68 : zeroD Tryz.prog 68 = some (.raw .nilFunc) := by kernel_rfl
@[simp] theorem Tryz.ez_69 : esz Tryz.prog 69 = some (1, 8) := by kernel_rfl
@[simp] theorem Tryz.sz_69 : szOf Tryz.prog 69 = some 1 := by kernel_rfl
@[simp] theorem Tryz.tk_69 : tyk Tryz.prog 69 = some (false, 1) := by kernel_rfl
@[simp] theorem Tryz.zd_69 : zeroD Tryz.prog 69 = some (.raw .nilFunc) := by kernel_rfl
@[simp] theorem Tryz.ez_71 : esz Tryz.prog 71 = some (1, 8) := by kernel_rfl
@[simp] theorem Tryz.sz_71 : szOf Tryz.prog 71 = some 1 := by kernel_rfl
@[simp] theorem Tryz.tk_71 : tyk Tryz.prog 71 = some (false, 1) := by kernel_rfl
@[simp] theorem Tryz.zd_71 : zeroD Tryz.prog 71 = some (.raw .nilFunc) := by kernel_rfl
@[simp] theorem Tryz.ez_72 : esz Tryz.prog 72 = some (1, 8) := by kernel_rfl
@[simp] theorem Tryz.sz_72 : szOf Tryz.prog 72 = some 1 := by kernel_rfl
@[simp] theorem Tryz.tk_72 : tyk Tryz.prog 72 = some (false, 1) := by kernel_rfl
@[simp] theorem Tryz.zd_72 : zeroD Tryz.prog 72 = some (.raw .nilFunc) := by kernel_rfl
@[simp] theorem Tryz.ez_73 : esz Tryz.prog 73 = some (1, 8) := by kernel_rfl
@[simp] theorem Tryz.sz_73 : szOf Tryz.prog 73 = some 1 := by kernel_rfl
@[simp] theorem Tryz.tk_73 : tyk Tryz.prog 73 = some (false, 1) := by kernel_rfl
@[simp] theorem Tryz.zd_73 : zeroD Tryz.prog 73 = some (.raw .nilFunc) := by kernel_rfl
@[simp] theorem Tryz.ez_74 : esz Tryz.prog 74 = some (1, 8) := by kernel_rfl
@[simp] theorem Tryz.sz_74 : szOf Tryz.prog 74 = some 1 := by kernel_rfl
@[simp] theorem Tryz.tk_74 : tyk Tryz.prog 74 = some (false, 1) := by kernel_rfl
@[simp] theorem Tryz.zd_74 : zeroD Tryz.prog 74 = some (.raw .nilFunc) := by kernel_rfl
@[simp] theorem Tryz.ez_75 : esz Tryz.prog 75 = some (1, 8) := by kernel_rfl
@[simp] theorem Tryz.sz_75 : szOf Tryz.prog 75 = some 1 := by kernel_rfl
@[simp] theorem Tryz.tk_75 : tyk Tryz.prog 75 = some (false, 1) := by kernel_rfl
@[simp] theorem Tryz.zd_75 : zeroD Tryz.prog 75 = some (.raw .nilFunc) := by kernel_rfl
@[simp] theorem Tryz.ez_76 : esz Tryz.prog 76 = some (1, 8) := by kernel_rfl
@[simp] theorem Tryz.sz_76 : szOf Tryz.prog 76 = some 1 := by kernel_rfl
@[simp] theorem Tryz.tk_76 : tyk Tryz.prog 76 = some (false, 1) := by kernel_rfl
@[simp] theorem Tryz.zd_76 : zeroD Tryz.prog 76 = some (.raw .nilFunc) := by kernel_rfl
@[simp] theorem Tryz.ez_77 : esz Tryz.prog 77 = some (1, 8) := by kernel_rfl
@[simp] theorem Tryz.sz_77 : szOf Tryz.prog 77 = some 1 := by kernel_rfl
@[simp] theorem Tryz.tk_77 : tyk Tryz.prog 77 = some (false, 1) := by kernel_rfl
@[simp] theorem Tryz.zd_77 : zeroD Tryz.prog 77 = some (.raw .nilFunc) := by kernel_rfl
@[simp] theorem Tryz.ez_78 : esz Tryz.prog 78 = some (1, 8) := by kernel_rfl
@[simp] theorem Tryz.sz_78 : szOf Tryz.prog 78 = some 1 := by kernel_rfl
@[simp] theorem Tryz.tk_78 : tyk Tryz.prog 78 = some (false, 1) := by kernel_rfl
@[simp] theorem Tryz.zd_78 : zeroD Tryz.prog 78 = some (.raw .nilFunc) := by kernel_rfl
@[simp] theorem Tryz.ez_79 : esz Tryz.prog 79 = some (1, 8) := by kernel_rfl
@[simp] theorem Tryz.sz_79 : szOf Tryz.prog 79 = some 1 := by kernel_rfl
@[simp] theorem Tryz.tk_79 : tyk Tryz.prog 79 = some (false, 1) := by kernel_rfl
@[simp] theorem Tryz.zd_79 : zeroD Tryz.prog 79 = some (.raw .nilFunc) := by kernel_rfl
@[simp] theorem Tryz.ez_80 : esz Tryz.prog 80 = some (1, 8) := by kernel_rfl
@[simp] theorem Tryz.sz_80 : szOf Tryz.prog 80 = some 1 := by kernel_rfl
@[simp] theorem Tryz.tk_80 : tyk Tryz.prog 80 = some (false, 1) := by kernel_rfl
@[simp] theorem Tryz.zd_80 : zeroD Tryz.prog 80 = some (.raw .nilFunc) := by kernel_rfl
@[simp] theorem Tryz.ez_81 : esz Tryz.prog 81 = some (1, 8) := by kernel_rfl
@[simp] theorem Tryz.sz_81 : szOf Tryz.prog 81 = some 1 := by kernel_rfl
@[simp] theorem Tryz.tk_81 : tyk Tryz.prog 81 = some (false, 1) := by kernel_rfl
@[simp] theorem Tryz.zd_81 : zeroD Tryz.prog 81 = some (.raw .nilFunc) := by kernel_rfl
@[simp] theorem Tryz.ez_82 : esz Tryz.prog 82 = some (1, 8) := by kernel_rfl
@[simp] theorem Tryz.sz_82 : szOf Tryz.prog 82 = some 1 := by kernel_rfl
@[simp] theorem Tryz.tk_82 : tyk Tryz.prog 82 = some (false, 1) := by kernel_rfl
@[simp] theorem Tryz.zd_82 : zeroD Tryz.prog 82 = some (.raw .nilFunc) := by kernel_rfl
@[simp] theorem Tryz.ez_83 : esz Tryz.prog 83 = some (1, 8) := by kernel_rfl
@[simp] theorem Tryz.sz_83 : szOf Tryz.prog 83 = some 1 := by kernel_rfl
@[simp] theorem Tryz.tk_83 : tyk Tryz.prog 83 = some (false, 1) := by kernel_rfl
@[simp] theorem Tryz.zd_83 : zeroD Tryz.prog 83 = some (.raw .nilFunc) := by kernel_rfl
@[simp] theorem Tryz.ez_84 : esz Tryz.prog 84 = some (1, 8) := by kernel_rfl
@[simp] theorem Tryz.sz_84 : szOf Tryz.prog 84 = some 1 := by kernel_rfl
@[simp] theorem Tryz.tk_84 : tyk Tryz.prog 84 = some (false, 1) := by kernel_rfl
@[simp] theorem Tryz.zd_84 : zeroD Tryz.prog 84 = some (.raw .nilFunc) := by kernel_rfl
@[simp] theorem Tryz.ez_85 : esz Tryz.prog 85 = some (1, 8) := by kernel_rfl
@[simp] theorem Tryz.sz_85 : szOf Tryz.prog 85 = some 1 := by kernel_rfl
@[simp] theorem Tryz.tk_85 : tyk Tryz.prog 85 = some (false, 1) := by kernel_rfl
@[simp] theorem Tryz.zd_85 : zeroD Tryz.prog 85 = some (.raw .nilFunc) := by kernel_rfl
@[simp] theorem Tryz.ez_86 : esz Tryz.prog 86 = some (1, 8) := by kernel_rfl
@[simp] theorem Tryz.sz_86 : szOf Tryz.prog 86 = some 1 := by kernel_rfl
@[simp] theorem Tryz.tk_86 : tyk Tryz.prog 86 = some (false, 1) := by kernel_rfl
@[simp] theorem Tryz.zd_86 : zeroD Tryz.prog 86 = some (.raw .nilFunc) := by kernel_rfl
@[simp] theorem Tryz.ez_87 : esz Tryz.prog 87 = some (1, 8) := by kernel_rfl
@[simp] theorem Tryz.sz_87 : szOf Tryz.prog 87 = some 1 := by kernel_rfl
@[simp] theorem Tryz.tk_87 : tyk Tryz.prog 87 = some (false, 1) := by kernel_rfl
@[simp] theorem Tryz.zd_87 : zeroD Tryz.prog 87 = some (.raw .nilFunc) := by kernel_rfl
@[simp] theorem Tryz.ez_88 : esz Tryz.prog 88 = some (1, 8) := by kernel_rfl
@[simp] theorem Tryz.sz_88 : szOf Tryz.prog 88 = some 1 := by kernel_rfl
@[simp] theorem Tryz.tk_88 : tyk Tryz.prog 88 = some (false, 1) := by kernel_rfl
@[simp] theorem Tryz.zd_88 : zeroD Tryz.prog 88 = some (.raw .nilFunc) := by kernel_rfl
@[simp] theorem Tryz.ez_89 : esz Tryz.prog 89 = some (1, 8) := by kernel_rfl
@[simp] theorem Tryz.sz_89 : szOf Tryz.prog 89 = some 1 := by kernel_rfl
@[simp] theorem Tryz.tk_89 : tyk Tryz.prog 89 = some (false, 1) := by kernel_rfl
@[simp] theorem Tryz.zd_89 : zeroD Tryz.prog 89 = some (.raw .nilFunc) := by kernel_rfl
@[simp] theorem Tryz.ez_90 : esz Tryz.prog 90 = some (1, 8) := by kernel_rfl
@[simp] theorem Tryz.sz_90 : szOf Tryz.prog 90 = some 1 := by kernel_rfl
@[simp] theorem Tryz.tk_90 : tyk Tryz.prog 90 = some (false, 1) := by kernel_rfl
@[simp] theorem Tryz.zd_90 : zeroD Tryz.prog 90 = some (.raw .nilFunc) := by kernel_rfl
@[simp] theorem Tryz.ez_91 : esz Tryz.prog 91 = some (1, 8) := by kernel_rfl
@[simp] theorem Tryz.sz_91 : szOf Tryz.prog 91 = some 1 := by kernel_rfl
@[simp] theorem Tryz.tk_91 : tyk Tryz.prog 91 = some (false, 1) := by kernel_rfl
@[simp] theorem Tryz.zd_91 : zeroD Tryz.prog 91 = some (.raw .nilFunc) := by kernel_rfl
@[simp] theorem Tryz.ez_92 : esz Tryz.prog 92 = some (1, 8) := by kernel_rfl
@[simp] theorem Tryz.sz_92 : szOf Tryz.prog 92 = some 1 := by kernel_rfl
@[simp] theorem Tryz.tk_92 : tyk Tryz.prog 92 = some (false, 1) := by kernel_rfl
@[simp] theorem Tryz.zd_92 : zeroD Tryz.prog 92 = some (.raw .nilFunc) := by kernel_rfl
@[simp] theorem Tryz.ez_93 : esz Tryz.prog 93 = some (1, 8) := by kernel_rfl
@[simp] theorem Tryz.sz_93 : szOf Tryz.prog 93 = some 1 := by kernel_rfl
@[simp] theorem Tryz.tk_93 : tyk Tryz.prog 93 = some (false, 1) := by kernel_rfl
@[simp] theorem Tryz.zd_93 : zeroD Tryz.prog 93 = some (.raw .nilFunc) := by kernel_rfl
@[simp] theorem Tryz.ez_94 : esz Tryz.prog 94 = some (1, 8) := by kernel_rfl
@[simp] theorem Tryz.sz_94 : szOf Tryz.prog 94 = some 1 := by kernel_rfl
@[simp] theorem Tryz.tk_94 : tyk Tryz.prog 94 = some (false, 1) := by kernel_rfl
@[simp] theorem Tryz.zd_94 : zeroD Tryz.prog 94 = some (.raw .nilFunc) := by kernel_rfl
@[simp] theorem Tryz.ez_95 : esz Tryz.prog 95 = some (1, 8) := by kernel_rfl
@[simp] theorem Tryz.sz_95 : szOf Tryz.prog 95 = some 1 := by kernel_rfl
@[simp] theorem Tryz.tk_95 : tyk Tryz.prog 95 = some (false, 1) := by kernel_rfl
@[simp] theorem Tryz.zd_95 : zeroD Tryz.prog 95 = some (.raw .nilFunc) := by kernel_rfl
@[simp] theorem Tryz.ez_96 : esz Tryz.prog 96 = some (1, 8) := by kernel_rfl
@[simp] theorem Tryz.sz_96 : szOf Tryz.prog 96 = some 1 := by kernel_rfl
@[simp] theorem Tryz.tk_96 : tyk Tryz.prog 96 = some (false, 1) := by kernel_rfl
@[simp] theorem Tryz.zd_96 : zeroD Tryz.prog 96 = some (.raw .nilFunc) := by kernel_rfl
@[simp] theorem Tryz.ez_97 : esz Tryz.prog 97 = some (1, 8) := by kernel_rfl
@[simp] theorem Tryz.sz_97 : szOf Tryz.prog 97 = some 1 := by kernel_rfl
@[simp] theorem Tryz.tk_97 : tyk Tryz.prog 97 = some (false, 1) := by kernel_rfl
@[simp] theorem Tryz.zd_97 : zeroD Tryz.prog 97 = some (.raw .nilFunc) := by kernel_rfl
@[simp] theorem Tryz.ez_98 : esz Tryz.prog 98 = some (1, 8) := by kernel_rfl
@[simp] theorem Tryz.sz_98 : szOf Tryz.prog 98 = some 1 := by kernel_rfl
@[simp] theorem Tryz.tk_98 : tyk Tryz.prog 98 = some (false, 1) := by kernel_rfl
@[simp] theorem Tryz.zd_98 : zeroD Tryz.prog 98 = some (.raw .nilFunc) := by kernel_rfl
@[simp] theorem Tryz.u_99 : Program.underlying Tryz.prog 99 = some (.pointer 102) := by kernel_rfl
@[simp] theorem Tryz.ez_99 : esz Tryz.prog 99 = some (1, 8) := by kernel_rfl
@[simp] theorem Tryz.sz_99 : szOf Tryz.prog 99 = some 1 := by kernel_rfl
@[simp] theorem Tryz.tk_99 : tyk Tryz.prog 99 = some (false, 1) := by kernel_rfl
@[simp] theorem Tryz.zd_99 : zeroD Tryz.prog 99 = some (.nilp) := by kernel_rfl
@[simp] theorem Tryz.u_100 : Program.underlying Tryz.prog 100 = some (.slice 5) := by kernel_rfl
@[simp] theorem Tryz.se_100 : sliceE Tryz.prog 100 = some 5 := by kernel_rfl
@[simp] theorem Tryz.ez_100 : esz Tryz.prog 100 = some (1, 24) := by kernel_rfl
@[simp] theorem Tryz.sz_100 : szOf Tryz.prog 100 = some 1 := by kernel_rfl
@[simp] theorem Tryz.tk_100 : tyk Tryz.prog 100 = some (false, 1) := by kernel_rfl
@[simp] theorem Tryz.zd_100 : zeroD Tryz.prog 100 = some (.sl []) := by kernel_rfl
@[simp] theorem Tryz.ez_101 : esz Tryz.prog 101 = some (2, 32) := by kernel_rfl
@[simp] theorem Tryz.sz_101 : szOf Tryz.prog 101 = some 2 := by kernel_rfl
@[simp] theorem Tryz.tk_101 : tyk Tryz.prog 101 = some (true, 2) := by kernel_rfl
@[simp] theorem Tryz.zd_101 : zeroD Tryz.prog 101 = some (.agg [.nilp, .sl []]) := by kernel_rfl
@[simp] theorem Tryz.sd_101 : structD Tryz.prog 101 = some [.nilp, .sl []] := by kernel_rfl
@[simp] theorem Tryz.fo_101_0 : fieldOff Tryz.prog 101 0 = some 0 := by kernel_rfl
@[simp] theorem Tryz.fo_101_1 : fieldOff Tryz.prog 101 1 = some 1 := by kernel_rfl
@[simp] theorem Tryz.ez_102 : esz Tryz.prog 102 = some (2, 32) := by kernel_rfl
@[simp] theorem Tryz.sz_102 : szOf Tryz.prog 102 = some 2 := by kernel_rfl
@[simp] theorem Tryz.tk_102 : tyk Tryz.prog 102 = some (true, 2) := by kernel_rfl
@[simp] theorem Tryz.zd_102 : zeroD Tryz.prog 102 = some (.agg [.nilp, .sl []]) := by kernel_rfl
@[simp] theorem Tryz.sd_102 : structD Tryz.prog 102 = some [.nilp, .sl []] := by kernel_rfl
@[simp] theorem Tryz.fo_102_0 : fieldOff Tryz.prog 102 0 = some 0 := by kernel_rfl
@[simp] theorem Tryz.fo_102_1 : fieldOff Tryz.prog 102 1 = some 1 := by kernel_rfl
@[simp] theorem Tryz.ez_106 : esz Tryz.prog 106 = some (1, 8) := by kernel_rfl
@[simp] theorem Tryz.sz_106 : szOf Tryz.prog 106 = some 1 := by kernel_rfl
@[simp] theorem Tryz.tk_106 : tyk Tryz.prog 106 = some (false, 1) := by kernel_rfl
@[simp] theorem Tryz.zd_106 : zeroD Tryz.prog 106 = some (.raw .nilFunc) := by kernel_rfl
@[simp] theorem Tryz.ez_107 : esz Tryz.prog 107 = some (1, 8) := by kernel_rfl
@[simp] theorem Tryz.sz_107 : szOf Tryz.prog 107 = some 1 := by kernel_rfl
@[simp] theorem Tryz.tk_107 : tyk Tryz.prog 107 = some (false, 1) := by kernel_rfl
@[simp] theorem Tryz.zd_107 : zeroD Tryz.prog 107 = some (.raw .nilFunc) := by kernel_rfl
@[simp] theorem Tryz.ez_109 : esz Tryz.prog 109 = some (1, 8) := by kernel_rfl
@[simp] theorem Tryz.sz_109 : szOf Tryz.prog 109 = some 1 := by kernel_rfl
@[simp] theorem Tryz.tk_109 : tyk Tryz.prog 109 = some (false, 1) := by kernel_rfl
@[simp] theorem Tryz.zd_109 : zeroD Tryz.prog 109 = some (.raw .nilFunc) := by kernel_rfl
@[simp] theorem Tryz.ez_110 : esz Tryz.prog 110 = some (1, 8) := by kernel_rfl
@[simp] theorem Tryz.sz_110 : szOf Tryz.prog 110 = some 1 := by kernel_rfl
@[simp] theorem Tryz.tk_110 : tyk Tryz.prog 110 = some (false, 1) := by kernel_rfl
@[simp] theorem Tryz.zd_110 : zeroD Tryz.prog 110 = some (.raw .nilFunc) := by kernel_rfl
@[simp] theorem Tryz.ez_111 : esz Tryz.prog 111 = some (1, 8) := by kernel_rfl
@[simp] theorem Tryz.sz_111 : szOf Tryz.prog 111 = some 1 := by kernel_rfl
@[simp] theorem Tryz.tk_111 : tyk Tryz.prog 111 = some (false, 1) := by kernel_rfl
@[simp] theorem Tryz.zd_111 : zeroD Tryz.prog 111 = some (.raw .nilFunc) := by kernel_rfl
@[simp] theorem Tryz.ez_112 : esz Tryz.prog 112 = some (1, 8) := by kernel_rfl
@[simp] theorem Tryz.sz_112 : szOf Tryz.prog 112 = some 1 := by kernel_rfl
@[simp] theorem Tryz.tk_112 : tyk Tryz.prog 112 = some (false, 1) := by kernel_rfl
@[simp] theorem Tryz.zd_112 : zeroD Tryz.prog 112 = some (.raw .nilFunc) := by kernel_rfl
@[simp] theorem Tryz.ez_113 : esz Tryz.prog 113 = some (1, 8) := by kernel_rfl
@[simp] theorem Tryz.sz_113 : szOf Tryz.prog 113 = some 1 := by kernel_rfl
@[simp] theorem Tryz.tk_113 : tyk Tryz.prog 113 = some (false, 1) := by kernel_rfl
@[simp] theorem Tryz.zd_113 : zeroD Tryz.prog 113 = some (.raw .nilFunc) := by kernel_rfl
@[simp] theorem Tryz.u_114 : Program.underlying Tryz.prog 114 = some (.int .u64) := by kernel_rfl
@[simp] theorem Tryz.se_114 : sliceE Tryz.prog 114 = none := by kernel_rfl
@[simp] theorem Tryz.ez_114 : esz Tryz.prog 114 = some (1, 8) := by kernel_rfl
@[simp] theorem Tryz.sz_114 : szOf Tryz.prog 114 = some 1 := by kernel_rfl
@[simp] theorem Tryz.tk_114 : tyk Tryz.prog 114 = some (false, 1) := by kernel_rfl
@[simp] theorem Tryz.zd_114 : zeroD Tryz.prog 114 = some (.int .u64 0) := by kernel_rfl
@[simp] theorem Tryz.ez_115 : esz Tryz.prog 115 = some (1, 8) := by kernel_rfl
@[simp] theorem Tryz.sz_115 : szOf Tryz.prog 115 = some 1 := by kernel_rfl
@[simp] theorem Tryz.tk_115 : tyk Tryz.prog 115 = some (false, 1) := by kernel_rfl
@[simp] theorem Tryz.zd_115 : zeroD Tryz.prog 115 = some (.raw .nilFunc) := by kernel_rfl
@[simp] theorem Tryz.ez_116 : esz Tryz.prog 116 = some (1, 8) := by kernel_rfl
@[simp] theorem Tryz.sz_116 : szOf Tryz.prog 116 = some 1 := by kernel_rfl
@[simp] theorem Tryz.tk_116 : tyk Tryz.prog 116 = some (false, 1) := by kernel_rfl
@[simp] theorem Tryz.zd_116 : zeroD Tryz.prog 116 = some (.raw .nilFunc) := by kernel_rfl
@[simp] theorem Tryz.ez_117 : esz Tryz.prog 117 = some (1, 8) := by kernel_rfl
@[simp] theorem Tryz.sz_117 : szOf Tryz.prog 117 = some 1 := by kernel_rfl
@[simp] theorem Tryz.tk_117 : tyk Tryz.prog 117 = some (false, 1) := by kernel_rfl
@[simp] theorem Tryz.zd_117 : zeroD Tryz.prog 117 = some (.raw .nilFunc) := by kernel_rfl
@[simp] theorem Tryz.ez_118 : esz Tryz.prog 118 = some (1, 8) := by kernel_rfl
@[simp] theorem Tryz.sz_118 : szOf Tryz.prog 118 = some 1 := by kernel_rfl
@[simp] theorem Tryz.tk_118 : tyk Tryz.prog 118 = some (false, 1) := by kernel_rfl
@[simp] theorem Tryz.zd_118 : zeroD Tryz.prog 118 = some (.raw .nilFunc) := by kernel_rfl
@[simp] theorem Tryz.u_119 : Program.underlying Tryz.prog 119 = some (.slice 173) := by kernel_rfl
@[simp] theorem Tryz.se_119 : sliceE Tryz.prog 119 = some 173 := by kernel_rfl
@[simp] theorem Tryz.ez_119 : esz Tryz.prog 119 = some (1, 24) := by kernel_rfl
@[simp] theorem Tryz.sz_119 : szOf Tryz.prog 119 = some 1 := by kernel_rfl
@[simp] theorem Tryz.tk_119 : tyk Tryz.prog 119 = some (false, 1) := by kernel_rfl
@[simp] theorem Tryz.zd_119 : zeroD Tryz.prog 119 = some (.sl []) := by kernel_rfl
@[simp] theorem Tryz.ez_121 : esz Tryz.prog 121 = some (1, 8) := by kernel_rfl
@[simp] theorem Tryz.sz_121 : szOf Tryz.prog 121 = some 1 := by kernel_rfl
@[simp] theorem Tryz.tk_121 : tyk Tryz.prog 121 = some (false, 1) := by kernel_rfl
@[simp] theorem Tryz.zd_121 : zeroD Tryz.prog 121 = some (.raw .nilFunc) := by kernel_rfl
@[simp] theorem Tryz.ez_122 : esz Tryz.prog 122 = some (1, 8) := by kernel_rfl
@[simp] theorem Tryz.sz_122 : szOf Tryz.prog 122 = some 1 := by kernel_rfl
@[simp] theorem Tryz.tk_122 : tyk Tryz.prog 122 = some (false, 1) := by kernel_rfl
@[simp] theorem Tryz.zd_122 : zeroD Tryz.prog 122 = some (.raw .nilFunc) := by kernel_rfl
@[simp] theorem Tryz.u_123 : Program.underlying Tryz.prog 123 = some (.slice 28) := by kernel_rfl
@[simp] theorem Tryz.se_123 : sliceE Tryz.prog 123 = some 28 := by kernel_rfl
@[simp] theorem Tryz.ez_123 : esz Tryz.prog 123 = some (1, 24) := by kernel_rfl
@[simp] theorem Tryz.sz_123 : szOf Tryz.prog 123 = some 1 := by kernel_rfl
@[simp] theorem Tryz.tk_123 : tyk Tryz.prog 123 = some (false, 1) := by kernel_rfl
@[simp] theorem Tryz.zd_123 : zeroD Tryz.prog 123 = some (.sl []) := by kernel_rfl
@[simp] theorem Tryz.ez_124 : esz Tryz.prog 124 = some (1, 8) := by kernel_rfl
@[simp] theorem Tryz.sz_124 : szOf Tryz.prog 124 = some 1 := by kernel_rfl
@[simp] theorem Tryz.tk_124 : tyk Tryz.prog 124 = some (false, 1) := by kernel_rfl
@[simp] theorem Tryz.zd_124 : zeroD Tryz.prog 124 = some (.raw .nilFunc) := by kernel_rfl
@[simp] theorem Tryz.ez_125 : esz Tryz.prog 125 = some (1, 8) := by kernel_rfl
@[simp] theorem Tryz.sz_125 : szOf Tryz.prog 125 = some 1 := by kernel_rfl
@[simp] theorem Tryz.tk_125 : tyk Tryz.prog 125 = some (false, 1) := by kernel_rfl
@[simp] theorem Tryz.zd_125 : zeroD Tryz.prog 125 = some (.raw .nilFunc) := by kernel_rfl
@[simp] theorem Tryz.ez_126 : esz Tryz.prog 126 = some (1, 8) := by kernel_rfl
@[simp] theorem Tryz.sz_126 : szOf Tryz.prog 126 = some 1 := by kernel_rfl
@[simp] theorem Tryz.tk_126 : tyk Tryz.prog 126 = some (false, 1) := by kernel_rfl
@[simp] theorem Tryz.zd_126 : zeroD Tryz.prog 126 = some (.raw .nilFunc) := by kernel_rfl
@[simp] theorem Tryz.ez_127 : esz Tryz.prog 127 = some (1, 8) := by kernel_rfl
@[simp] theorem Tryz.sz_127 : szOf Tryz.prog 127 = some 1 := by kernel_rfl
@[simp] theorem Tryz.tk_127 : tyk Tryz.prog 127 = some (false, 1) := by kernel_rfl
@[simp] theorem Tryz.zd_127 : zeroD Tryz.prog 127 = some (.raw .nilFunc) := by kernel_rfl
@[simp] theorem Tryz.ez_128 : esz Tryz.prog 128 = some (1, 8) := by kernel_rfl
@[simp] theorem Tryz.sz_128 : szOf Tryz.prog 128 = some 1 := by kernel_rfl
@[simp] theorem Tryz.tk_128 : tyk Tryz.prog 128 = some (false, 1) := by kernel_rfl
@[simp] theorem Tryz.zd_128 : zeroD Tryz.prog 128 = some (.raw .nilFunc) := by kernel_rfl
@[simp] theorem Tryz.ez_129 : esz Tryz.prog 129 = some (1, 8) := by kernel_rfl
@[simp] theorem Tryz.sz_129 : szOf Tryz.prog 129 = some 1 := by kernel_rfl
@[simp] theorem Tryz.tk_129 : tyk Tryz.prog 129 = some (false, 1) := by kernel_rfl
@[simp] theorem Tryz.zd_129 : zeroD Tryz.prog 129 = some (.raw .nilFunc) := by kernel_rfl
@[simp] theorem Tryz.ez_130 : esz Tryz.prog 130 = some (1, 8) := by kernel_rfl
@[simp] theorem Tryz.sz_130 : szOf Tryz.prog 130 = some 1 := by kernel_rfl
@[simp] theorem Tryz.tk_130 : tyk Tryz.prog 130 = some (false, 1) := by kernel_rfl
@[simp] theorem Tryz.zd_130 : zeroD Tryz.prog 130 = some (.raw .nilFunc) := by kernel_rfl
@[simp] theorem Tryz.ez_131 : esz Tryz.prog 131 = some (1, 8) := by kernel_rfl
@[simp] theorem Tryz.sz_131 : szOf Tryz.prog 131 = some 1 := by kernel_rfl
@[simp] theorem Tryz.tk_131 : tyk Tryz.prog 131 = some (false, 1) := by kernel_rfl
@[simp] theorem Tryz.zd_131 : zeroD Tryz.prog 131 = some (.raw .nilFunc) := by kernel_rfl
@[simp] theorem Tryz.ez_132 : esz Tryz.prog 132 = some (1, 8) := by kernel_rfl
@[simp] theorem Tryz.sz_132 : szOf Tryz.prog 132 = some 1 := by kernel_rfl
@[simp] theorem Tryz.tk_132 : tyk Tryz.prog 132 = some (false, 1) := by kernel_rfl
@[simp] theorem Tryz.zd_132 : zeroD Tryz.prog 132 = some (.raw .nilFunc) := by kernel_rfl
@[simp] theorem Tryz.ez_133 : esz Tryz.prog 133 = some (1, 8) := by kernel_rfl
@[simp] theorem Tryz.sz_133 : szOf Tryz.prog 133 = some 1 := by kernel_rfl
@[simp] theorem Tryz.tk_133 : tyk Tryz.prog 133 = some (false, 1) := by kernel_rfl
@[simp] theorem Tryz.zd_133 : zeroD Tryz.prog 133 = some (.raw .nilFunc) := by kernel_rfl
@[simp] theorem Tryz.u_134 : Program.underlying Tryz.prog 134 = some (.pointer 5) := by kernel_rfl
@[simp] theorem Tryz.ez_134 : esz Tryz.prog 134 = some (1, 8) := by kernel_rfl
@[simp] theorem Tryz.sz_134 : szOf Tryz.prog 134 = some 1 := by kernel_rfl
@[simp] theorem Tryz.tk_134 : tyk Tryz.prog 134 = some (false, 1) := by kernel_rfl
@[simp] theorem Tryz.zd_134 : zeroD Tryz.prog 134 = some (.nilp) := by kernel_rfl
@[simp] theorem Tryz.ez_135 : esz Tryz.prog 135 = some (1, 8) := by kernel_rfl
@[simp] theorem Tryz.sz_135 : szOf Tryz.prog 135 = some 1 := by kernel_rfl
@[simp] theorem Tryz.tk_135 : tyk Tryz.prog 135 = some (false, 1) := by kernel_rfl
@[simp] theorem Tryz.zd_135 : zeroD Tryz.prog 135 = some (.raw .nilFunc) := by kernel_rfl
@[simp] theorem Tryz.ez_136 : esz Tryz.prog 136 = some (1, 8) := by kernel_rfl
@[simp] theorem Tryz.sz_136 : szOf Tryz.prog 136 = some 1 := by kernel_rfl
@[simp] theorem Tryz.tk_136 : tyk Tryz.prog 136 = some (false, 1) := by kernel_rfl
@[simp] theorem Tryz.zd_136 : zeroD Tryz.prog 136 = some (.raw .nilFunc) := by kernel_rfl
@[simp] theorem Tryz.ez_138 : esz Tryz.prog 138 = some (1, 8) := by kernel_rfl
@[simp] theorem Tryz.sz_138 : szOf Tryz.prog 138 = some 1 := by kernel_rfl
@[simp] theorem Tryz.tk_138 : tyk Tryz.prog 138 = some (false, 1) := by kernel_rfl
@[simp] theorem Tryz.zd_138 : zeroD Tryz.prog 138 = some (.raw .nilFunc) := by kernel_rfl
@[simp] theorem Tryz.ez_139 : esz Tryz.prog 139 = some (1, 8) := by kernel_rfl
@[simp] theorem Tryz.sz_139 : szOf Tryz.prog 139 = some 1 := by kernel_rfl
@[simp] theorem Tryz.tk_139 : tyk Tryz.prog 139 = some (false, 1) := by kernel_rfl
@[simp] theorem Tryz.zd_139 : zeroD Tryz.prog 139 = some (.raw .nilFunc) := by kernel_rfl
@[simp] theorem Tryz.ez_140 : esz Tryz.prog 140 = some (1, 8) := by kernel_rfl
@[simp] theorem Tryz.sz_140 : szOf Tryz.prog 140 = some 1 := by kernel_rfl
@[simp] theorem Tryz.tk_140 : tyk Tryz.prog 140 = some (false, 1) := by kernel_rfl
@[simp] theorem Tryz.zd_140 : zeroD Tryz.prog 140 = some (.raw .nilFunc) := by kernel_rfl
@[simp] theorem Tryz.ez_141 : esz Tryz.prog 141 = some (1, 8) := by kernel_rfl
@[simp] theorem Tryz.sz_141 : szOf Tryz.prog 141 = some 1 := by kernel_rfl
@[simp] theorem Tryz.tk_141 : tyk Tryz.prog 141 = some (false, 1) := by kernel_rfl
@[simp] theorem Tryz.zd_141 : zeroD Tryz.prog 141 = some (.raw .nilFunc) := by kernel_rfl
@[simp] theorem Tryz.ez_144 : esz Tryz.prog 144 = some (1, 8) := by kernel_rfl
@[simp] theorem Tryz.sz_144 : szOf Tryz.prog 144 = some 1 := by kernel_rfl
@[simp] theorem Tryz.tk_144 : tyk Tryz.prog 144 = some (false, 1) := by kernel_rfl
@[simp] theorem Tryz.zd_144 : zeroD Tryz.prog 144 = some (.raw .nilFunc) := by kernel_rfl
@[simp] theorem Tryz.ez_145 : esz Tryz.prog 145 = some (1, 8) := by kernel_rfl
@[simp] theorem Tryz.sz_145 : szOf Tryz.prog 145 = some 1 := by kernel_rfl
@[simp] theorem Tryz.tk_145 : tyk Tryz.prog 145 = some (false, 1) := by kernel_rfl
@[simp] theorem Tryz.zd_145 : zeroD Tryz.prog 145 = some (.raw .nilFunc) := by kernel_rfl
@[simp] theorem Tryz.ez_146 : esz Tryz.prog 146 = some (1, 8) := by kernel_rfl
@[simp] theorem Tryz.sz_146 : szOf Tryz.prog 146 = some 1 := by kernel_rfl
@[simp] theorem Tryz.tk_146 : tyk Tryz.prog 146 = some (false, 1) := by kernel_rfl
@[simp] theorem Tryz.zd_146 : zeroD Tryz.prog 146 = some (.raw .nilFunc) := by kernel_rfl
@[simp] theorem Tryz.ez_148 : esz Tryz.prog 148 = some (1, 8) := by kernel_rfl
@[simp] theorem Tryz.sz_148 : szOf Tryz.prog 148 = some 1 := by kernel_rfl
@[simp] theorem Tryz.tk_148 : tyk Tryz.prog 148 = some (false, 1) := by kernel_rfl
@[simp] theorem Tryz.zd_148 : zeroD Tryz.prog 148 = some (.raw .nilFunc) := by kernel_rfl
@[simp] theorem Tryz.ez_149 : esz Tryz.prog 149 = some (1, 8) := by kernel_rfl
@[simp] theorem Tryz.sz_149 : szOf Tryz.prog 149 = some 1 := by kernel_rfl
@[simp] theorem Tryz.tk_149 : tyk Tryz.prog 149 = some (false, 1) := by kernel_rfl
@[simp] theorem Tryz.zd_149 : zeroD Tryz.prog 149 = some (.raw .nilFunc) := by kernel_rfl
@[simp] theorem Tryz.u_150 : Program.underlying Tryz.prog 150 = some (.int .u32) := by kernel_rfl
@[simp] theorem Tryz.se_150 : sliceE Tryz.prog 150 = none := by kernel_rfl
@[simp] theorem Tryz.ez_150 : esz Tryz.prog 150 = some (1, 4) := by kernel_rfl
@[simp] theorem Tryz.sz_150 : szOf Tryz.prog 150 = some 1 := by kernel_rfl
@[simp] theorem Tryz.tk_150 : tyk Tryz.prog 150 = some (false, 1) := by kernel_rfl
@[simp] theorem Tryz.zd_150 : zeroD Tryz.prog 150 = some (.int .u32 0) := by kernel_rfl
@[simp] theorem Tryz.ez_151 : esz Tryz.prog 151 = some (1, 8) := by kernel_rfl
@[simp] theorem Tryz.sz_151 : szOf Tryz.prog 151 = some 1 := by kernel_rfl
@[simp] theorem Tryz.tk_151 : tyk Tryz.prog 151 = some (false, 1) := by kernel_rfl
@[simp] theorem Tryz.zd_151 : zeroD Tryz.prog 151 = some (.raw .nilFunc) := by kernel_rfl
@[simp] theorem Tryz.u_152 : Program.underlying Tryz.prog 152 = some (.int .u64) := by kernel_rfl
@[simp] theorem Tryz.se_152 : sliceE Tryz.prog 152 = none := by kernel_rfl
@[simp] theorem Tryz.ez_152 : esz Tryz.prog 152 = some (1, 8) := by kernel_rfl
@[simp] theorem Tryz.sz_152 : szOf Tryz.prog 152 = some 1 := by kernel_rfl
@[simp] theorem Tryz.tk_152 : tyk Tryz.prog 152 = some (false, 1) := by kernel_rfl
@[simp] theorem Tryz.zd_152 : zeroD Tryz.prog 152 = some (.int .u64 0) := by kernel_rfl
@[simp] theorem Tryz.u_153 : Program.underlying Tryz.prog 153 = some (.slice 3) := by kernel_rfl
@[simp] theorem Tryz.se_153 : sliceE Tryz.prog 153 = some 3 := by kernel_rfl
@[simp] theorem Tryz.ez_153 : esz Tryz.prog 153 = some (1, 24) := by kernel_rfl
@[simp] theorem Tryz.sz_153 : szOf Tryz.prog 153 = some 1 := by kernel_rfl
@[simp] theorem Tryz.tk_153 : tyk Tryz.prog 153 = some (false, 1) := by kernel_rfl
@[simp] theorem Tryz.zd_153 : zeroD Tryz.prog 153 = some (.sl []) := by kernel_rfl
@[simp] theorem Tryz.ez_154 : esz Tryz.prog 154 = some (1, 8) := by kernel_rfl
@[simp] theorem Tryz.sz_154 : szOf Tryz.prog 154 = some 1 := by kernel_rfl
@[simp] theorem Tryz.tk_154 : tyk Tryz.prog 154 = some (false, 1) := by kernel_rfl
@[simp] theorem Tryz.zd_154 : zeroD Tryz.prog 154 = some (.raw .nilFunc) := by kernel_rfl
@[simp] theorem Tryz.ez_155 : esz Tryz.prog 155 = some (1, 8) := by kernel_rfl
@[simp] theorem Tryz.sz_155 : szOf Tryz.prog 155 = some 1 := by kernel_rfl
@[simp] theorem Tryz.tk_155 : tyk Tryz.prog 155 = some (false, 1) := by kernel_rfl
@[simp] theorem Tryz.zd_155 : zeroD Tryz.prog 155 = some (.raw .nilFunc) := by kernel_rfl
@[simp] theorem Tryz.ez_156 : esz Tryz.prog 156 = some (1, 8) := by kernel_rfl
@[simp] theorem Tryz.sz_156 : szOf Tryz.prog 156 = some 1 := by kernel_rfl
@[simp] theorem Tryz.tk_156 : tyk Tryz.prog 156 = some (false, 1) := by kernel_rfl
@[simp] theorem Tryz.zd_156 : zeroD Tryz.prog 156 = some (.raw .nilFunc) := by kernel_rfl
@[simp] theorem Tryz.ez_157 : esz Tryz.prog 157 = some (1, 8) := by kernel_rfl
@[simp] theorem Tryz.sz_157 : szOf Tryz.prog 157 = some 1 := by kernel_rfl
@[simp] theorem Tryz.tk_157 : tyk Tryz.prog 157 = some (false, 1) := by kernel_rfl
@[simp] theorem Tryz.zd_157 : zeroD Tryz.prog 157 = some (.raw .nilFunc) := by kernel_rfl
@[simp] theorem Tryz.ez_158 : esz Tryz.prog 158 = some (1, 8) := by kernel_rfl
@[simp] theorem Tryz.sz_158 : szOf Tryz.prog 158 = some 1 := by kernel_rfl
@[simp] theorem Tryz.tk_158 : tyk Tryz.prog 158 = some (false, 1) := by kernel_rfl
@[simp] theorem Tryz.zd_158 : zeroD Tryz.prog 158 = some (.raw .nilFunc) := by kernel_rfl
@[simp] theorem Tryz.ez_159 : esz Tryz.prog 159 = some (1, 8) := by kernel_rfl
@[simp] theorem Tryz.sz_159 : szOf Tryz.prog 159 = some 1 := by kernel_rfl
@[simp] theorem Tryz.tk_159 : tyk Tryz.prog 159 = some (false, 1) := by kernel_rfl
@[simp] theorem Tryz.zd_159 : zeroD Tryz.prog 159 = some (.raw .nilFunc) := by kernel_rfl
@[simp] theorem Tryz.ez_160 : esz Tryz.prog 160 = some (1, 8) := by kernel_rfl
@[simp] theorem Tryz.sz_160 : szOf Tryz.prog 160 = some 1 := by kernel_rfl
@[simp] theorem Tryz.tk_160 : tyk Tryz.prog 160 = some (false, 1) := by kernel_rfl
@[simp] theorem Tryz.zd_160 : zeroD Tryz.prog 160 = some (.raw .nilFunc) := by kernel_rfl
@[simp] theorem Tryz.ez_161 : esz Tryz.prog 161 = some (1, 8) := by kernel_rfl
@[simp] theorem Tryz.sz_161 : szOf Tryz.prog 161 = some 1 := by kernel_rfl
@[simp] theorem Tryz.tk_161 : tyk Tryz.prog 161 = some (false, 1) := by kernel_rfl
@[simp] theorem Tryz.zd_161 : zeroD Tryz.prog 161 = some (.raw .nilFunc) := by kernel_rfl
@[simp] theorem Tryz.ez_162 : esz Tryz.prog 162 = some (1, 8) := by kernel_rfl
@[simp] theorem Tryz.sz_162 : szOf Tryz.prog 162 = some 1 := by kernel_rfl
@[simp] theorem Tryz.tk_162 : tyk Tryz.prog 162 = some (false, 1) := by kernel_rfl
@[simp] theorem Tryz.zd_162 : zeroD Tryz.prog 162 = some (.raw .nilFunc) := by kernel_rfl
@[simp] theorem Tryz.ez_163 : esz Tryz.prog 163 = some (1, 8) := by kernel_rfl
@[simp] theorem Tryz.sz_163 : szOf Tryz.prog 163 = some 1 := by kernel_rfl
@[simp] theorem Tryz.tk_163 : tyk Tryz.prog 163 = some (false, 1) := by kernel_rfl
@[simp] theorem Tryz.zd_163 : zeroD Tryz.prog 163 = some (.raw .nilFunc) := by kernel_rfl
@[simp] theorem Tryz.ez_164 : esz Tryz.prog 164 = some (1, 8) := by kernel_rfl
@[simp] theorem Tryz.sz_164 : szOf Tryz.prog 164 = some 1 := by kernel_rfl
@[simp] theorem Tryz.tk_164 : tyk Tryz.prog 164 = some (false, 1) := by kernel_rfl
@[simp] theorem Tryz.zd_164 : zeroD Tryz.prog 164 = some (.raw .nilFunc) := by kernel_rfl
@[simp] theorem Tryz.ez_165 : esz Tryz.prog 165 = some (1, 8) := by kernel_rfl
@[simp] theorem Tryz.sz_165 : szOf Tryz.prog 165 = some 1 := by kernel_rfl
@[simp] theorem Tryz.tk_165 : tyk Tryz.prog 165 = some (false, 1) := by kernel_rfl
@[simp] theorem Tryz.zd_165 : zeroD Tryz.prog 165 = some (.raw .nilFunc) := by kernel_rfl
@[simp] theorem Tryz.ez_166 : esz Tryz.prog 166 = some (1, 8) := by kernel_rfl
@[simp] theorem Tryz.sz_166 : szOf Tryz.prog 166 = some 1 := by kernel_rfl
@[simp] theorem Tryz.tk_166 : tyk Tryz.prog 166 = some (false, 1) := by kernel_rfl
@[simp] theorem Tryz.zd_166 : zeroD Tryz.prog 166 = some (.raw .nilFunc) := by kernel_rfl
@[simp] theorem Tryz.ez_167 : esz Tryz.prog 167 = some (1, 8) := by kernel_rfl
@[simp] theorem Tryz.sz_167 : szOf Tryz.prog 167 = some 1 := by kernel_rfl
@[simp] theorem Tryz.tk_167 : tyk Tryz.prog 167 = some (false, 1) := by kernel_rfl
@[simp] theorem Tryz.zd_167 : zeroD Tryz.prog 167 = some (.raw .nilFunc) := by kernel_rfl
@[simp] theorem Tryz.ez_169 : esz Tryz.prog 169 = some (1, 8) := by kernel_rfl
@[simp] theorem Tryz.sz_169 : szOf Tryz.prog 169 = some 1 := by kernel_rfl
@[simp] theorem Tryz.tk_169 : tyk Tryz.prog 169 = some (false, 1) := by kernel_rfl
@[simp] theorem Tryz.zd_169 : zeroD Tryz.prog 169 = some (.raw .nilFunc) := by kernel_rfl
@[simp] theorem Tryz.ez_171 : esz Tryz.prog 171 = some (1, 8) := by kernel_rfl
@[simp] theorem Tryz.sz_171 : szOf Tryz.prog 171 = some 1 := by kernel_rfl
@[simp] theorem Tryz.tk_171 : tyk Tryz.prog 171 = some (false, 1) := by kernel_rfl
@[simp] theorem Tryz.zd_171 : zeroD Tryz.prog 171 = some (.raw .nilFunc) := by kernel_rfl
@[simp] theorem Tryz.ez_172 : esz Tryz.prog 172 = some (2, 32) := by kernel_rfl
@[simp] theorem Tryz.sz_172 : szOf Tryz.prog 172 = some 2 := by kernel_rfl
@[simp] theorem Tryz.tk_172 : tyk Tryz.prog 172 = some (true, 2) := by kernel_rfl
@[simp] theorem Tryz.zd_172 : zeroD Tryz.prog 172 = some (.agg [.str [], .str []]) := by kernel_rfl
@[simp] theorem Tryz.sd_172 : structD Tryz.prog 172 = some [.str [], .str []] := by kernel_rfl
@[simp] theorem Tryz.fo_172_0 : fieldOff Tryz.prog 172 0 = some 0 := by kernel_rfl
@[simp] theorem Tryz.fo_172_1 : fieldOff Tryz.prog 172 1 = some 1 := by kernel_rfl
@[simp] theorem Tryz.ez_173 : esz Tryz.prog 173 = some (2, 32) := by kernel_rfl
@[simp] theorem Tryz.sz_173 : szOf Tryz.prog 173 = some 2 := by kernel_rfl
@[simp] theorem Tryz.tk_173 : tyk Tryz.prog 173 = some (true, 2) := by kernel_rfl
@[simp] theorem Tryz.zd_173 : zeroD Tryz.prog 173 = some (.agg [.str [], .str []]) := by kernel_rfl
@[simp] theorem Tryz.sd_173 : structD Tryz.prog 173 = some [.str [], .str []] := by kernel_rfl
@[simp] theorem Tryz.fo_173_0 : fieldOff Tryz.prog 173 0 = some 0 := by kernel_rfl
@[simp] theorem Tryz.fo_173_1 : fieldOff Tryz.prog 173 1 = some 1 := by kernel_rfl
@[simp] theorem Tryz.ez_175 : esz Tryz.prog 175 = some (1, 8) := by kernel_rfl
@[simp] theorem Tryz.sz_175 : szOf Tryz.prog 175 = some 1 := by kernel_rfl
@[simp] theorem Tryz.tk_175 : tyk Tryz.prog 175 = some (false, 1) := by kernel_rfl
@[simp] theorem Tryz.zd_175 : zeroD Tryz.prog 175 = some (.raw .nilFunc) := by kernel_rfl
@[simp] theorem Tryz.ez_176 : esz Tryz.prog 176 = some (1, 8) := by kernel_rfl
@[simp] theorem Tryz.sz_176 : szOf Tryz.prog 176 = some 1 := by kernel_rfl
@[simp] theorem Tryz.tk_176 : tyk Tryz.prog 176 = some (false, 1) := by kernel_rfl
@[simp] theorem Tryz.zd_176 : zeroD Tryz.prog 176 = some (.raw .nilFunc) := by kernel_rfl
@[simp] theorem Tryz.ez_177 : esz Tryz.prog 177 = some (1, 8) := by kernel_rfl
@[simp] theorem Tryz.sz_177 : szOf Tryz.prog 177 = some 1 := by kernel_rfl
@[simp] theorem Tryz.tk_177 : tyk Tryz.prog 177 = some (false, 1) := by kernel_rfl
@[simp] theorem Tryz.zd_177 : zeroD Tryz.prog 177 = some (.raw .nilFunc) := by kernel_rfl
@[simp] theorem Tryz.u_178 : Program.underlying Tryz.prog 178 = some (.array 256 4) := by kernel_rfl
@[simp] theorem Tryz.ez_178 : esz Tryz.prog 178 = some (256, 256) := by kernel_rfl
@[simp] theorem Tryz.sz_178 : szOf Tryz.prog 178 = some 256 := by kernel_rfl
@[simp] theorem Tryz.tk_178 : tyk Tryz.prog 178 = some (true, 256) := by kernel_rfl
@[simp] theorem Tryz.ez_181 : esz Tryz.prog 181 = some (1, 8) := by kernel_rfl
@[simp] theorem Tryz.sz_181 : szOf Tryz.prog 181 = some 1 := by kernel_rfl
@[simp] theorem Tryz.tk_181 : tyk Tryz.prog 181 = some (false, 1) := by kernel_rfl
@[simp] theorem Tryz.zd_181 : zeroD Tryz.prog 181 = some (.raw .nilFunc) := by kernel_rfl
@[simp] theorem Tryz.ez_182 : esz Tryz.prog 182 = some (1, 8) := by kernel_rfl
@[simp] theorem Tryz.sz_182 : szOf Tryz.prog 182 = some 1 := by kernel_rfl
@[simp] theorem Tryz.tk_182 : tyk Tryz.prog 182 = some (false, 1) := by kernel_rfl
@[simp] theorem Tryz.zd_182 : zeroD Tryz.prog 182 = some (.raw .nilFunc) := by kernel_rfl
@[simp] theorem Tryz.ez_185 : esz Tryz.prog 185 = some (1, 8) := by kernel_rfl
@[simp] theorem Tryz.sz_185 : szOf Tryz.prog 185 = some 1 := by kernel_rfl
@[simp] theorem Tryz.tk_185 : tyk Tryz.prog 185 = some (false, 1) := by kernel_rfl
@[simp] theorem Tryz.zd_185 : zeroD Tryz.prog 185 = some (.raw .nilFunc) := by kernel_rfl
@[simp] theorem Tryz.ez_186 : esz Tryz.prog 186 = some (1, 8) := by kernel_rfl
@[simp] theorem Tryz.sz_186 : szOf Tryz.prog 186 = some 1 := by kernel_rfl
@[simp] theorem Tryz.tk_186 : tyk Tryz.prog 186 = some (false, 1) := by kernel_rfl
@[simp] theorem Tryz.zd_186 : zeroD Tryz.prog 186 = some (.raw .nilFunc) := by kernel_rfl
@[simp] theorem Tryz.ez_187 : esz Tryz.prog 187 = some (1, 8) := by kernel_rfl
@[simp] theorem Tryz.sz_187 : szOf Tryz.prog 187 = some 1 := by kernel_rfl
@[simp] theorem Tryz.tk_187 : tyk Tryz.prog 187 = some (false, 1) := by kernel_rfl
@[simp] theorem Tryz.zd_187 : zeroD Tryz.prog 187 = some (.raw .nilFunc) := by kernel_rfl
@[simp] theorem Tryz.u_188 : Program.underlying Tryz.prog 188 = some (.pointer 3) := by kernel_rfl
@[simp] theorem Tryz.ez_188 : esz Tryz.prog 188 = some (1, 8) := by kernel_rfl
@[simp] theorem Tryz.sz_188 : szOf Tryz.prog 188 = some 1 := by kernel_rfl
@[simp] theorem Tryz.tk_188 : tyk Tryz.prog 188 = some (false, 1) := by kernel_rfl
@[simp] theorem Tryz.zd_188 : zeroD Tryz.prog 188 = some (.nilp) := by kernel_rfl
@[simp] theorem Tryz.ez_189 : esz Tryz.prog 189 = some (1, 8) := by kernel_rfl
@[simp] theorem Tryz.sz_189 : szOf Tryz.prog 189 = some 1 := by kernel_rfl
@[simp] theorem Tryz.tk_189 : tyk Tryz.prog 189 = some (false, 1) := by kernel_rfl
@[simp] theorem Tryz.zd_189 : zeroD Tryz.prog 189 = some (.raw .nilFunc) := by kernel_rfl
@[simp] theorem Tryz.ez_190 : esz Tryz.prog 190 = some (1, 8) := by kernel_rfl
@[simp] theorem Tryz.sz_190 : szOf Tryz.prog 190 = some 1 := by kernel_rfl
@[simp] theorem Tryz.tk_190 : tyk Tryz.prog 190 = some (false, 1) := by kernel_rfl
@[simp] theorem Tryz.zd_190 : zeroD Tryz.prog 190 = some (.raw .nilFunc) := by kernel_rfl
@[simp] theorem Tryz.ez_191 : esz Tryz.prog 191 = some (1, 8) := by kernel_rfl
@[simp] theorem Tryz.sz_191 : szOf Tryz.prog 191 = some 1 := by kernel_rfl
@[simp] theorem Tryz.tk_191 : tyk Tryz.prog 191 = some (false, 1) := by kernel_rfl
@[simp] theorem Tryz.zd_191 : zeroD Tryz.prog 191 = some (.raw .nilFunc) := by kernel_rfl
@[simp] theorem Tryz.ez_192 : esz Tryz.prog 192 = some (1, 8) := by kernel_rfl
@[simp] theorem Tryz.sz_192 : szOf Tryz.prog 192 = some 1 := by kernel_rfl
@[simp] theorem Tryz.tk_192 : tyk Tryz.prog 192 = some (false, 1) := by kernel_rfl
@[simp] theorem Tryz.zd_192 : zeroD Tryz.prog 192 = some (.raw .nilFunc) := by kernel_rfl
@[simp] theorem Tryz.ez_193 : esz Tryz.prog 193 = some (1, 8) := by kernel_rfl
@[simp] theorem Tryz.sz_193 : szOf Tryz.prog 193 = some 1 := by kernel_rfl
@[simp] theorem Tryz.tk_193 : tyk Tryz.prog 193 = some (false, 1) := by kernel_rfl
@[simp] theorem Tryz.zd_193 : zeroD Tryz.prog 193 = some (.raw .nilFunc) := by kernel_rfl
@[simp] theorem Tryz.ez_194 : esz Tryz.prog 194 = some (1, 8) := by kernel_rfl
@[simp] theorem Tryz.sz_194 : szOf Tryz.prog 194 = some 1 := by kernel_rfl
@[simp] theorem Tryz.tk_194 : tyk Tryz.prog 194 = some (false, 1) := by kernel_rfl
@[simp] theorem Tryz.zd_194 : zeroD Tryz.prog 194 = some (.raw .nilFunc) := by kernel_rfl
@[simp] theorem Tryz.ez_195 : esz Tryz.prog 195 = some (1, 8) := by kernel_rfl
@[simp] theorem Tryz.sz_195 : szOf Tryz.prog 195 = some 1 := by kernel_rfl
@[simp] theorem Tryz.tk_195 : tyk Tryz.prog 195 = some (false, 1) := by kernel_rfl
@[simp] theorem Tryz.zd_195 : zeroD Tryz.prog 195 = some (.raw .nilFunc) := by kernel_rfl
@[simp] theorem Tryz.ez_196 : esz Tryz.prog 196 = some (1, 8) := by kernel_rfl
@[simp] theorem Tryz.sz_196 : szOf Tryz.prog 196 = some 1 := by kernel_rfl
@[simp] theorem Tryz.tk_196 : tyk Tryz.prog 196 = some (false, 1) := by kernel_rfl
@[simp] theorem Tryz.zd_196 : zeroD Tryz.prog 196 = some (.raw .nilFunc) := by kernel_rfl
@[simp] theorem Tryz.ez_198 : esz Tryz.prog 198 = some (1, 8) := by kernel_rfl
@[simp] theorem Tryz.sz_198 : szOf Tryz.prog 198 = some 1 := by kernel_rfl
@[simp] theorem Tryz.tk_198 : tyk Tryz.prog 198 = some (false, 1) := by kernel_rfl
@[simp] theorem Tryz.zd_198 : zeroD Tryz.prog 198 = some (.raw .nilFunc) := by kernel_rfl
@[simp] theorem Tryz.ez_199 : esz Tryz.prog 199 = some (1, 8) := by kernel_rfl
@[simp] theorem Tryz.sz_199 : szOf Tryz.prog 199 = some 1 := by kernel_rfl
@[simp] theorem Tryz.tk_199 : tyk Tryz.prog 199 = some (false, 1) := by kernel_rfl
@[simp] theorem Tryz.zd_199 : zeroD Tryz.prog 199 = some (.raw .nilFunc) := by kernel_rfl
@[simp] theorem Tryz.ez_202 : esz Tryz.prog 202 = some (1, 8) := by kernel_rfl
@[simp] theorem Tryz.sz_202 : szOf Tryz.prog 202 = some 1 := by kernel_rfl
@[simp] theorem Tryz.tk_202 : tyk Tryz.prog 202 = some (false, 1) := by kernel_rfl
@[simp] theorem Tryz.zd_202 : zeroD Tryz.prog 202 = some (.raw .nilFunc) := by kernel_rfl
@[simp] theorem Tryz.ez_203 : esz Tryz.prog 203 = some (1, 8) := by kernel_rfl
@[simp] theorem Tryz.sz_203 : szOf Tryz.prog 203 = some 1 := by kernel_rfl
@[simp] theorem Tryz.tk_203 : tyk Tryz.prog 203 = some (false, 1) := by kernel_rfl
@[simp] theorem Tryz.zd_203 : zeroD Tryz.prog 203 = some (.raw .nilFunc) := by kernel_rfl
@[simp] theorem Tryz.ez_204 : esz Tryz.prog 204 = some (1, 8) := by kernel_rfl
@[simp] theorem Tryz.sz_204 : szOf Tryz.prog 204 = some 1 := by kernel_rfl
@[simp] theorem Tryz.tk_204 : tyk Tryz.prog 204 = some (false, 1) := by kernel_rfl
@[simp] theorem Tryz.zd_204 : zeroD Tryz.prog 204 = some (.raw .nilFunc) := by kernel_rfl
@[simp] theorem Tryz.ez_206 : esz Tryz.prog 206 = some (1, 8) := by kernel_rfl
@[simp] theorem Tryz.sz_206 : szOf Tryz.prog 206 = some 1 := by kernel_rfl
@[simp] theorem Tryz.tk_206 : tyk Tryz.prog 206 = some (false, 1) := by kernel_rfl
@[simp] theorem Tryz.zd_206 : zeroD Tryz.prog 206 = some (.raw .nilFunc) := by kernel_rfl
@[simp] theorem Tryz.u_207 : Program.underlying Tryz.prog 207 = some (.array 256 5) := by kernel_rfl
@[simp] theorem Tryz.ez_207 : esz Tryz.prog 207 = some (256, 256) := by kernel_rfl
@[simp] theorem Tryz.sz_207 : szOf Tryz.prog 207 = some 256 := by kernel_rfl
@[simp] theorem Tryz.tk_207 : tyk Tryz.prog 207 = some (true, 256) := by kernel_rfl
@[simp] theorem Tryz.ez_208 : esz Tryz.prog 208 = some (2, 2) := by kernel_rfl
@[simp] theorem Tryz.sz_208 : szOf Tryz.prog 208 = some 2 := by kernel_rfl
@[simp] theorem Tryz.tk_208 : tyk Tryz.prog 208 = some (true, 2) := by kernel_rfl
@[simp] theorem Tryz.zd_208 : zeroD Tryz.prog 208 = some (.agg [.int .u8 0, .int .u8 0]) := by kernel_rfl
@[simp] theorem Tryz.sd_208 : structD Tryz.prog 208 = some [.int .u8 0, .int .u8 0] := by kernel_rfl
@[simp] theorem Tryz.fo_208_0 : fieldOff Tryz.prog 208 0 = some 0 := by kernel_rfl
@[simp] theorem Tryz.fo_208_1 : fieldOff Tryz.prog 208 1 = some 1 := by kernel_rfl
@[simp] theorem Tryz.ez_211 : esz Tryz.prog 211 = some (1, 8) := by kernel_rfl
@[simp] theorem Tryz.sz_211 : szOf Tryz.prog 211 = some 1 := by kernel_rfl
@[simp] theorem Tryz.tk_211 : tyk Tryz.prog 211 = some (false, 1) := by kernel_rfl
@[simp] theorem Tryz.zd_211 : zeroD Tryz.prog 211 = some (.raw .nilFunc) := by kernel_rfl
@[simp] theorem Tryz.ez_212 : esz Tryz.prog 212 = some (1, 8) := by kernel_rfl
@[simp] theorem Tryz.sz_212 : szOf Tryz.prog 212 = some 1 := by kernel_rfl
@[simp] theorem Tryz.tk_212 : tyk Tryz.prog 212 = some (false, 1) := by kernel_rfl
@[simp] theorem Tryz.zd_212 : zeroD Tryz.prog 212 = some (.raw .nilFunc) := by kernel_rfl
@[simp] theorem Tryz.ez_218 : esz Tryz.prog 218 = some (1, 8) := by kernel_rfl
@[simp] theorem Tryz.sz_218 : szOf Tryz.prog 218 = some 1 := by kernel_rfl
@[simp] theorem Tryz.tk_218 : tyk Tryz.prog 218 = some (false, 1) := by kernel_rfl
@[simp] theorem Tryz.zd_218 : zeroD Tryz.prog 218 = some (.raw .nilFunc) := by kernel_rfl
@[simp] theorem Tryz.ez_221 : esz Tryz.prog 221 = some (1, 8) := by kernel_rfl
@[simp] theorem Tryz.sz_221 : szOf Tryz.prog 221 = some 1 := by kernel_rfl
@[simp] theorem Tryz.tk_221 : tyk Tryz.prog 221 = some (false, 1) := by kernel_rfl
@[simp] theorem Tryz.zd_221 : zeroD Tryz.prog 221 = some (.raw .nilFunc) := by kernel_rfl
@[simp] theorem Tryz.eqs_23 : eqsOk Tryz.prog 23 = true := by kernel_rfl
@[simp] theorem Tryz.lf_23 (a0 b0 : Int) (a1 b1 : Int) (a2 b2 : Int) : leafOk Tryz.prog (Program.fieldsOf Tryz.prog 23).toList 0 [.int .i64 a0, .int .i64 a1, .int .i64 a2] [.int .i64 b0, .int .i64 b1, .int .i64 b2] = true := by kernel_rfl
@[simp] theorem Tryz.eqs_26 : eqsOk Tryz.prog 26 = true := by kernel_rfl
@[simp] theorem Tryz.lf_26 (a0_0 b0_0 : Int) (a0_1 b0_1 : Int) (a0_2 b0_2 : Int) (a1 b1 : Int) (a2 b2 : Str) (a3 b3 : Str) (a4 b4 : Str) (a5 b5 : Str) : leafOk Tryz.prog (Program.fieldsOf Tryz.prog 26).toList 0 [.agg [.int .i64 a0_0, .int .i64 a0_1, .int .i64 a0_2], .int .i64 a1, .str a2, .str a3, .str a4, .str a5] [.agg [.int .i64 b0_0, .int .i64 b0_1, .int .i64 b0_2], .int .i64 b1, .str b2, .str b3, .str b4, .str b5] = true := by kernel_rfl
@[simp] theorem Tryz.eqs_173 : eqsOk Tryz.prog 173 = true := by kernel_rfl
@[simp] theorem Tryz.lf_173 (a0 b0 : Str) (a1 b1 : Str) : leafOk Tryz.prog (Program.fieldsOf Tryz.prog 173).toList 0 [.str a0, .str a1] [.str b0, .str b1] = true := by kernel_rfl
end Go.Proofs

/- strings.Builder: copyCheck. -/
set_option linter.unusedVariables false
namespace Go.Proofs.Tz
open Go.Vw Go.RowKit Go.Proofs

/-- strings.Builder's size. -/
theorem bld_size : (Tryz.prog.info? 102).map (·.size) = some 2 := by kernel_rfl
theorem bld_lies : liesAt Tryz.prog Tryz.prog.depth 102 (2 / Tryz.prog.cellsOf 102) 0 102 1 = true := by kernel_rfl

set_option maxRecDepth 100000 in
set_option maxHeartbeats 1000000 in
theorem cc_used (b : Nat) (w : World) (h0 : w.cell? ⟨b, 0, none⟩ = some (.pointer (some ⟨b, 0, none⟩))) :
    Calls Tryz.prog 132 #[.pointer (some ⟨b, 0, none⟩)] w fun e w' => e = .returned (.tuple #[]) ∧ w' = w := by
  obtain ⟨j, hj, _⟩ := Option.map_eq_some_iff.1 bld_size
  go_enter Tryz.func132, Tryz.ntmps132
  go_wp2
  rw [Lib.run_neq_ptr_same w _ Tryz.underlying99 hj]
  go_wp2
  go_end0
  exact ⟨rfl, rfl⟩

set_option maxRecDepth 100000 in
set_option maxHeartbeats 1000000 in
theorem cc_fresh (b : Nat) (w : World) (h0 : w.cell? ⟨b, 0, none⟩ = some (.pointer none)) (hsh : w.shape? b = some (102, 2)) (hfz : w.frozen? ⟨b, 0, none⟩ = false) :
    Calls Tryz.prog 132 #[.pointer (some ⟨b, 0, none⟩)] w fun e w' => e = .returned (.tuple #[]) ∧ w' = w.setCell ⟨b, 0, none⟩ (.pointer (some ⟨b, 0, none⟩)) := by
  obtain ⟨j, hj, hjs⟩ := Option.map_eq_some_iff.1 bld_size
  go_enter Tryz.func132, Tryz.ntmps132
  go_wp2
  rw [Lib.run_to_unsafe w ⟨b, 0, none⟩ Tryz.underlying99 Tryz.underlying168 hj (by rw [hjs]; decide) hsh (Nat.zero_lt_succ 1)]
  simp only [Result.andThen]
  rw [Oper.upon_value]
  go_wp2
  rw [run_callFunc_extern Tryz.func180 (by kernel_rfl) (by kernel_rfl) (by kernel_rfl) (e := Extern.AbiNoEscape.same) (by kernel_rfl)]
  rw [Lib.run_noEscape]
  simp only [Result.andThen]
  rw [Oper.upon_value]
  go_wp2
  rw [Lib.run_from_unsafe w ⟨b, 0, none⟩ Tryz.underlying168 Tryz.underlying99 hj hsh bld_lies]
  simp only [Result.andThen]
  rw [Oper.upon_value]
  go_wp2
  go_end0
  exact ⟨rfl, rfl⟩

/-- The address of a variable. -/
abbrev va (b : Nat) : Value := .pointer (some ⟨b, 0, none⟩)

/-- A builder's two cells in memory. -/
theorem bld_cells {w : World} {L : Nat → Nat → Prop} {b : Nat} {p : D} {hd : Value} (hp : p = .nilp ∨ p = .raw (va b))
    (h : BoxT w L (some b) 102 (.agg [p, .raw hd]) (va b)) : ∃ pv, w.heap[b]? = some (.cells #[pv, hd] 102 (0, 0)) ∧ (∀ o, ¬ L b o) ∧ hd.oneCell' = true ∧ vIsAgg hd = false ∧ ((p = .nilp ∧ pv = .pointer none) ∨ (p = .raw (va b) ∧ pv = va b)) := by
  obtain ⟨g, C, h1, h2, h3, h4, h5⟩ := h
  obtain rfl : b = g := by simpa using h1
  simp only [Rep, RepL] at h4
  obtain ⟨css, ⟨c, cs, rfl, hc, c2, cs2, rfl, ⟨rfl, h7, h8⟩, rfl⟩, h6⟩ := h4
  rcases hp with rfl | rfl
  · simp only [Rep] at hc
    subst hc
    have : C = #[.pointer none, hd] := by apply Array.ext'; simpa using h6
    subst this
    exact ⟨_, h3, h5, h7, h8, .inl ⟨rfl, rfl⟩⟩
  · simp only [Rep] at hc
    obtain ⟨rfl, _, _⟩ := hc
    have : C = #[va b, hd] := by apply Array.ext'; simpa using h6
    subst this
    exact ⟨_, h3, h5, h7, h8, .inr ⟨rfl, rfl⟩⟩
theorem bld_laid {w : World} {L : Nat → Nat → Prop} {b : Nat} {hd : Value} (h1 : w.heap[b]? = some (.cells #[va b, hd] 102 (0, 0))) (h2 : ∀ o, ¬ L b o) (h3 : hd.oneCell' = true) (h4 : vIsAgg hd = false) :
    RH Tryz.prog w L (.hb (va b) 102 (.agg [.raw (va b), .raw hd])) := by
  refine ⟨rfl, b, _, rfl, rfl, h1, ?_, h2⟩
  simp only [Rep, RepL]
  exact ⟨[[va b], [hd]], ⟨_, _, rfl, ⟨rfl, rfl, rfl⟩, _, _, rfl, ⟨rfl, h3, h4⟩, rfl⟩, rfl⟩

theorem copyCheck_fn {b : Nat} {p : D} (hp : p = .nilp ∨ p = .raw (va b)) {hd : Value} :
    CtrG Tryz.prog 132 [.d (.raw (va b))] [.hb (va b) 102 (.agg [p, .raw hd])] (fun r hs' => r = .tup [] ∧ hs' = [.hb (va b) 102 (.agg [.raw (va b), .raw hd])]) := by
  refine ⟨enters_of Tryz.func132 (by kernel_rfl) rfl, fun w L vals hlok hgl hv hh _ => ?_⟩
  obtain ⟨v, us, rfl, hv1, hv2⟩ := hv
  obtain rfl : us = [] := hv2
  obtain rfl : v = va b := RepV.raw_inv hv1
  have hb : BoxT w L (some b) 102 (.agg [p, .raw hd]) (va b) := (hh (.hb (va b) 102 (.agg [p, .raw hd])) (by simp)).2
  obtain ⟨pv, e1, e2, e3, e4, e5⟩ := bld_cells hp hb
  have hlt : b < w.heap.size := (Array.getElem?_eq_some_iff.1 e1).1
  rcases e5 with ⟨rfl, rfl⟩ | ⟨rfl, rfl⟩
  · refine (cc_fresh b w (by rw [Lib.cell_of_heap e1]; rfl) (by simp [World.shape?, e1]) (Lib.frozen_of_heap e1 0)).mono ?_
    rintro e w' ⟨rfl, rfl⟩
    have hsz : (w.setCell ⟨b, 0, none⟩ (va b)).heap.size = w.heap.size := by simp [World.setCell]
    refine ⟨_, L, none, .tup [], _, rfl, ⟨rfl, rfl, rfl, Nat.le_of_eq hsz.symm, fun k hk hn => Below.heap_setCell w _ _ k (fun e => hn (by simp [hblk, e])), Nat.le_refl _⟩, fun g q hq => by rw [hsz]; exact hlok g q hq, fun _ _ _ _ => Iff.rfl, fun g hg => ?_, ?_, ⟨[], rfl, rfl⟩, fun x hx => ?_, rfl, rfl⟩
    · simp [hblk] at hg; subst hg; exact ⟨by rw [hsz]; exact hlt, .inr (by simp [hblk])⟩
    · simp [apartB, hblk]
    · simp at hx; subst hx
      refine bld_laid ?_ e2 e3 e4
      simp [World.setCell, Array.getElem?_modify, e1]
  · refine (cc_used b w (by rw [Lib.cell_of_heap e1]; rfl)).mono ?_
    rintro e w' ⟨rfl, rfl⟩
    refine ⟨_, L, none, .tup [], _, rfl, GrownS.refl _ _, hlok, fun _ _ _ _ => Iff.rfl, fun g hg => ?_, ?_, ⟨[], rfl, rfl⟩, fun x hx => ?_, rfl, rfl⟩
    · simp [hblk] at hg; subst hg; exact ⟨hlt, .inr (by simp [hblk])⟩
    · simp [apartB, hblk]
    · simp at hx; subst hx
      exact bld_laid e1 e2 e3 e4
end Go.Proofs.Tz

/- strings.Builder: String. -/
set_option linter.unusedVariables false
namespace Go.Proofs.Tz
open Go.Vw Go.RowKit Go.Proofs

theorem byte_info : (Tryz.prog.info? 5).map (·.size) = some 1 := by kernel_rfl
theorem byte_cells : Tryz.prog.cellsOf 5 = 1 := by kernel_rfl

theorem bytes_cells {w : World} {L : Nat → Nat → Prop} : ∀ {s : Str} {css : List (List Value)}, RepL w L (bytesD s) css → css.flatten = s.map fun c => Value.int .u8 (c.toNat : Int)
  | [], css, h => by simp only [bytesD, List.map_nil, RepL] at h; subst h; rfl
  | c :: s, css, h => by
    simp only [bytesD, List.map_cons, RepL, Rep] at h
    obtain ⟨c1, cs, rfl, rfl, h2⟩ := h
    simp [bytes_cells (s := s) h2]

set_option maxRecDepth 100000 in
set_option maxHeartbeats 1000000 in
theorem bs_row {b g cap : Nat} {p : Value} {l : List UInt8} (w : World) (h0 : l ≠ []) (hbk : w.heap[b]? = some (.cells #[p, .slice (some ⟨g, 0, none⟩) l.length cap] 102 (0, 0))) {cur : Array Value} (hg : w.heap[g]? = some (.cells cur 5 (0, 0)))
    (hnc : l.length ≤ cap) (hcm : cap ≤ maxLen) (hcs : cap ≤ cur.size) (htk : ∀ j x, l[j]? = some x → w.cell? ((⟨g, 0, none⟩ : Addr).add j) = some (.int .u8 x.toNat)) :
    Calls Tryz.prog 92 #[.pointer (some ⟨b, 0, none⟩)] w fun e w' => e = .returned (.string ⟨l.toArray⟩) ∧ w' = w.drew.freeze ⟨g, 0, none⟩ l.length := by
  have hl0 : l.length ≠ 0 := by simpa using h0
  have c1 : w.drew.cell? ⟨b, 1, none⟩ = some (.slice (some ⟨g, 0, none⟩) l.length cap) := by
    have : w.drew.heap[b]? = some (.cells #[p, .slice (some ⟨g, 0, none⟩) l.length cap] 102 (0, 0)) := hbk
    rw [Lib.cell_of_heap this]; rfl
  have hSD : (Builtin.unsafeSliceData_ #[100] 134 #[.slice (some ⟨g, 0, none⟩) l.length cap]).run Tryz.prog w.drew = .ok (.pointer (some ⟨g, 0, none⟩)) w.drew :=
    Lib.run_unsafeSliceData_row _ _ _ _ _ _ (by omega)
  have hUS : (Builtin.unsafeString_ #[134, 3] 9 #[.pointer (some ⟨g, 0, none⟩), .int .i64 l.length]).run Tryz.prog w.drew = .ok (.string ⟨l.toArray⟩) (w.drew.freeze ⟨g, 0, none⟩ l.length) := by
    refine Lib.run_unsafeString_row w.drew 134 3 9 5 Tryz.underlying134 byte_cells g cur.size (by have hg' : w.drew.heap[g]? = some (.cells cur 5 (0, 0)) := hg; simp [World.shape?, hg']) l h0 (by omega) (by unfold maxLen at hcm; omega) ?_
    exact htk
  go_enter Tryz.func92, Tryz.ntmps92
  go_wp2
  go_region
  all_goals (go_wp2; go_ret; exact ⟨rfl, rfl⟩)

theorem bs_none (W : World) (q : Option Addr) : (Builtin.unsafeString_ #[134, 3] 9 #[.pointer q, .int .i64 0]).run Tryz.prog W = .ok (.string .empty) W := Lib.run_unsafeString_none W _ _ _ q

set_option maxRecDepth 100000 in
set_option maxHeartbeats 1000000 in
theorem bs_nil {b : Nat} {p : Value} (w : World) (hbk : w.heap[b]? = some (.cells #[p, .slice none 0 0] 102 (0, 0))) :
    Calls Tryz.prog 92 #[.pointer (some ⟨b, 0, none⟩)] w fun e w' => e = .returned (.string ⟨#[]⟩) ∧ w' = w.drew := by
  have hUS := bs_none
  have c1 : w.drew.cell? ⟨b, 1, none⟩ = some (.slice none 0 0) := by
    have : w.drew.heap[b]? = some (.cells #[p, .slice none 0 0] 102 (0, 0)) := hbk
    rw [Lib.cell_of_heap this]; rfl
  have hSD : (Builtin.unsafeSliceData_ #[100] 134 #[.slice none 0 0]).run Tryz.prog w.drew = .ok (.pointer none) w.drew := rfl
  go_enter Tryz.func92, Tryz.ntmps92
  go_wp2
  go_region
  all_goals (go_wp2; go_ret; exact ⟨rfl, rfl⟩)

set_option maxRecDepth 100000 in
set_option maxHeartbeats 1000000 in
theorem bs_room {b g cap : Nat} {p : Value} (w : World) (hc0 : cap ≠ 0) (hbk : w.heap[b]? = some (.cells #[p, .slice (some ⟨g, 0, none⟩) 0 cap] 102 (0, 0))) :
    Calls Tryz.prog 92 #[.pointer (some ⟨b, 0, none⟩)] w fun e w' => e = .returned (.string ⟨#[]⟩) ∧ w' = w.drew := by
  have hUS := bs_none
  have c1 : w.drew.cell? ⟨b, 1, none⟩ = some (.slice (some ⟨g, 0, none⟩) 0 cap) := by
    have : w.drew.heap[b]? = some (.cells #[p, .slice (some ⟨g, 0, none⟩) 0 cap] 102 (0, 0)) := hbk
    rw [Lib.cell_of_heap this]; rfl
  have hSD : (Builtin.unsafeSliceData_ #[100] 134 #[.slice (some ⟨g, 0, none⟩) 0 cap]).run Tryz.prog w.drew = .ok (.pointer (some ⟨g, 0, none⟩)) w.drew :=
    Lib.run_unsafeSliceData_row _ _ _ _ _ _ hc0
  clear hc0
  go_enter Tryz.func92, Tryz.ntmps92
  go_wp2
  go_region
  all_goals (go_wp2; go_ret; exact ⟨rfl, rfl⟩)

set_option maxRecDepth 100000 in
set_option maxHeartbeats 1000000 in
theorem bs_noroom {b g : Nat} {p : Value} {cur : Array Value} (w : World) (hbk : w.heap[b]? = some (.cells #[p, .slice (some ⟨g, 0, none⟩) 0 0] 102 (0, 0))) (hg : w.heap[g]? = some (.cells cur 5 (0, 0))) :
    Calls Tryz.prog 92 #[.pointer (some ⟨b, 0, none⟩)] w fun e w' => e = .returned (.string ⟨#[]⟩) ∧ (w' = w.drew.alloc (.view ⟨g, 0, none⟩ 5) ∨ w' = (w.alloc (.view ⟨g, 0, none⟩ 5)).drew) := by
  have hUS := bs_none
  have hlt : b < w.heap.size := (Array.getElem?_eq_some_iff.1 hbk).1
  have c1 : w.drew.cell? ⟨b, 1, none⟩ = some (.slice (some ⟨g, 0, none⟩) 0 0) := by
    have : w.drew.heap[b]? = some (.cells #[p, .slice (some ⟨g, 0, none⟩) 0 0] 102 (0, 0)) := hbk
    rw [Lib.cell_of_heap this]; rfl
  have hSD : (Builtin.unsafeSliceData_ #[100] 134 #[.slice (some ⟨g, 0, none⟩) 0 0]).run Tryz.prog w.drew = .ok (.pointer (some ⟨w.drew.heap.size, 0, none⟩)) (w.drew.alloc (.view ⟨g, 0, none⟩ 5)) :=
    Lib.run_unsafeSliceData_zero w.drew _ _ 5 Tryz.underlying134 ⟨g, 0, none⟩ 0 (5, cur.size) (by have hg' : w.drew.heap[g]? = some (.cells cur 5 (0, 0)) := hg; simp [World.shape?, hg'])
  have c2 : (w.drew.alloc (.view ⟨g, 0, none⟩ 5)).cell? ⟨b, 1, none⟩ = some (.slice (some ⟨g, 0, none⟩) 0 0) := by
    have : (w.drew.alloc (.view ⟨g, 0, none⟩ 5)).heap[b]? = _ := (Lib.alloc_old w.drew _ b hlt).trans hbk
    rw [Lib.cell_of_heap this]; rfl
  have c3 : (w.alloc (.view ⟨g, 0, none⟩ 5)).drew.cell? ⟨b, 1, none⟩ = some (.slice (some ⟨g, 0, none⟩) 0 0) := c2
  have c0 : w.cell? ⟨b, 1, none⟩ = some (.slice (some ⟨g, 0, none⟩) 0 0) := c1
  go_enter Tryz.func92, Tryz.ntmps92
  go_wp2
  go_region
  all_goals (go_wp2; go_ret; exact ⟨rfl, .inl rfl⟩)

/-- A builder: its variable's block, its copy-check's pointer, its bytes' head. -/
abbrev bld (b : Nat) (p : D) (hd : Value) (s : Str) : List AV := [.hb (va b) 102 (.agg [p, .raw hd]), .hs hd 5 (bytesD s)]

theorem bytesD_length (s : Str) : (bytesD s).length = s.length := by simp [bytesD]
theorem heap_freeze (w : World) (a : Addr) (n k : Nat) (h : k ≠ a.block) : (w.freeze a n).heap[k]? = w.heap[k]? := by
  unfold World.freeze
  split
  · rfl
  · simp only []
    rw [Array.getElem?_modify, if_neg (fun e => h e.symm)]
theorem size_freeze (w : World) (a : Addr) (n : Nat) : (w.freeze a n).heap.size = w.heap.size := by
  unfold World.freeze
  split
  · rfl
  · simp
theorem size_alloc (w : World) (o : Obj) : (w.alloc o).heap.size = w.heap.size + 1 := by unfold World.alloc; simp
theorem freeze_parts (w : World) (a : Addr) (n : Nat) : (w.freeze a n).os = w.os ∧ (w.freeze a n).tape = w.tape ∧ (w.freeze a n).output = w.output := by
  unfold World.freeze
  split <;> exact ⟨rfl, rfl, rfl⟩

theorem string_fn {b : Nat} {p : D} (hp : p = .nilp ∨ p = .raw (va b)) {hd : Value} {s : Str} :
    CtrG Tryz.prog 92 [.d (.raw (va b))] (bld b p hd s) (fun r hs' => r = .d (.str s) ∧ hs' = []) := by
  refine ⟨enters_of Tryz.func92 (by kernel_rfl) rfl, fun w L vals hlok hgl hv hh hap => ?_⟩
  obtain ⟨v, us, rfl, hv1, hv2⟩ := hv
  obtain rfl : us = [] := hv2
  obtain rfl : v = va b := RepV.raw_inv hv1
  have hb : BoxT w L (some b) 102 (.agg [p, .raw hd]) (va b) := (hh (.hb (va b) 102 (.agg [p, .raw hd])) (by simp)).2
  obtain ⟨pv, e1, e2, e3, e4, e5⟩ := bld_cells hp hb
  have hs : OwnR Tryz.prog w L hd.ownBlock true 5 (bytesD s) hd := (hh (.hs hd 5 (bytesD s)) (by simp)).2
  obtain ⟨css, sz, f1, f2, f3, f4, f5⟩ := hs
  obtain rfl : sz = 1 := by
    have : ety 5 = 5 := rfl
    rw [this, byte_info] at f1; simpa using f1.symm
  have hcs := bytes_cells f2
  have done : ∀ (w' : World), GrownS w w' (fun k => some k ∈ (bld b p hd s).map hblk) → ∀ st : Str, st = s → Ending.returned (.string ⟨st.toArray⟩) = Ending.returned (.string ⟨s.toArray⟩) ∧
      ∃ v L' og r hs', Ending.returned (.string ⟨s.toArray⟩) = Ending.returned v ∧ GrownS w w' (fun k => some k ∈ (bld b p hd s).map hblk) ∧ (∀ b q, L' b q → b < w'.heap.size) ∧ (∀ b' q, b' < w.heap.size → some b' ∉ (bld b p hd s).map hblk → (L' b' q ↔ L b' q)) ∧
      (∀ g, some g ∈ og :: hs'.map hblk → g < w'.heap.size ∧ (w.heap.size ≤ g ∨ some g ∈ (bld b p hd s).map hblk)) ∧ apartB (og :: hs'.map hblk) ∧ RC Tryz.prog w' L' og r v ∧ (∀ x ∈ hs', RH Tryz.prog w' L' x) ∧ (r = .d (.str s) ∧ hs' = []) := by
    intro w' hg st hst
    refine ⟨by rw [hst], _, L, none, .d (.str s), [], rfl, hg, fun b q hq => Nat.lt_of_lt_of_le (hlok b q hq) hg.size, fun _ _ _ _ => Iff.rfl, fun g hgm => by simp at hgm, by simp [apartB], RepV.str, by simp, rfl, rfl⟩
  rcases f4.2 with ⟨rfl, hn⟩ | ⟨g, cap, cur, hv, hh', hnc, hcm, hsz, ht⟩
  · have hs0 : s = [] := by simpa [bytesD] using hn
    subst hs0
    refine (bs_nil w e1).mono ?_
    rintro e w' ⟨rfl, rfl⟩
    exact (done w.drew ⟨rfl, rfl, rfl, Nat.le_refl _, fun _ _ _ => rfl, Nat.le_succ _⟩ [] rfl).2
  · subst hv
    rw [bytesD_length] at *
    have hblk1 : (bld b p (.slice (some ⟨g, 0, none⟩) s.length cap) s).map hblk = [some b, some g] := by simp [hblk, Value.ownBlock]
    by_cases h0 : s = []
    · subst h0
      by_cases hc0 : cap = 0
      · subst hc0
        refine (bs_noroom w e1 hh').mono ?_
        rintro e w' ⟨rfl, hw⟩
        refine (done w' ?_ [] rfl).2
        rcases hw with rfl | rfl
        · exact ⟨rfl, rfl, rfl, by rw [size_alloc]; exact Nat.le_succ _, fun k hk _ => Lib.alloc_old w.drew _ k hk, Nat.le_succ _⟩
        · exact ⟨rfl, rfl, rfl, by show _ ≤ (w.alloc _).heap.size; rw [size_alloc]; exact Nat.le_succ _, fun k hk _ => Lib.alloc_old w _ k hk, Nat.le_succ _⟩
      · refine (bs_room w hc0 e1).mono ?_
        rintro e w' ⟨rfl, rfl⟩
        exact (done w.drew ⟨rfl, rfl, rfl, Nat.le_refl _, fun _ _ _ => rfl, Nat.le_succ _⟩ [] rfl).2
    · refine (bs_row w h0 e1 hh' hnc hcm (by omega) (fun j x hx => ?_)).mono ?_
      · have := rowOK.cells f4 (g := g) rfl j (.int .u8 x.toNat) (by rw [hcs, List.getElem?_map, hx]; rfl)
        exact this
      · rintro e w' ⟨rfl, rfl⟩
        refine (done (w.drew.freeze ⟨g, 0, none⟩ s.length) ⟨(freeze_parts _ _ _).1, (freeze_parts _ _ _).2.1, (freeze_parts _ _ _).2.2, by rw [size_freeze]; exact Nat.le_refl _, fun k hk hn => ?_, by rw [freeze_drawn]; exact Nat.le_succ _⟩ s rfl).2
        rw [heap_freeze _ _ _ _ (fun e => hn (by rw [hblk1]; simp [e]))]
        rfl
end Go.Proofs.Tz

namespace Go.Proofs.Tz
open Go.Vw
set_option maxRecDepth 100000
set_option maxHeartbeats 4000000
set_option linter.unusedSimpArgs false

/-- One round is over: round k + 1 comes, of at most N. -/
def Again (N k : Nat) (I : Nat → St → Prop) (τ : St) : Prop := ∃ m', m' < N - k ∧ ∃ k', k' ≤ N ∧ m' = N - k' ∧ I k' τ
theorem again {N k : Nat} {I : Nat → St → Prop} {τ : St} (hk : k < N) (h : I (k + 1) τ) : Again N k I τ := ⟨N - (k + 1), by omega, k + 1, hk, rfl, h⟩
theorem loopN {body : (Exit → St → Prop) → St → Prop} {Q : Exit → St → Prop} {σ : St} (N : Nat) (I : Nat → St → Prop) (h0 : I 0 σ)
    (hr : ∀ k τ, k ≤ N → I k τ → body (thenV (Again N k I) Q) τ) : LoopK body Q σ :=
  ⟨fun m τ => ∃ k, k ≤ N ∧ m = N - k ∧ I k τ, N, ⟨0, Nat.zero_le _, rfl, h0⟩, by
    rintro m τ ⟨k, hk, rfl, hI⟩
    exact hr k τ hk hI⟩

theorem take_s {α : Type} {l : List α} {k : Nat} (h : k < l.length) : l.take (k + 1) = l.take k ++ [l[k]] := by
  rw [List.take_succ_eq_append_getElem h]

def strs (l : List Str) : D := .sl (l.map .str)
def u8 (c : UInt8) : D := .int .u8 c.toNat

def isLetter (c : UInt8) : Bool := decide (97 ≤ (c.toNat : Int)) && decide ((c.toNat : Int) ≤ 122) || decide (65 ≤ (c.toNat : Int)) && decide ((c.toNat : Int) ≤ 90)
def isDigit (c : UInt8) : Bool := decide (48 ≤ (c.toNat : Int)) && decide ((c.toNat : Int) ≤ 57)

def lowc (c : UInt8) : UInt8 := if 65 ≤ (c.toNat : Int) ∧ (c.toNat : Int) ≤ 90 then c + 32 else c
def lower (s : Str) : Str := s.map lowc
theorem lowc_toNat (c : UInt8) (h1 : 65 ≤ (c.toNat : Int)) (h2 : (c.toNat : Int) ≤ 90) : ((lowc c).toNat : Int) = c.toNat + 97 - 65 := by
  rw [lowc, if_pos ⟨h1, h2⟩, UInt8.toNat_add]
  have : (32 : UInt8).toNat = 32 := rfl
  omega
theorem lower_len (s : Str) : (lower s).length = s.length := by simp [lower]
def nameC (c : UInt8) : Bool := isLetter c || isDigit c || decide ((c.toNat : Int) = 45)
def nameB (s : Str) : Bool := decide (1 ≤ s.length) && decide (s.length ≤ 64) && (s.head?.any isLetter) && s.all nameC
def cleanC (c : UInt8) : Bool := decide (32 ≤ (c.toNat : Int)) && decide ((c.toNat : Int) ≤ 126)
def cleanB (s : Str) : Bool := decide (1 ≤ s.length) && decide (s.length ≤ 256) && s.head? != some 32 && s.getLast? != some 32 && s.all cleanC

theorem all_take {s : Str} {p : UInt8 → Bool} {k : Nat} (h : k < List.length s) (ha : ∀ x ∈ s.take k, p x = true) (hp : p s[k] = true) : ∀ x ∈ s.take (k + 1), p x = true := by
  rw [take_s h]
  intro x hx
  rcases List.mem_append.1 hx with hx | hx
  · exact ha x hx
  · rw [List.mem_singleton.1 hx]; exact hp
theorem all_not {s : Str} {p : UInt8 → Bool} {k : Nat} (h : k < List.length s) (hp : p s[k] = false) : s.all p = false := by
  rw [List.all_eq_false]; exact ⟨_, List.getElem_mem h, by simp [hp]⟩

end Go.Proofs.Tz

/- strings.Builder: WriteByte, WriteString, Len. -/
set_option linter.unusedVariables false
set_option linter.unusedSimpArgs false
namespace Go.Proofs.Tz
open Go.Vw Go.RowKit Go.Proofs

/-- A call to which names are given, with its contract. -/
theorem givB {P : Program} {g : FuncId} {args : List AV} {σ : St} {d : Nat} {K : St → Prop} (ks : List Nat) (b : Nat) {hs : List AV} {Post : AV → List AV → Prop} (h : CtrG P g args hs Post) (h1 : ks.map σ = hs) (h2 : hs.all isH = true) (h3 : ks.Nodup)
    (hk : ∀ r hs', Post r hs' → K (putH (put (takeH σ ks) d r) ks b hs')) : GivK P g args σ d K :=
  ⟨ks, b, Post, fun k hk => by
    have : σ k ∈ hs := by rw [← h1]; exact List.mem_map.2 ⟨k, hk, rfl⟩
    exact List.all_eq_true.1 h2 _ this, h3, by rw [h1]; exact h, hk⟩

/-- The address of a named variable's field. -/
theorem rawFd {P : Program} {s f : Nat} {u : Value} {σ : St} {C : AV → Prop} (j : Nat) {e : TypeId} {ds : List D} (hj : σ j = .hb u e (.agg ds)) (h0 : 1000000 ≤ j) (h1 : f < ds.length) (h2 : fieldOff P s f = some (widths (ds.take f))) (h : C (.adr j [f])) : RawFd P s f u σ C :=
  ⟨j, e, ds, h0, hj, h1, h2, h⟩
theorem appSK {e : TypeId} {t : Str} {l : List D} {u : Value} {σ : St} {d : Nat} {K : St → Prop} (j : Nat) (hj : σ j = .hs u e l) (h2 : l.length + List.length t ≤ 140737488355328)
    (hk : ∀ A c, K (put (put σ j (.hs (.slice A (l ++ bytesD t).length c) e (l ++ bytesD t))) d (.d (.raw (.slice A (l ++ bytesD t).length c))))) : AppSK e t u σ d K := ⟨j, l, .inl hj, h2, hk⟩
@[simp] theorem cval_nilIface : cval Value.nilIface = .undef := rfl

theorem writeByte_fn {b : Nat} {p : D} (hp : p = .nilp ∨ p = .raw (va b)) {hd : Value} {s : Str} (c : UInt8) (hl : s.length + 1 ≤ 140737488355328) :
    CtrG Tryz.prog 97 [.d (.raw (va b)), .d (.int .u8 c.toNat)] (bld b p hd s) (fun r hs' => ∃ hd', hs' = bld b (.raw (va b)) hd' (s ++ [c])) := by
  refine fn_of_vwpGN (fun i => i == 5000006) (by kernel_rfl) (rs := [.tmp 4]) Tryz.func97 (by kernel_rfl) rfl rfl (by simp) (Nat.le_of_ble_eq_true rfl) (by kernel_rfl) rfl ?_
  simp -implicitDefEqProofs [initG]
  refine givB [1000000] 1000000 (copyCheck_fn (hd := hd) hp) (by simp [initG]) rfl (by simp) ?_
  rintro r hs' ⟨rfl, rfl⟩
  simp -implicitDefEqProofs [initG, takeH, putH]
  refine rawFd 1000000 (by simp; exact ⟨rfl, rfl⟩) (by omega) (by simp) (by kernel_rfl) ?_
  simp -implicitDefEqProofs [initG]
  refine appK (l := bytesD s) 1000001 (by simp [initG]) (by simp) (by simp [bytesD]; omega) (by simp [bytesD]; omega) (fun A c2 => ?_)
  simp -implicitDefEqProofs [initG]
  refine rawFd 1000000 (by simp; exact ⟨rfl, rfl⟩) (by omega) (by simp) (by kernel_rfl) ?_
  simp -implicitDefEqProofs [initG]
  refine ⟨[.undef], [1000000, 1000001], by simp, by simp [isH], by simp [resDs, resD], .slice A ((bytesD s).length + 1) c2, by simp [bytesD]⟩

theorem writeString_fn {b : Nat} {p : D} (hp : p = .nilp ∨ p = .raw (va b)) {hd : Value} {s : Str} (t : Str) (hl : s.length + t.length ≤ 140737488355328) :
    CtrG Tryz.prog 91 [.d (.raw (va b)), .d (.str t)] (bld b p hd s) (fun r hs' => ∃ hd', hs' = bld b (.raw (va b)) hd' (s ++ t)) := by
  refine fn_of_vwpGN (fun i => i == 5000007) (by kernel_rfl) (rs := [.tmp 4, .tmp 5]) Tryz.func91 (by kernel_rfl) rfl rfl (by simp) (Nat.le_of_ble_eq_true rfl) (by kernel_rfl) rfl ?_
  simp -implicitDefEqProofs [initG]
  refine givB [1000000] 1000000 (copyCheck_fn (hd := hd) hp) (by simp [initG]) rfl (by simp) ?_
  rintro r hs' ⟨rfl, rfl⟩
  simp -implicitDefEqProofs [initG, takeH, putH]
  refine rawFd 1000000 (by simp; exact ⟨rfl, rfl⟩) (by omega) (by simp) (by kernel_rfl) ?_
  simp -implicitDefEqProofs [initG]
  refine appSK (l := bytesD s) 1000001 (by simp [initG]) (by simp [bytesD]; omega) (fun A c2 => ?_)
  simp -implicitDefEqProofs [initG]
  refine rawFd 1000000 (by simp; exact ⟨rfl, rfl⟩) (by omega) (by simp) (by kernel_rfl) ?_
  simp -implicitDefEqProofs [initG]
  refine ⟨[.undef, .undef], [1000000, 1000001], by simp, by simp [isH], by simp [resDs, resD], .slice A ((bytesD s).length + (bytesD t).length) c2, by simp [bytesD]⟩

end Go.Proofs.Tz

/- Library functions on bytes that change nothing: IndexByte, Count. -/
set_option linter.unusedVariables false
set_option linter.unusedSimpArgs false
namespace Go.Proofs.Tz
open Go.Vw Go.RowKit Go.Proofs

/-- A function that leaves the world as it was. -/
theorem Ctr.same {P : Program} {f : FuncId} {xs : List D} {r : D} {vs : List Value} {v : Value} (hE : Enters P f) (h : ∀ w, Calls P f vs.toArray w fun e w' => e = .returned v ∧ w' = w)
    (hx : ∀ w L og vals, RCs P w L og (xs.map .d) vals → vals = vs) (hr : ∀ w L, RepV w L r v) : Ctr P f (xs.map .d) (.d r) := by
  refine ⟨hE, fun w L og vals hlok hgl hog hv => ?_⟩
  rw [hx w L og vals hv]
  refine (h w).mono ?_
  rintro e w' ⟨rfl, rfl⟩
  exact ⟨_, L, none, rfl, GrownS.refl _ _, hlok, fun _ _ _ _ => Iff.rfl, by simp, hr _ _⟩

/-- The place of the first byte c; or -1. -/
abbrev ixB (s : Str) (c : UInt8) : Int := Go.Lib.indexByte s c

set_option maxRecDepth 100000 in
set_option maxHeartbeats 1000000 in
theorem indexByteL_any (s : Str) (c : UInt8) (w : World) : Calls Tryz.prog 138 #[.string ⟨s.toArray⟩, .int .u8 c.toNat] w fun e w' => e = .returned (.int .i64 (ixB s c)) ∧ w' = w := by
  go_enter Tryz.func138, Tryz.ntmps138
  go_wp2
  rw [run_callFunc_extern Tryz.func186 (by kernel_rfl) (by kernel_rfl) (by kernel_rfl) (e := Extern.BytealgIndexByte.indexByte) (by kernel_rfl), Lib.run_indexByteString]
  simp only [Result.andThen]
  rw [Oper.upon_value]
  go_wp2
  go_ret
  simp [ixB]

theorem indexByteL_fn (s : Str) (c : UInt8) : Ctr Tryz.prog 138 [.d (.str s), .d (.int .u8 c.toNat)] (.d (.int .i64 (ixB s c))) := by
  refine Ctr.same (xs := [.str s, .int .u8 c.toNat]) (enters_of Tryz.func138 (by kernel_rfl) rfl) (indexByteL_any s c) (fun w L og vals h => ?_) (fun w L => RepV.int)
  obtain ⟨v, us, rfl, h1, v2, us2, rfl, h2, h3⟩ := h
  obtain rfl : us2 = [] := h3
  obtain rfl := RepV.str_inv h1
  obtain rfl := RepV.int_inv h2
  rfl

theorem indexByte_fn (s : Str) (c : UInt8) : Ctr Tryz.prog 102 [.d (.str s), .d (.int .u8 c.toNat)] (.d (.int .i64 (ixB s c))) := by
  refine fn_of_vwp (fun _ => false) (by kernel_rfl) Tryz.func102 (by kernel_rfl) rfl rfl (Nat.le_of_ble_eq_true rfl) (by kernel_rfl) rfl rfl ?_
  simp -implicitDefEqProofs
  refine callK (indexByteL_fn s c) ?_
  simp -implicitDefEqProofs

set_option maxRecDepth 100000 in
set_option maxHeartbeats 1000000 in
theorem count_any (s : Str) (c : UInt8) (hl : s.length ≤ 140737488355328) (w : World) : Calls Tryz.prog 136 #[.string ⟨s.toArray⟩, .string ⟨#[c]⟩] w fun e w' => e = .returned (.int .i64 (s.count c)) ∧ w' = w := by
  go_enter Tryz.func136, Tryz.ntmps136
  go_wp2
  rw [run_callFunc_extern Tryz.func185 (by kernel_rfl) (by kernel_rfl) (by kernel_rfl) (e := Extern.BytealgCount.count) (by kernel_rfl), Lib.run_countString]
  simp only [Result.andThen]
  rw [Oper.upon_value]
  go_wp2
  go_ret
  simp [Lib.countByte]
  rfl

theorem count_fn (s : Str) (c : UInt8) (hl : s.length ≤ 140737488355328) : Ctr Tryz.prog 136 [.d (.str s), .d (.str [c])] (.d (.int .i64 (s.count c))) := by
  refine Ctr.same (xs := [.str s, .str [c]]) (enters_of Tryz.func136 (by kernel_rfl) rfl) (count_any s c hl) (fun w L og vals h => ?_) (fun w L => RepV.int)
  obtain ⟨v, us, rfl, h1, v2, us2, rfl, h2, h3⟩ := h
  obtain rfl : us2 = [] := h3
  obtain rfl := RepV.str_inv h1
  obtain rfl := RepV.str_inv h2
  rfl

theorem ixB_lt {s : Str} {c : UInt8} (h : 0 ≤ ixB s c) : (ixB s c).toNat < s.length := by
  induction s with
  | nil => simp [ixB, Go.Lib.indexByte] at h
  | cons x s ih =>
    simp only [ixB, Go.Lib.indexByte] at h ih ⊢
    split
    · simp
    · split
      · rename_i h1 h2; simp [h1, h2] at h
      · rename_i h1 h2
        simp only [h1, h2] at h
        have h3 : Go.Lib.indexByte s c ≠ -1 := by simpa using h2
        have h4 := Go.Lib.indexByte_ge s c
        have := ih (by omega)
        simp only [List.length_cons]
        omega
theorem indexL_fn (s : Str) (c : UInt8) (hl : s.length ≤ 140737488355328) : Ctr Tryz.prog 181 [.d (.str s), .d (.str [c])] (.d (.int .i64 (ixB s c))) := by
  refine fn_of_vwp (fun _ => false) (by kernel_rfl) Tryz.func181 (by kernel_rfl) rfl rfl (Nat.le_of_ble_eq_true rfl) (by kernel_rfl) rfl rfl ?_
  simp -implicitDefEqProofs
  by_cases hs : [c] = s
  · subst hs
    simp [ixB, Go.Lib.indexByte]
  · simp only [hs, if_false]
    refine callK (indexByteL_fn s c) ?_
    simp -implicitDefEqProofs

/-- strings.Cut at a byte. -/
def cutB (s : Str) (c : UInt8) : Str × Str × Bool := if 0 ≤ ixB s c then (s.take (ixB s c).toNat, s.drop ((ixB s c).toNat + 1), true) else (s, [], false)

theorem cutL_fn (s : Str) (c : UInt8) (hl : s.length ≤ 140737488355328) : Ctr Tryz.prog 133 [.d (.str s), .d (.str [c])] (.tup [.d (.str (cutB s c).1), .d (.str (cutB s c).2.1), .d (.bool (cutB s c).2.2)]) := by
  refine fn_of_vwpN (rv := .tmp 4) (rs := [.tmp 5, .tmp 6]) (r := .d (.str (cutB s c).1)) (ys := [.d (.str (cutB s c).2.1), .d (.bool (cutB s c).2.2)]) (fun _ => false) (by kernel_rfl) Tryz.func133 (by kernel_rfl) rfl rfl (by simp) (Nat.le_of_ble_eq_true rfl) (by kernel_rfl) rfl rfl ?_
  simp -implicitDefEqProofs
  refine callK (indexL_fn s c hl) ?_
  by_cases h : 0 ≤ ixB s c
  · have hlt := ixB_lt h
    obtain ⟨k, hk⟩ := Int.eq_ofNat_of_zero_le h
    rw [hk] at hlt
    have h2 : (0 : Int) ≤ (k : Int) + 1 := by omega
    have h3 : ((k : Int) + 1).toNat = k + 1 := by omega
    simp -implicitDefEqProofs [hk, h2, h3, cutB]
    simp only [Int.toNat_natCast] at hlt
    refine ⟨by omega, by omega, by omega, ?_⟩
    rw [List.take_of_length_le (by simp)]
  · simp -implicitDefEqProofs [h, cutB]

theorem cut_fn (s : Str) (c : UInt8) (hl : s.length ≤ 140737488355328) : Ctr Tryz.prog 93 [.d (.str s), .d (.str [c])] (.tup [.d (.str (cutB s c).1), .d (.str (cutB s c).2.1), .d (.bool (cutB s c).2.2)]) := by
  refine fn_of_vwpN (rv := .tmp 4) (rs := [.tmp 5, .tmp 6]) (r := .d (.str (cutB s c).1)) (ys := [.d (.str (cutB s c).2.1), .d (.bool (cutB s c).2.2)]) (fun _ => false) (by kernel_rfl) Tryz.func93 (by kernel_rfl) rfl rfl (by simp) (Nat.le_of_ble_eq_true rfl) (by kernel_rfl) rfl rfl ?_
  simp -implicitDefEqProofs
  refine callK (cutL_fn s c hl) ?_
  simp -implicitDefEqProofs
end Go.Proofs.Tz

/- codec.plain, identityref02.plain. -/
set_option linter.unusedVariables false
set_option linter.unusedSimpArgs false
namespace Go.Proofs.Tz
open Go.Vw Go.RowKit Go.Proofs

/-- A byte that is written as it is. -/
def plainB (c : UInt8) : Bool := decide ((33 : Int) ≤ c.toNat ∧ (c.toNat : Int) ≤ 126 ∧ ¬ (c.toNat : Int) = 37 ∧ ¬ (c.toNat : Int) = 124 ∧ ¬ (c.toNat : Int) = 44 ∧ ¬ (c.toNat : Int) = 61 ∧ ¬ (c.toNat : Int) = 59 ∧ ¬ (c.toNat : Int) = 34)

theorem ixB_neg (s : Str) (c : UInt8) : ixB s c < 0 ↔ c ∉ s := by
  induction s with
  | nil => simp [ixB, Go.Lib.indexByte]
  | cons x s ih =>
    have h4 := Go.Lib.indexByte_ge s c
    simp only [ixB, Go.Lib.indexByte] at ih ⊢
    by_cases hx : x = c
    · simp [hx]
    · have hx' : (x == c) = false := by simpa using hx
      simp only [hx', Bool.false_eq_true, if_false, List.mem_cons, not_or]
      by_cases h : Go.Lib.indexByte s c = -1
      · simp [h] at ih ⊢
        exact ⟨fun e => hx e.symm, ih⟩
      · have hn : ¬ Go.Lib.indexByte s c < 0 := by omega
        have h0 : (Go.Lib.indexByte s c == -1) = false := by simpa using h
        simp only [h0, Bool.false_eq_true, if_false]
        constructor
        · intro h5; omega
        · intro h5; exact absurd (ih.2 h5.2) hn

theorem u8_int (c : UInt8) (k : Nat) (hk : k < 256) : ((c.toNat : Int) = k) ↔ c = UInt8.ofNat k := by
  constructor
  · intro h
    have : c.toNat = k := by omega
    rw [← this, UInt8.ofNat_toNat]
  · rintro rfl
    simp [UInt8.toNat_ofNat', Nat.mod_eq_of_lt hk]

theorem ixB_plain (c : UInt8) : decide (ixB [37, 124, 44, 61, 59, 34] c < 0) = decide (¬ (c.toNat : Int) = 37 ∧ ¬ (c.toNat : Int) = 124 ∧ ¬ (c.toNat : Int) = 44 ∧ ¬ (c.toNat : Int) = 61 ∧ ¬ (c.toNat : Int) = 59 ∧ ¬ (c.toNat : Int) = 34) := by
  have h1 : ((c.toNat : Int) = 37) ↔ c = 37 := u8_int c 37 (by omega)
  have h2 : ((c.toNat : Int) = 124) ↔ c = 124 := u8_int c 124 (by omega)
  have h3 : ((c.toNat : Int) = 44) ↔ c = 44 := u8_int c 44 (by omega)
  have h4 : ((c.toNat : Int) = 61) ↔ c = 61 := u8_int c 61 (by omega)
  have h5 : ((c.toNat : Int) = 59) ↔ c = 59 := u8_int c 59 (by omega)
  have h6 : ((c.toNat : Int) = 34) ↔ c = 34 := u8_int c 34 (by omega)
  rw [decide_eq_decide, ixB_neg, h1, h2, h3, h4, h5, h6]
  simp

theorem plain_fn (c : UInt8) : Ctr Tryz.prog 96 [.d (.int .u8 c.toNat)] (.d (.bool (plainB c))) := by
  refine fn_of_vwp (fun _ => false) (by kernel_rfl) Tryz.func96 (by kernel_rfl) rfl rfl (Nat.le_of_ble_eq_true rfl) (by kernel_rfl) rfl rfl ?_
  by_cases h1 : (33 : Int) ≤ c.toNat
  · by_cases h2 : (c.toNat : Int) ≤ 126
    · simp -implicitDefEqProofs [h1, h2]
      refine callK (indexByte_fn _ c) ?_
      simp -implicitDefEqProofs [h1, h2, plainB]
      rw [ixB_plain]
      simp
    · simp -implicitDefEqProofs [h1, h2, plainB]
  · simp -implicitDefEqProofs [h1, plainB]
end Go.Proofs.Tz

/- Escape. -/
set_option maxRecDepth 100000
set_option maxHeartbeats 4000000
set_option linter.unusedVariables false
set_option linter.unusedSimpArgs false
namespace Go.Proofs.Tz
open Go.Vw Go.RowKit Go.Proofs

abbrev hexDs : Str := [48, 49, 50, 51, 52, 53, 54, 55, 56, 57, 65, 66, 67, 68, 69, 70]
def hexC (n : Nat) : UInt8 := hexDs.getD n 0
def escB (c : UInt8) : Str := if plainB c then [c] else [37, hexC (c.toNat / 16), hexC (c.toNat % 16)]
def escS (s : Str) : Str := s.flatMap escB

theorem escB_len (c : UInt8) : (escB c).length ≤ 3 := by unfold escB; split <;> simp
theorem escS_len (s : Str) : (escS s).length ≤ 3 * s.length := by
  induction s with
  | nil => simp [escS]
  | cons c s ih =>
    have := escB_len c
    simp only [escS, List.flatMap_cons, List.length_append, List.length_cons] at ih ⊢
    omega
theorem escS_take {s : Str} {k : Nat} (h : k < List.length s) : escS (s.take (k + 1)) = escS (s.take k) ++ escB s[k] := by
  rw [take_s h]; simp only [escS, List.flatMap_append, List.flatMap_cons, List.flatMap_nil, List.append_nil]
theorem hex_at {n : Nat} (h : n < 16) : hexDs[n]? = some (hexC n) := by
  simp only [hexC, List.getD_eq_getElem?_getD]
  rw [List.getElem?_eq_getElem (by simpa using h)]
  rfl
theorem hexQ (c : UInt8) : (0 : Int) ≤ (c.toNat : Int) / 16 ∧ (c.toNat : Int) / 16 ≤ 255 ∧ ((c.toNat : Int) / 16).toNat = c.toNat / 16 ∧ [48, 49, 50, 51, 52, 53, 54, 55, 56, 57, 65, 66, 67, 68, 69, 70][c.toNat / 16]? = some (hexC (c.toNat / 16)) ∧ c.toNat / 16 < 16 := by
  have := c.toNat_lt
  exact ⟨by omega, by omega, by omega, hex_at (by omega), by omega⟩
theorem hexR (c : UInt8) : (0 : Int) ≤ (c.toNat : Int) % 16 ∧ ((c.toNat : Int) % 16).toNat = c.toNat % 16 ∧ [48, 49, 50, 51, 52, 53, 54, 55, 56, 57, 65, 66, 67, 68, 69, 70][c.toNat % 16]? = some (hexC (c.toNat % 16)) := by
  have := c.toNat_lt
  exact ⟨by omega, by omega, hex_at (by omega)⟩

/-- A new variable gets a name, and so does a nil slice in it. -/
theorem newK2 {P : Program} {e : TypeId} {z : D} {σ : St} {d : Nat} {K : St → Prop} (j k : Nat) (e' : TypeId) (h1 : σ k = .undef) (h2 : (P.info? (ety e')).isSome = true) (h3 : σ j = .undef) (hjk : j ≠ k)
    (hK : ∀ g, K (put (put (put σ k (.hs (.slice none 0 0) e' [])) j (.hb (va g) e z)) d (.d (.raw (va g))))) : NewK P e z σ d K :=
  ⟨j, some (k, e'), ⟨h1, h2⟩, by simp [nilN, hjk, h3], hK⟩

theorem zTX61 : zeroTX Tryz.prog true 8 102 = .agg [.nilp, .raw (.slice none 0 0)] := by kernel_rfl

def BldAt (τ : St) (b : Nat) (s : Str) : Prop := ∃ p hd, (p = .nilp ∨ p = .raw (va b)) ∧ τ 1000000 = .hb (va b) 102 (.agg [p, .raw hd]) ∧ τ 1000001 = .hs hd 5 (bytesD s)

theorem escape_fn (s : Str) (hs : List.length s < 1000000) : Ctr Tryz.prog 43 [.d (.str s)] (.d (.str (escS s))) := by
  refine fn_of_vwp (fun i => i == 1000003 || i == 5000017 || i == 5000018 || i == 5000022 || i == 5000026 || i == 5000028) (by kernel_rfl) Tryz.func43 (by kernel_rfl) rfl rfl (Nat.le_of_ble_eq_true rfl) (by kernel_rfl) rfl rfl ?_
  simp -implicitDefEqProofs
  refine newK2 1000000 1000001 5 (by simp) (by kernel_rfl) (by simp) (by simp) (fun b => ?_)
  simp -implicitDefEqProofs
  refine loopN (List.length s) (fun k τ => τ 0 = .d (.str s) ∧ τ 8 = .d (.int .i64 k) ∧ τ 7 = .d (.int .i64 s.length) ∧ τ 3 = .d (.raw (va b)) ∧ BldAt τ b (escS (s.take k))) ?_ ?_
  · exact ⟨by simp, by simp, by simp, by simp, .nilp, .slice none 0 0, .inl rfl, by simp [zTX61], by simp [escS, bytesD]⟩
  rintro k τ hk ⟨h0, h8, h7, h3, p, hd, hp, hb, hh⟩
  by_cases hlt : k < List.length s
  · have h5 := escS_len (s.take k)
    rw [List.length_take, Nat.min_eq_left (by omega)] at h5
    have h6 := escS_take hlt
    simp -implicitDefEqProofs [h0, h3, h7, h8, hlt]
    refine callK (plain_fn s[k]) ?_
    by_cases hpl : plainB s[k] = true
    · simp -implicitDefEqProofs [h0, h3, h7, h8, hlt, hpl]
      refine givB [1000000, 1000001] 1000000 (writeByte_fn (s := escS (s.take k)) (hd := hd) hp s[k] (by omega)) (by simp [hb, hh]) rfl (by simp) ?_
      rintro r hs' ⟨hd1, rfl⟩
      simp -implicitDefEqProofs [h0, h3, h7, h8, hlt, takeH, putH]
      refine ⟨by omega, again hlt ⟨by simp [h0], by simp, by simp [h7], by simp [h3], .raw (va b), hd1, .inr rfl, by simp, by simp [h6, escB, hpl]⟩⟩
    · obtain ⟨q1, q2, q3, q4, q5⟩ := hexQ s[k]
      obtain ⟨r1, r2, r3⟩ := hexR s[k]
      simp -implicitDefEqProofs [h0, h3, h7, h8, hlt, hpl]
      refine givB [1000000, 1000001] 1000000 (writeByte_fn (s := escS (s.take k)) (hd := hd) hp 37 (by omega)) (by simp [hb, hh]) rfl (by simp) ?_
      rintro r hs' ⟨hd1, rfl⟩
      have hand : s[k].toNat &&& 15 = s[k].toNat % 16 := Nat.and_two_pow_sub_one_eq_mod s[k].toNat 4
      have hlt8 : s[k].toNat ≤ 255 := by have := s[k].toNat_lt; omega
      simp -implicitDefEqProofs [h0, h3, h7, h8, hlt, takeH, putH, q1, q2, q3, q4]
      refine givB [1000000, 1000001] 1000000 (writeByte_fn (b := b) (s := escS (s.take k) ++ [37]) (hd := hd1) (.inr rfl) (hexC (s[k].toNat / 16)) (by simp; omega)) (by simp) rfl (by simp) ?_
      rintro r hs' ⟨hd2, rfl⟩
      simp -implicitDefEqProofs [h0, h3, h7, h8, hlt, takeH, putH, hand, r3, q1, q2, r1, r2, hlt8]
      refine ⟨by omega, ?_⟩
      refine givB [1000000, 1000001] 1000000 (writeByte_fn (b := b) (s := escS (s.take k) ++ [37] ++ [hexC (s[k].toNat / 16)]) (hd := hd2) (.inr rfl) (hexC (s[k].toNat % 16)) (by simp; omega)) (by simp) rfl (by simp) ?_
      rintro r hs' ⟨hd3, rfl⟩
      simp -implicitDefEqProofs [h0, h3, h7, h8, hlt, takeH, putH]
      refine ⟨by omega, again hlt ⟨by simp [h0], by simp, by simp [h7], by simp [h3], .raw (va b), hd3, .inr rfl, by simp, by simp [h6, escB, hpl]⟩⟩
  · simp -implicitDefEqProofs [h0, h3, h7, h8, hlt]
    rw [List.take_of_length_le (by omega)] at hh
    refine givB [1000000, 1000001] 1000000 (string_fn (s := escS s) (hd := hd) hp) (by simp [hb, hh]) rfl (by simp) ?_
    rintro r hs' ⟨rfl, rfl⟩
    simp -implicitDefEqProofs [h0, h3, h7, h8, hlt, takeH, putH]
end Go.Proofs.Tz

/- Unescape: the plain law. -/
set_option linter.unusedVariables false
set_option linter.unusedSimpArgs false
namespace Go.Proofs.Tz
open Go.Vw Go.RowKit Go.Proofs

/-- A hexadecimal digit's value, or -1. -/
abbrev hexV (c : UInt8) : Int := ixB hexDs c
def hx (h l : UInt8) : UInt8 := UInt8.ofNat (16 * (hexV h).toNat + (hexV l).toNat)

def unesc : Str → Option Str
  | [] => some []
  | c :: r => if plainB c then (unesc r).map (c :: ·) else if c = 37 then (match r with
    | h :: l :: r' => if 0 ≤ hexV h ∧ 0 ≤ hexV l ∧ plainB (hx h l) = false then (unesc r').map (hx h l :: ·) else none
    | _ => none) else none
  termination_by s => s.length

theorem unesc_nil : unesc [] = some [] := by rw [unesc.eq_def]
theorem unesc_cons (c : UInt8) (r : Str) : unesc (c :: r) = if plainB c then (unesc r).map (c :: ·) else if c = 37 then (match r with
    | h :: l :: r' => if 0 ≤ hexV h ∧ 0 ≤ hexV l ∧ plainB (hx h l) = false then (unesc r').map (hx h l :: ·) else none
    | _ => none) else none := by rw [unesc.eq_def]; rfl
theorem hexV_hexC : ∀ n, n < 16 → hexV (hexC n) = n := by decide
theorem hexV_lt (c : UInt8) (h : 0 ≤ hexV c) : (hexV c).toNat < 16 := by
  have := ixB_lt h
  simpa using this
theorem hx_nat (h l : UInt8) (h1 : 0 ≤ hexV h) (h2 : 0 ≤ hexV l) : (hx h l).toNat = 16 * (hexV h).toNat + (hexV l).toNat := by
  have := hexV_lt h h1
  have := hexV_lt l h2
  rw [hx, UInt8.toNat_ofNat']
  omega
theorem hx_hexC (c : UInt8) : hx (hexC (c.toNat / 16)) (hexC (c.toNat % 16)) = c := by
  have := c.toNat_lt
  rw [hx, hexV_hexC _ (by omega), hexV_hexC _ (by omega)]
  have : 16 * ((c.toNat / 16 : Nat) : Int).toNat + ((c.toNat % 16 : Nat) : Int).toNat = c.toNat := by omega
  rw [this, UInt8.ofNat_toNat]
theorem plain37 : plainB 37 = false := by decide

theorem unesc_esc (t : Str) : unesc (escS t) = some t := by
  induction t with
  | nil => simp [escS, unesc_nil]
  | cons c t ih =>
    have e : escS (c :: t) = escB c ++ escS t := by simp [escS]
    rw [e]
    have := c.toNat_lt
    by_cases hp : plainB c = true
    · simp [escB, hp, unesc_cons, ih]
    · have hp' : plainB c = false := by simpa using hp
      simp only [escB, hp', Bool.false_eq_true, if_false, List.cons_append, List.nil_append]
      rw [unesc_cons]
      simp only
      rw [hexV_hexC _ (by omega), hexV_hexC _ (by omega), hx_hexC]
      have b1 : (0 : Int) ≤ ((c.toNat / 16 : Nat) : Int) := Int.natCast_nonneg _
      have b2 : (0 : Int) ≤ ((c.toNat % 16 : Nat) : Int) := Int.natCast_nonneg _
      rw [if_neg (by simp [plain37]), if_pos trivial, if_pos ⟨b1, b2, hp'⟩, ih]
      rfl

theorem drop_s {s : Str} {k : Nat} (h : k < List.length s) : s.drop k = s[k] :: s.drop (k + 1) := List.drop_eq_getElem_cons h
end Go.Proofs.Tz

/- Unescape: the walks. -/
set_option maxRecDepth 100000
set_option maxHeartbeats 4000000
set_option linter.unusedVariables false
set_option linter.unusedSimpArgs false
namespace Go.Proofs.Tz
open Go.Vw Go.RowKit Go.Proofs

theorem again' {N k k' : Nat} {I : Nat → St → Prop} {τ : St} (hk : k < k') (hk' : k' ≤ N) (h : I k' τ) : Again N k I τ := ⟨N - k', by omega, k', hk', rfl, h⟩

theorem ixB_at {c : UInt8} : ∀ {s : Str} {k : Nat} (h : k < s.length), s[k] = c → c ∉ s.take k → ixB s c = k
  | [], k, h, _, _ => by simp at h
  | x :: s, 0, h, he, _ => by
    simp only [List.getElem_cons_zero] at he
    simp [ixB, Go.Lib.indexByte, he]
  | x :: s, k + 1, h, he, hn => by
    simp only [List.take_succ_cons, List.mem_cons, not_or] at hn
    have := ixB_at (s := s) (k := k) (by simpa using h) (by simpa using he) hn.2
    have hx : (x == c) = false := by simpa using fun e => hn.1 e.symm
    simp only [ixB] at this
    simp only [ixB, Go.Lib.indexByte, hx, this]
    have h2 : ((k : Int) == -1) = false := by simp
    simp [h2]
def unescP (s : Str) : Str × Int := match unesc s with
  | some t => (t, 0)
  | none => ([], 4)

theorem unesc_len : ∀ (n : Nat) (s t : Str), s.length ≤ n → unesc s = some t → t.length ≤ s.length := by
  intro n
  induction n with
  | zero =>
    intro s t hn h
    have : s = [] := List.length_eq_zero_iff.1 (by omega)
    subst this
    simp [unesc_nil] at h
    subst h; simp
  | succ n ih =>
    intro s t hn h
    cases s with
    | nil => simp [unesc_nil] at h; subst h; simp
    | cons c r =>
      rw [unesc_cons] at h
      split at h
      · obtain ⟨u, hu, rfl⟩ := Option.map_eq_some_iff.1 h
        have := ih r u (by simpa using hn) hu
        simpa using this
      · split at h
        · split at h
          · split at h
            · obtain ⟨u, hu, rfl⟩ := Option.map_eq_some_iff.1 h
              have := ih _ u (by simp at hn; omega) hu
              simp at this ⊢; omega
            · cases h
          · cases h
        · cases h

theorem unesc_short {r : Str} (h : r.length ≤ 1) : unesc (37 :: r) = none := by
  rw [unesc_cons, if_neg (by simp [plain37]), if_pos rfl]
  match r, h with
  | [], _ => rfl
  | [_], _ => rfl
  | _ :: _ :: _, h => simp at h
theorem unesc_two (a l : UInt8) (r : Str) : unesc (37 :: a :: l :: r) = if 0 ≤ hexV a ∧ 0 ≤ hexV l ∧ plainB (hx a l) = false then (unesc r).map (hx a l :: ·) else none := by
  rw [unesc_cons, if_neg (by simp [plain37]), if_pos rfl]
theorem unesc_bad {c : UInt8} {r : Str} (h1 : ¬ plainB c = true) (h2 : c ≠ 37) : unesc (c :: r) = none := by
  rw [unesc_cons, if_neg h1, if_neg h2]
theorem unescP_none {s : Str} (h : unesc s = none) : unescP s = ([], 4) := by simp [unescP, h]
theorem unescP_some {s t : Str} (h : unesc s = some t) : unescP s = (t, 0) := by simp [unescP, h]

theorem unescape_fn (s : Str) (hs : List.length s < 1000000) : Ctr Tryz.prog 50 [.d (.str s)] (.tup [.d (.str (unescP s).1), .d (.int .i64 (unescP s).2)]) := by
  refine fn_of_vwpN (rv := .tmp 2) (rs := [.tmp 3]) (r := .d (.str (unescP s).1)) (ys := [.d (.int .i64 (unescP s).2)]) (fun i => i == 1000004 || i == 5000021 || i == 5000062 || i == 5000065) (by kernel_rfl) Tryz.func50 (by kernel_rfl) rfl rfl (by simp) (Nat.le_of_ble_eq_true rfl) (by kernel_rfl) rfl rfl ?_
  simp -implicitDefEqProofs
  refine newK2 1000000 1000001 5 (by simp) (by kernel_rfl) (by simp) (by simp) (fun b => ?_)
  simp -implicitDefEqProofs
  refine loopN (List.length s) (fun k τ => τ 0 = .d (.str s) ∧ τ 5 = .d (.int .i64 k) ∧ τ 4 = .d (.raw (va b)) ∧ ∃ out, BldAt τ b out ∧ out.length ≤ k ∧ unesc s = (unesc (s.drop k)).map (out ++ ·)) ?_ ?_
  · exact ⟨by simp, by simp, by simp, [], ⟨.nilp, .slice none 0 0, .inl rfl, by simp [zTX61], by simp [bytesD]⟩, by simp, by simp⟩
  rintro k τ hk ⟨h0, h5, h4, out, ⟨p, hd, hp, hb, hh⟩, hol, hu⟩
  by_cases hlt : k < List.length s
  · have hdr := drop_s hlt
    simp -implicitDefEqProofs [h0, h4, h5, hlt]
    refine callK (plain_fn s[k]) ?_
    by_cases hpl : plainB s[k] = true
    · simp -implicitDefEqProofs [h0, h4, h5, hlt, hpl]
      refine givB [1000000, 1000001] 1000000 (writeByte_fn (s := out) (hd := hd) hp s[k] (by omega)) (by simp [hb, hh]) rfl (by simp) ?_
      rintro r hs' ⟨hd1, rfl⟩
      simp -implicitDefEqProofs [h0, h4, h5, hlt, takeH, putH]
      refine ⟨by omega, again hlt ⟨by simp [h0], by simp, by simp [h4], out ++ [s[k]], ⟨.raw (va b), hd1, .inr rfl, by simp, by simp⟩, by simp; omega, ?_⟩⟩
      rw [hu, hdr, unesc_cons, if_pos hpl]
      cases unesc (s.drop (k + 1)) <;> simp
    · by_cases h37 : (s[k].toNat : Int) = 37
      · have h37' : s[k] = 37 := (u8_int s[k] 37 (by omega)).1 h37
        by_cases h2 : (List.length s : Int) ≤ (k : Int) + 2
        · simp -implicitDefEqProofs [h0, h4, h5, hlt, hpl, h37, h2]
          refine ⟨by omega, ?_⟩
          rw [hdr, h37', unesc_short (by simp; omega)] at hu
          simp [unescP_none hu]
        · have l1 : k + 1 < List.length s := by omega
          have l2 : k + 2 < List.length s := by omega
          have i1 : (0 : Int) ≤ (k : Int) + 1 := by omega
          have i2 : (0 : Int) ≤ (k : Int) + 2 := by omega
          have j1 : ((k : Int) + 1).toNat = k + 1 := by omega
          have j2 : ((k : Int) + 2).toNat = k + 2 := by omega
          have g1 : s[k + 1]? = some s[k + 1] := List.getElem?_eq_getElem l1
          have g2 : s[k + 2]? = some s[k + 2] := List.getElem?_eq_getElem l2
          have hdr2 : s.drop k = 37 :: s[k + 1] :: s[k + 2] :: s.drop (k + 3) := by rw [hdr, h37', drop_s l1, drop_s l2]
          rw [hdr2, unesc_two] at hu
          simp only [hexV] at hu
          simp -implicitDefEqProofs [h0, h4, h5, hlt, hpl, h37, h2, i1, i2, j1, j2, g1, g2]
          refine ⟨by omega, by omega, callP (indexByte_fn hexDs s[k + 1]) ?_⟩
          simp -implicitDefEqProofs [h0, h4, h5, hlt, hpl, h37, h2, i1, i2, j1, j2, g1, g2]
          refine ⟨by omega, callP (indexByte_fn hexDs s[k + 2]) ?_⟩
          by_cases v1 : ixB hexDs s[k + 1] < 0
          · simp -implicitDefEqProofs [h0, h4, h5, hlt, v1]
            rw [if_neg (by omega)] at hu
            simp [unescP_none hu]
          by_cases v2 : ixB hexDs s[k + 2] < 0
          · simp -implicitDefEqProofs [h0, h4, h5, hlt, v1, v2]
            rw [if_neg (by omega)] at hu
            simp [unescP_none hu]
          have u1 : 0 ≤ ixB hexDs s[k + 1] := by omega
          have u2 : 0 ≤ ixB hexDs s[k + 2] := by omega
          have w1 : (ixB hexDs s[k + 1]).toNat < 16 := hexV_lt s[k + 1] u1
          have w2 : (ixB hexDs s[k + 2]).toNat < 16 := hexV_lt s[k + 2] u2
          have x1 : (hx s[k + 1] s[k + 2]).toNat = 16 * (ixB hexDs s[k + 1]).toNat + (ixB hexDs s[k + 2]).toNat := hx_nat s[k + 1] s[k + 2] u1 u2
          obtain ⟨A, hA⟩ := Int.eq_ofNat_of_zero_le u1
          obtain ⟨B, hB⟩ := Int.eq_ofNat_of_zero_le u2
          have v3 : ¬ ((A : Int) < 0) := by omega
          have v4 : ¬ ((B : Int) < 0) := by omega
          simp only [hA, hB, Int.toNat_natCast] at w1 w2 x1
          have hor : ((A : Int) * 16).toNat ||| B = (hx s[k + 1] s[k + 2]).toNat := by
            have e1 : ((A : Int) * 16).toNat = 2 ^ 4 * A := by omega
            rw [e1, x1, ← Nat.two_pow_add_eq_or_of_lt (by omega : B < 2 ^ 4)]
          have h8 : (hx s[k + 1] s[k + 2]).toNat ≤ 255 := by omega
          simp -implicitDefEqProofs [h0, h4, h5, hlt, hA, hB, v3, v4, hor]
          refine ⟨by omega, by omega, by omega, by omega, by omega, callK (plain_fn (hx s[k + 1] s[k + 2])) ?_⟩
          by_cases hpx : plainB (hx s[k + 1] s[k + 2]) = true
          · simp -implicitDefEqProofs [h0, h4, h5, hlt, hA, hB, v3, v4, hpx]
            rw [if_neg (by simp [hpx])] at hu
            simp [unescP_none hu]
          · have hpx' : plainB (hx s[k + 1] s[k + 2]) = false := by simpa using hpx
            simp -implicitDefEqProofs [h0, h4, h5, hlt, hA, hB, v3, v4, hor, hpx]
            refine ⟨by omega, by omega, by omega, by omega, by omega, ?_⟩
            refine givB [1000000, 1000001] 1000000 (writeByte_fn (s := out) (hd := hd) hp (hx s[k + 1] s[k + 2]) (by omega)) (by simp [hb, hh]) rfl (by simp) ?_
            rintro r hs' ⟨hd1, rfl⟩
            simp -implicitDefEqProofs [h0, h4, h5, hlt, takeH, putH]
            refine ⟨by omega, by omega, again' (k' := k + 3) (by omega) (by omega) ⟨by simp [h0], by simp; omega, by simp [h4], out ++ [hx s[k + 1] s[k + 2]], ⟨.raw (va b), hd1, .inr rfl, by simp, by simp⟩, by simp; omega, ?_⟩⟩
            rw [if_pos ⟨u1, u2, hpx'⟩] at hu
            rw [hu]
            cases unesc (s.drop (k + 3)) <;> simp
      · have h37' : s[k] ≠ 37 := fun e => h37 ((u8_int s[k] 37 (by omega)).2 e)
        rw [hdr, unesc_bad hpl h37'] at hu
        simp -implicitDefEqProofs [h0, h4, h5, hlt, hpl, h37]
        simp [unescP_none hu]
  · simp -implicitDefEqProofs [h0, h4, h5, hlt]
    rw [List.drop_of_length_le (by omega), unesc_nil] at hu
    simp only [Option.map_some, List.append_nil] at hu
    refine givB [1000000, 1000001] 1000000 (string_fn (s := out) (hd := hd) hp) (by simp [hb, hh]) rfl (by simp) ?_
    rintro r hs' ⟨rfl, rfl⟩
    simp -implicitDefEqProofs [h0, h4, h5, hlt, takeH, putH, unescP_some hu]

end Go.Proofs.Tz

/- strings.Split at one byte. -/
set_option maxRecDepth 100000
set_option maxHeartbeats 4000000
set_option linter.unusedVariables false
set_option linter.unusedSimpArgs false
namespace Go.Proofs.Tz
open Go.Vw Go.RowKit Go.Proofs

/-- The pieces between the bytes c. -/
def splitB (c : UInt8) : Str → List Str
  | [] => [[]]
  | x :: s => if x = c then [] :: splitB c s else (match splitB c s with
    | p :: ps => (x :: p) :: ps
    | [] => [[x]])

theorem splitB_ne (c : UInt8) (s : Str) : splitB c s ≠ [] := by
  cases s with
  | nil => simp [splitB]
  | cons x s =>
    simp only [splitB]
    split
    · simp
    · cases splitB c s <;> simp
theorem splitB_len (c : UInt8) (s : Str) : (splitB c s).length = s.count c + 1 := by
  induction s with
  | nil => simp [splitB]
  | cons x s ih =>
    simp only [splitB]
    by_cases hx : x = c
    · simp [hx, ih]
    · rw [if_neg hx]
      have h2 : (x :: s).count c = s.count c := by simp [List.count_cons, hx]
      rw [h2, ← ih]
      cases hs : splitB c s with
      | nil => exact absurd hs (splitB_ne c s)
      | cons p ps => simp
theorem splitB_none {c : UInt8} {s : Str} (h : c ∉ s) : splitB c s = [s] := by
  induction s with
  | nil => rfl
  | cons x s ih =>
    simp only [List.mem_cons, not_or] at h
    simp only [splitB, if_neg (fun e : x = c => h.1 e.symm), ih h.2]
theorem splitB_at {c : UInt8} : ∀ {s : Str} {k : Nat}, ixB s c = k → splitB c s = s.take k :: splitB c (s.drop (k + 1))
  | [], k, h => by simp [ixB, Go.Lib.indexByte] at h
  | x :: s, k, h => by
    have hge := Go.Lib.indexByte_ge s c
    simp only [ixB, Go.Lib.indexByte] at h
    by_cases hx : x = c
    · simp only [hx, beq_self_eq_true, if_true] at h
      obtain rfl : k = 0 := by omega
      simp [splitB, hx]
    · have hx' : (x == c) = false := by simpa using hx
      simp only [hx', Bool.false_eq_true, if_false] at h
      by_cases h2 : Go.Lib.indexByte s c = -1
      · simp [h2] at h
      · have h3 : (Go.Lib.indexByte s c == -1) = false := by simpa using h2
        simp only [h3, Bool.false_eq_true, if_false] at h
        obtain ⟨k', rfl⟩ : ∃ k', k = k' + 1 := ⟨k - 1, by omega⟩
        have ih := splitB_at (s := s) (k := k') (by show Go.Lib.indexByte s c = _; omega)
        simp only [splitB, if_neg hx, ih, List.take_succ_cons, List.drop_succ_cons]
theorem count_at {c : UInt8} {s : Str} {k : Nat} (h : ixB s c = k) : s.count c = (s.drop (k + 1)).count c + 1 := by
  have h1 := splitB_len c s
  rw [splitB_at h, List.length_cons, splitB_len] at h1
  omega
theorem count_zero {c : UInt8} {s : Str} (h : ixB s c < 0) : s.count c = 0 := List.count_eq_zero.2 ((ixB_neg s c).1 h)

theorem strIndex_fn (s : Str) (c : UInt8) (hl : s.length ≤ 140737488355328) : Ctr Tryz.prog 137 [.d (.str s), .d (.str [c])] (.d (.int .i64 (ixB s c))) := by
  refine fn_of_vwp (fun _ => false) (by kernel_rfl) Tryz.func137 (by kernel_rfl) rfl rfl (Nat.le_of_ble_eq_true rfl) (by kernel_rfl) rfl rfl ?_
  simp -implicitDefEqProofs
  refine callK (indexL_fn s c hl) ?_
  simp -implicitDefEqProofs

theorem rep_at {done : List Str} {k n : Nat} (hd : done.length = k) : (done.map D.str ++ List.replicate (n + 1) (D.str []))[k]? = some (.str []) := by
  rw [List.getElem?_append_right (by simp [hd])]
  simp [hd]
theorem rep_set {done : List Str} {k n : Nat} (hd : done.length = k) (p : Str) : (done.map D.str ++ List.replicate (n + 1) (D.str [])).set k (.str p) = (done ++ [p]).map D.str ++ List.replicate n (D.str []) := by
  rw [List.set_append_right _ _ (by simp [hd])]
  simp [hd, List.replicate_succ]
theorem genSplit_fn (s : Str) (c : UInt8) (hl : s.length < 1000000) : Ctr Tryz.prog 100 [.d (.str s), .d (.str [c]), .d (.int .i64 0), .d (.int .i64 (-1))] (.own true 9 ((splitB c s).map .str)) := by
  refine fn_of_vwp (fun i => decide (i < 1000000)) (by kernel_rfl) Tryz.func100 (by kernel_rfl) rfl rfl (Nat.le_of_ble_eq_true rfl) (by kernel_rfl) rfl rfl ?_
  simp -implicitDefEqProofs
  refine callK (count_fn s c (by omega)) ?_
  have hc : s.count c ≤ s.length := List.count_le_length
  have hnc : ¬ List.length s < s.count c := by omega
  have z1 : ((s.count c : Int) + 1 - 1) = (s.count c : Int) := by omega
  have z2 : ((s.count c : Int) + 1).toNat = s.count c + 1 := by omega
  simp -implicitDefEqProofs [hnc, z1, z2]
  refine ⟨by omega, by omega, by omega, by omega, by omega, by omega, ?_⟩
  refine loopN (s.count c) (fun k τ => τ 1 = .d (.str [c]) ∧ τ 2 = .d (.int .i64 0) ∧ τ 3 = .d (.int .i64 (s.count c)) ∧ τ 10 = .d (.int .i64 k) ∧ ∃ rest done, τ 0 = .d (.str rest) ∧ List.length done = k ∧ List.length rest ≤ List.length s ∧
    τ 9 = .own true 9 (done.map .str ++ List.replicate (s.count c - k + 1) (.str [])) ∧ splitB c s = done ++ splitB c rest ∧ rest.count c = s.count c - k) ?_ ?_
  · refine ⟨by simp, by simp, by simp [z1], by simp, s, [], by simp, by simp, by simp, by simp, by simp, by simp⟩
  rintro k τ hk ⟨h1, h2, h3, h10, rest, done, h0, hd, hrl, h9, hsp, hct⟩
  by_cases hlt : k < s.count c
  · have hlt' : (k : Int) < (s.count c : Int) := by omega
    simp -implicitDefEqProofs [h0, h1, h2, h3, h9, h10, hlt']
    refine callK (strIndex_fn rest c (by omega)) ?_
    have hin : ¬ ixB rest c < 0 := fun h => by have := count_zero h; omega
    obtain ⟨m, hm⟩ := Int.eq_ofNat_of_zero_le (show 0 ≤ ixB rest c by omega)
    have hml := ixB_lt (show 0 ≤ ixB rest c by omega)
    simp only [hm, Int.toNat_natCast] at hml
    have hm0 : ¬ ((m : Int) < 0) := by omega
    have hm1 : (0 : Int) ≤ (m : Int) + 1 := by omega
    have hm2 : ((m : Int) + 1).toNat = m + 1 := by omega
    have hg : ∀ h, (done.map D.str ++ List.replicate (s.count c - k + 1) (D.str []))[k]'h = D.str [] := fun h => by
      have := rep_at (n := s.count c - k) hd
      rw [List.getElem?_eq_getElem h] at this
      simpa using this
    have hk1 : (0 : Int) ≤ (k : Int) + 1 := by omega
    have hkd : k < List.length done + (s.count c - k + 1) := by omega
    have hs := rep_set (n := s.count c - k) hd (rest.take m)
    simp -implicitDefEqProofs [h0, h1, h2, h3, h9, h10, hlt', hm, hm0, hm1, hm2, hg, hkd, hs, hk1]
    have hsp2 := splitB_at hm
    have hct2 := count_at hm
    refine ⟨by omega, by omega, by omega, by omega, by omega, again hlt ⟨by simp [h1], by simp [h2], by simp [h3], by simp, rest.drop (m + 1), ?_, done ++ [rest.take m], by simp [hd], by simp; omega, ?_, ?_, by omega⟩⟩
    · simp
      rw [List.take_of_length_le (by simp)]
    · simp
      have : s.count c - k = s.count c - (k + 1) + 1 := by omega
      rw [this]
    · rw [hsp, hsp2]; simp
  · have hke : k = s.count c := by omega
    have hlt' : ¬ (k : Int) < (s.count c : Int) := by omega
    have hg : ∀ h, (done.map D.str ++ List.replicate (s.count c - k + 1) (D.str []))[k]'h = D.str [] := fun h => by
      have := rep_at (n := s.count c - k) hd
      rw [List.getElem?_eq_getElem h] at this
      simpa using this
    have hk1 : (0 : Int) ≤ (k : Int) + 1 := by omega
    have hkd : k < List.length done + (s.count c - k + 1) := by omega
    have hs := rep_set (n := s.count c - k) hd rest
    simp -implicitDefEqProofs [h0, h1, h2, h3, h9, h10, hlt', hg, hkd, hs, hk1]
    have hrest : splitB c rest = [rest] := splitB_none (List.count_eq_zero.1 (by omega))
    refine ⟨by omega, by omega, ?_⟩
    rw [hsp, hrest]
    have : (done.map D.str).length = k := by simp [hd]
    rw [List.take_append, List.take_of_length_le (by omega), this]
    simp

theorem split_fn (s : Str) (c : UInt8) (hl : s.length < 1000000) : Ctr Tryz.prog 47 [.d (.str s), .d (.str [c])] (.own true 9 ((splitB c s).map .str)) := by
  refine fn_of_vwp (fun i => decide (i < 1000000)) (by kernel_rfl) Tryz.func47 (by kernel_rfl) rfl rfl (Nat.le_of_ble_eq_true rfl) (by kernel_rfl) rfl rfl ?_
  simp -implicitDefEqProofs
  refine callK (genSplit_fn s c hl) ?_
  simp -implicitDefEqProofs
end Go.Proofs.Tz

/- General facts on lists, pieces of strings and their escapes (no program in sight). -/
set_option linter.unusedVariables false
set_option linter.unusedSimpArgs false
namespace Go.Proofs.Tz
open Go.Vw Go.RowKit Go.Proofs

theorem drop_c {α : Type} {l : List α} {k : Nat} (h : k < l.length) : l.drop k = l[k] :: l.drop (k + 1) := List.drop_eq_getElem_cons h
theorem splitB_le (c : UInt8) : ∀ (s : Str), ∀ p ∈ splitB c s, List.length p ≤ s.length
  | [], p, hp => by simp [splitB] at hp; subst hp; simp
  | x :: s, p, hp => by
    simp only [splitB] at hp
    split at hp
    · rcases List.mem_cons.1 hp with rfl | hp
      · simp
      · have := splitB_le c s p hp; simp; omega
    · cases hs : splitB c s with
      | nil => rw [hs] at hp; simp at hp; subst hp; simp
      | cons q qs =>
        rw [hs] at hp
        simp only at hp
        have ih := splitB_le c s
        rw [hs] at ih
        rcases List.mem_cons.1 hp with rfl | hp
        · have := ih q (by simp); simp; omega
        · have := ih p (by simp [hp]); simp; omega
theorem hexC_safe : ∀ n, n < 16 → 33 ≤ (hexC n).toNat ∧ (hexC n).toNat ≤ 126 := by decide
theorem escS_safe {s : Str} {c : UInt8} (h : c ∈ escS s) : 33 ≤ c.toNat ∧ c.toNat ≤ 126 := by
  simp only [escS, List.mem_flatMap] at h
  obtain ⟨x, _, hx⟩ := h
  have hlt := x.toNat_lt
  unfold escB at hx
  split at hx
  · rename_i hp
    rw [List.mem_singleton] at hx
    subst hx
    simp only [plainB, decide_eq_true_eq] at hp
    omega
  · simp only [List.mem_cons, List.not_mem_nil, or_false] at hx
    rcases hx with rfl | rfl | rfl
    · decide
    · exact hexC_safe _ (by omega)
    · exact hexC_safe _ (by omega)
theorem escS_no10 (s : Str) : (10 : UInt8) ∉ escS s := fun h => by have := (escS_safe h).1; revert this; decide
theorem escS_no32 (s : Str) : (32 : UInt8) ∉ escS s := fun h => by have := (escS_safe h).1; revert this; decide
theorem ixB_mid {c : UInt8} {a b : Str} (h : c ∉ a) : ixB (a ++ c :: b) c = List.length a :=
  ixB_at (by simp) (by simp) (by simpa using h)
theorem splitB_mid {c : UInt8} {a b : Str} (h : c ∉ a) : splitB c (a ++ c :: b) = a :: splitB c b := by
  have e1 : List.take (List.length a) (a ++ c :: b) = a := by simp
  have e2 : List.drop (List.length a + 1) (a ++ c :: b) = b := by rw [← List.drop_drop]; simp
  rw [splitB_at (ixB_mid h), e1, e2]
/-- The pieces, joined. -/
def joinB (c : UInt8) : List Str → Str
  | [] => []
  | [p] => p
  | p :: q :: ps => p ++ c :: joinB c (q :: ps)
/-- All of a list are so. -/
def AllB {α : Type} (p : α → Bool) (l : List α) : Prop := ∀ x ∈ l, p x = true
theorem AllB.nil {α : Type} {p : α → Bool} : AllB p [] := fun _ h => by simp at h
theorem AllB.snoc {α : Type} {p : α → Bool} {l m : List α} {x : α} (h : AllB p l) (hx : p x = true) (e : m = l ++ [x]) : AllB p m := fun y hy => by
  rw [e, List.mem_append, List.mem_singleton] at hy
  rcases hy with hy | rfl
  · exact h y hy
  · exact hx
theorem AllB.all {α : Type} {p : α → Bool} {l : List α} (h : AllB p l) : l.all p = true := List.all_eq_true.2 h
end Go.Proofs.Tz

/- Texts of lines, read one by one: the plain law, for any form of lines (no program in sight). -/
set_option linter.unusedVariables false
set_option linter.unusedSimpArgs false
namespace Go.Proofs.Tz
open Go.Vw Go.RowKit Go.Proofs

theorem split_join {c : UInt8} : ∀ {l : List Str}, l ≠ [] → (∀ p ∈ l, c ∉ p) → splitB c (joinB c l) = l
  | [], h, _ => absurd rfl h
  | [p], _, h => splitB_none (h p (by simp))
  | p :: q :: l, _, h => by
    have ih := split_join (l := q :: l) (by simp) (fun x hx => h x (by simp at hx ⊢; right; exact hx))
    have e : joinB c (p :: q :: l) = p ++ c :: joinB c (q :: l) := rfl
    rw [e, splitB_mid (h p (by simp)), ih]
section
variable {α : Type} (line : Str → Option α) (chk : List α → Int)
end

section
variable {α : Type} {line : Str → Option α} {chk : List α → Int} {w : α → Str}
end
end Go.Proofs.Tz

/- Change sequence numbers: the plain law (no program in sight). -/
set_option linter.unusedVariables false
set_option linter.unusedSimpArgs false
namespace Go.Proofs.Tz
open Go.Vw Go.RowKit Go.Proofs

abbrev Csn := Int × Int × Int
def csnD (c : Csn) : D := .agg [.int .i64 c.1, .int .i64 c.2.1, .int .i64 c.2.2]
def csns (l : List Csn) : D := .sl (l.map csnD)
def validC (c : Csn) : Bool := decide (0 ≤ c.1) && decide (c.1 ≤ 1099511627776) && decide (0 ≤ c.2.1) && decide (c.2.1 ≤ 4294967295) && decide (0 ≤ c.2.2) && decide (c.2.2 < 8)
def ordI (a b : Int) : Int := if a < b then -1 else if b < a then 1 else 0
def cmpC (a b : Csn) : Int := if a.1 ≠ b.1 then ordI a.1 b.1 else if a.2.1 ≠ b.2.1 then ordI a.2.1 b.2.1 else ordI a.2.2 b.2.2

theorem ordI_zero {a b : Int} : ordI a b = 0 ↔ a = b := by unfold ordI; split <;> (try split) <;> omega
theorem ordI_neg {a b : Int} : ordI a b < 0 ↔ a < b := by unfold ordI; split <;> (try split) <;> omega
theorem ordI_anti (a b : Int) : ordI b a = - ordI a b := by unfold ordI; split <;> (try split) <;> (try split) <;> omega
theorem cmpC_zero {a b : Csn} : cmpC a b = 0 ↔ a = b := by
  unfold cmpC
  obtain ⟨a1, a2, a3⟩ := a
  obtain ⟨b1, b2, b3⟩ := b
  simp only [Prod.mk.injEq]
  split
  · rw [ordI_zero]; rename_i h; constructor
    · intro e; exact absurd e h
    · intro e; exact e.1
  · rename_i h
    have h : a1 = b1 := by simpa using h
    split
    · rw [ordI_zero]; rename_i h; constructor
      · intro e; exact absurd e h
      · intro e; exact e.2.1
    · rename_i h2
      have h2 : a2 = b2 := by simpa using h2
      rw [ordI_zero]; exact ⟨fun e => ⟨h, h2, e⟩, fun e => e.2.2⟩
theorem cmpC_neg {a b : Csn} : cmpC a b < 0 ↔ a.1 < b.1 ∨ a.1 = b.1 ∧ (a.2.1 < b.2.1 ∨ a.2.1 = b.2.1 ∧ a.2.2 < b.2.2) := by
  unfold cmpC
  split
  · rw [ordI_neg]; omega
  · split
    · rw [ordI_neg]; omega
    · rw [ordI_neg]; omega
theorem cmpC_anti (a b : Csn) : cmpC b a = - cmpC a b := by
  unfold cmpC
  by_cases h1 : a.1 = b.1
  · by_cases h2 : a.2.1 = b.2.1
    · simp only [h1, h2, ne_eq, not_true_eq_false, if_false]; exact ordI_anti _ _
    · have h2' : ¬ b.2.1 = a.2.1 := fun e => h2 e.symm
      simp only [h1, h2, h2', ne_eq, not_true_eq_false, not_false_eq_true, if_false, if_true]; exact ordI_anti _ _
  · have h1' : ¬ b.1 = a.1 := fun e => h1 e.symm
    simp only [h1, h1', ne_eq, not_false_eq_true, if_true]; exact ordI_anti _ _
theorem cmpC_trans {a b c : Csn} (h1 : cmpC a b < 0) (h2 : cmpC b c < 0) : cmpC a c < 0 := by
  rw [cmpC_neg] at *; omega

abbrev hexLow : Str := [48, 49, 50, 51, 52, 53, 54, 55, 56, 57, 97, 98, 99, 100, 101, 102]
def hexD (n : Nat) : UInt8 := hexLow.getD n 0
/-- The last w hexadecimal digits of n. -/
def hexS (n : Nat) : Nat → Str
  | 0 => []
  | w + 1 => hexS (n / 16) w ++ [hexD (n % 16)]
theorem hexS_len (w : Nat) : ∀ n, (hexS n w).length = w := by
  induction w with
  | zero => intro n; rfl
  | succ w ih => intro n; simp [hexS, ih]
def numGo (n : Int) : Str → Int
  | [] => n
  | c :: s => if ixB hexLow c < 0 then -1 else numGo (n * 16 + ixB hexLow c) s
def numH (s : Str) : Int := numGo 0 s
theorem numGo_app (n : Int) (hn : 0 ≤ n) : ∀ (a b : Str), numGo n (a ++ b) = if numGo n a < 0 then -1 else numGo (numGo n a) b := by
  intro a
  induction a generalizing n with
  | nil => intro b; simp [numGo]; omega
  | cons c a ih =>
    intro b
    simp only [List.cons_append, numGo]
    by_cases h : ixB hexLow c < 0
    · simp [h]
    · simp only [h, if_false]
      exact ih _ (by omega) b
theorem ix_hexD : ∀ n, n < 16 → ixB hexLow (hexD n) = n := by decide
theorem num_hex (w : Nat) : ∀ n, n < 16 ^ w → numH (hexS n w) = n := by
  induction w with
  | zero => intro n h; simp at h; subst h; rfl
  | succ w ih =>
    intro n h
    have h1 := ih (n / 16) (by rw [Nat.div_lt_iff_lt_mul (by decide)]; rw [Nat.pow_succ] at h; exact h)
    unfold numH at h1 ⊢
    rw [hexS, numGo_app 0 (Int.le_refl _), h1, if_neg (by omega)]
    simp only [numGo, ix_hexD (n % 16) (by omega)]
    rw [if_neg (by omega)]
    omega
theorem hexD_ix {c : UInt8} (h : ¬ ixB hexLow c < 0) : hexD (ixB hexLow c).toNat = c ∧ (ixB hexLow c).toNat < 16 := by
  have hlt : (ixB hexLow c).toNat < hexLow.length := ixB_lt (by omega)
  refine ⟨?_, by simpa using hlt⟩
  have h1 : ∀ (s : Str), 0 ≤ ixB s c → s.getD (ixB s c).toNat 0 = c := by
    intro s
    induction s with
    | nil => intro h; simp [ixB, Go.Lib.indexByte] at h
    | cons x s ih =>
      intro h
      have hge := Go.Lib.indexByte_ge s c
      simp only [ixB, Go.Lib.indexByte] at h ih ⊢
      by_cases hx : (x == c) = true
      · rw [if_pos hx]; simpa using hx
      · rw [if_neg hx] at h ⊢
        by_cases h2 : (Go.Lib.indexByte s c == -1) = true
        · rw [if_pos h2] at h; simp at h
        · rw [if_neg h2] at h ⊢
          have h3 : 0 ≤ Go.Lib.indexByte s c := by
            have : Go.Lib.indexByte s c ≠ -1 := by simpa using h2
            omega
          have h4 : (Go.Lib.indexByte s c + 1).toNat = (Go.Lib.indexByte s c).toNat + 1 := by omega
          rw [h4, List.getD_cons_succ]
          exact ih h3
  exact h1 hexLow (by omega)
theorem numGo_lt : ∀ (s : Str) (n : Int), 0 ≤ n → numGo n s < (n + 1) * 16 ^ s.length
  | [], n, h => by simp [numGo]; omega
  | c :: s, n, h => by
    simp only [numGo, List.length_cons]
    split
    · have : (0 : Int) < (n + 1) * 16 ^ (s.length + 1) := Int.mul_pos (by omega) (Int.pow_pos (by decide))
      omega
    · rename_i hc
      have h16 := (hexD_ix hc).2
      have ih := numGo_lt s (n * 16 + ixB hexLow c) (by omega)
      have h2 : (n * 16 + ixB hexLow c + 1) * 16 ^ s.length ≤ ((n + 1) * 16) * 16 ^ s.length := Int.mul_le_mul_of_nonneg_right (by omega) (Int.le_of_lt (Int.pow_pos (by decide)))
      have e : (n + 1) * 16 ^ (s.length + 1) = ((n + 1) * 16) * 16 ^ s.length := by rw [Int.pow_succ, Int.mul_assoc, Int.mul_comm 16]
      rw [e]
      omega
theorem hex_num : ∀ (w : Nat) (s : Str), s.length = w → 0 ≤ numH s → hexS (numH s).toNat w = s := by
  intro w
  induction w with
  | zero => intro s h _; have : s = [] := List.length_eq_zero_iff.1 h; subst this; rfl
  | succ w ih =>
    intro s h h0
    have hsn : s ≠ [] := by rintro rfl; simp at h
    obtain ⟨a, c, rfl⟩ : ∃ a c, s = a ++ [c] := ⟨s.dropLast, s.getLast hsn, (List.dropLast_concat_getLast hsn).symm⟩
    have ha : a.length = w := by simpa using h
    unfold numH at h0 ih ⊢
    rw [numGo_app 0 (Int.le_refl _)] at h0 ⊢
    by_cases h1 : numGo 0 a < 0
    · rw [if_pos h1] at h0; omega
    · rw [if_neg h1] at h0 ⊢
      simp only [numGo] at h0 ⊢
      by_cases hc : ixB hexLow c < 0
      · rw [if_pos hc] at h0; omega
      · rw [if_neg hc] at h0 ⊢
        obtain ⟨e1, e2⟩ := hexD_ix hc
        have i := ih a ha (by omega)
        rw [hexS]
        have d1 : (numGo 0 a * 16 + ixB hexLow c).toNat / 16 = (numGo 0 a).toNat := by omega
        have d2 : (numGo 0 a * 16 + ixB hexLow c).toNat % 16 = (ixB hexLow c).toNat := by omega
        rw [d1, d2, e1, i]

def formatC (c : Csn) : Str := if validC c = true then hexS c.1.toNat 11 ++ 45 :: (hexS c.2.1.toNat 8 ++ 45 :: hexS c.2.2.toNat 1) else []
def rawC (s : Str) : Csn := (numH (s.take 11), numH ((s.take 20).drop 12), numH (s.drop 21))
def parseC (s : Str) : Csn × Int :=
  if s.length ≠ 22 ∨ s[11]? ≠ some 45 ∨ s[20]? ≠ some 45 then ((0, 0, 0), 4)
  else if (rawC s).1 < 0 ∨ (rawC s).2.1 < 0 ∨ (rawC s).2.2 < 0 then ((0, 0, 0), 4)
  else if validC (rawC s) = false then ((0, 0, 0), 27) else (rawC s, 0)

theorem formatC_len {c : Csn} (h : validC c = true) : (formatC c).length = 22 := by
  rw [formatC, if_pos h]; simp [hexS_len]
theorem validC_iff {c : Csn} : validC c = true ↔ 0 ≤ c.1 ∧ c.1 ≤ 1099511627776 ∧ 0 ≤ c.2.1 ∧ c.2.1 ≤ 4294967295 ∧ 0 ≤ c.2.2 ∧ c.2.2 < 8 := by
  simp only [validC, Bool.and_eq_true, decide_eq_true_eq]
  omega
theorem parse_format {c : Csn} (h : validC c = true) : parseC (formatC c) = (c, 0) := by
  have hv := validC_iff.1 h
  obtain ⟨t, s, r⟩ := c
  simp only at hv
  have hl := formatC_len h
  have l1 := hexS_len 11 t.toNat
  have l2 := hexS_len 8 s.toNat
  have l3 := hexS_len 1 r.toNat
  have e : formatC (t, s, r) = hexS t.toNat 11 ++ 45 :: (hexS s.toNat 8 ++ 45 :: hexS r.toNat 1) := by rw [formatC, if_pos h]
  have n1 := num_hex 11 t.toNat (by have : (16 : Nat) ^ 11 = 17592186044416 := by decide
                                    omega)
  have n2 := num_hex 8 s.toNat (by have : (16 : Nat) ^ 8 = 4294967296 := by decide
                                   omega)
  have n3 := num_hex 1 r.toNat (by have : (16 : Nat) ^ 1 = 16 := by decide
                                   omega)
  generalize hexS t.toNat 11 = A at *
  generalize hexS s.toNat 8 = B at *
  generalize hexS r.toNat 1 = C at *
  have g1 : (formatC (t, s, r))[11]? = some 45 := by
    rw [e, List.getElem?_append_right (by omega), l1]; rfl
  have g2 : (formatC (t, s, r))[20]? = some 45 := by
    rw [e, List.getElem?_append_right (by omega), l1]
    show (B ++ 45 :: C)[8]? = _
    rw [List.getElem?_append_right (by omega), l2]; rfl
  have t1 : (formatC (t, s, r)).take 11 = A := by rw [e, ← l1, List.take_left]
  have t2 : ((formatC (t, s, r)).take 20).drop 12 = B := by
    have : formatC (t, s, r) = (A ++ [45]) ++ B ++ (45 :: C) := by rw [e]; simp
    rw [this, List.take_append_of_le_length (by simp; omega), List.take_of_length_le (by simp; omega)]
    have l4 : (A ++ [45]).length = 12 := by simp; omega
    rw [← l4, List.drop_left]
  have t3 : (formatC (t, s, r)).drop 21 = C := by
    have : formatC (t, s, r) = (A ++ [45] ++ B ++ [45]) ++ C := by rw [e]; simp
    have l4 : (A ++ [45] ++ B ++ [45]).length = 21 := by simp; omega
    rw [this, ← l4, List.drop_left]
  have hr : rawC (formatC (t, s, r)) = (t, s, r) := by
    rw [rawC, t1, t2, t3, n1, n2, n3]
    simp only [Prod.mk.injEq]
    omega
  rw [parseC, if_neg (by rw [g1, g2]; simp [hl]), hr, if_neg (by simp only; omega), if_neg (by rw [h]; simp)]
theorem format_parse {s : Str} {c : Csn} (h : parseC s = (c, 0)) : formatC c = s ∧ validC c = true := by
  unfold parseC at h
  split at h
  · simp at h
  · rename_i h1
    split at h
    · simp at h
    · rename_i h2
      split at h
      · simp at h
      · rename_i h3
        simp only [Prod.mk.injEq, and_true] at h
        subst h
        have hv : validC (rawC s) = true := by simpa using h3
        refine ⟨?_, hv⟩
        have h1' : s.length = 22 ∧ s[11]? = some 45 ∧ s[20]? = some 45 := by
          simp only [not_or, Classical.not_not, ne_eq] at h1; exact h1
        obtain ⟨hl, g1, g2⟩ := h1'
        simp only [rawC, not_or, Int.not_lt] at h2
        rw [formatC, if_pos hv]
        simp only [rawC]
        rw [hex_num 11 _ (by simp; omega) h2.1, hex_num 8 _ (by simp; omega) h2.2.1, hex_num 1 _ (by simp; omega) h2.2.2]
        have e1 : s = s.take 11 ++ s.drop 11 := (List.take_append_drop 11 s).symm
        have e2 : s.drop 11 = 45 :: s.drop 12 := by
          rw [List.drop_eq_getElem_cons (by omega)]
          congr 1
          rw [List.getElem?_eq_getElem (by omega)] at g1
          exact Option.some.inj g1
        have e3 : s.drop 12 = (s.take 20).drop 12 ++ s.drop 20 := by
          rw [List.drop_take, show (20 : Nat) = 12 + 8 from rfl, ← List.drop_drop, show 12 + 8 - 12 = 8 from rfl, List.take_append_drop]
        have e4 : s.drop 20 = 45 :: s.drop 21 := by
          rw [List.drop_eq_getElem_cons (by omega)]
          congr 1
          rw [List.getElem?_eq_getElem (by omega)] at g2
          exact Option.some.inj g2
        rw [← e4, ← e3, ← e2, ← e1]
theorem formatC_no {c : Csn} {d : UInt8} (hd : d ∉ hexLow) (h0 : d ≠ 0) (h45 : d ≠ 45) : d ∉ formatC c := by
  have hx : ∀ w n, d ∉ hexS n w := by
    intro w
    induction w with
    | zero => intro n; simp [hexS]
    | succ w ih =>
      intro n
      rw [hexS, List.mem_append, List.mem_singleton]
      rintro (h | h)
      · exact ih _ h
      · have : hexD (n % 16) ∈ hexLow := by
          have hlt : n % 16 < 16 := Nat.mod_lt _ (by decide)
          unfold hexD
          rw [List.getD_eq_getElem?_getD, List.getElem?_eq_getElem (by simpa using hlt)]
          exact List.getElem_mem _
        exact hd (h ▸ this)
  unfold formatC
  split
  · simp only [List.mem_append, List.mem_cons, not_or]
    exact ⟨hx _ _, h45, hx _ _, h45, hx _ _⟩
  · simp
end Go.Proofs.Tz

/- Change sequence numbers: Valid, Compare (both). -/
set_option maxRecDepth 100000
set_option maxHeartbeats 4000000
set_option linter.unusedVariables false
set_option linter.unusedSimpArgs false
namespace Go.Proofs.Tz
open Go.Vw Go.RowKit Go.Proofs

theorem isNaNI_fn (x : Int) : Ctr Tryz.prog 154 [.d (.int .i64 x)] (.d (.bool false)) := by
  refine fn_of_vwp (fun _ => false) (by kernel_rfl) Tryz.func154 (by kernel_rfl) rfl rfl (Nat.le_of_ble_eq_true rfl) (by kernel_rfl) rfl rfl ?_
  simp -implicitDefEqProofs
theorem cmpI_fn (x y : Int) : Ctr Tryz.prog 119 [.d (.int .i64 x), .d (.int .i64 y)] (.d (.int .i64 (ordI x y))) := by
  refine fn_of_vwp (fun _ => false) (by kernel_rfl) Tryz.func119 (by kernel_rfl) rfl rfl (Nat.le_of_ble_eq_true rfl) (by kernel_rfl) rfl rfl ?_
  have c1 := isNaNI_fn x
  have c2 := isNaNI_fn y
  unfold ordI
  by_cases h1 : x < y
  · simp -implicitDefEqProofs
    refine callK c1 ?_
    simp -implicitDefEqProofs
    refine callK c2 ?_
    simp -implicitDefEqProofs [h1]
  by_cases h2 : y < x
  · simp -implicitDefEqProofs
    refine callK c1 ?_
    simp -implicitDefEqProofs
    refine callK c2 ?_
    simp -implicitDefEqProofs [h1, h2]
  · simp -implicitDefEqProofs
    refine callK c1 ?_
    simp -implicitDefEqProofs
    refine callK c2 ?_
    simp -implicitDefEqProofs [h1, h2]
def orI : List Int → Int
  | [] => 0
  | x :: l => if x ≠ 0 then x else orI l
def intsD (l : List Int) : D := .sl (l.map (.int .i64))
theorem cmpOr_fn (l : List Int) (hl : l.length < 1000000) : Ctr Tryz.prog 118 [.d (intsD l)] (.d (.int .i64 (orI l))) := by
  refine fn_of_vwp (fun _ => false) (by kernel_rfl) Tryz.func118 (by kernel_rfl) rfl rfl (Nat.le_of_ble_eq_true rfl) (by kernel_rfl) rfl rfl ?_
  obtain ⟨R, hR⟩ : ∃ R, orI l = R := ⟨_, rfl⟩
  rw [hR]
  simp -implicitDefEqProofs [intsD]
  refine loopN l.length (fun k τ => τ 6 = .d (intsD l) ∧ τ 7 = .d (.int .i64 l.length) ∧ τ 8 = .d (.int .i64 k) ∧ τ 3 = .d (.int .i64 0) ∧ orI (l.drop k) = R) ⟨by simp [intsD], by simp, by simp, by simp, by simpa using hR⟩ ?_
  rintro k τ hk ⟨h6, h7, h8, h3, hI⟩
  by_cases hlt : k < l.length
  · have hlt' : (k : Int) < l.length := by omega
    rw [List.drop_eq_getElem_cons hlt, orI] at hI
    generalize hx : l[k] = x at *
    by_cases h0 : x = 0
    · rw [if_neg (by simpa using h0)] at hI
      simp -implicitDefEqProofs [h6, h7, h8, h3, intsD, hlt, hlt', hx, h0]
      repeat refine And.intro (by omega) ?_
      exact again hlt ⟨by simp [h6, intsD], by simp [h7], by simp, by simp [h3], hI⟩
    · rw [if_pos h0] at hI
      rw [hI] at hx h0
      simp -implicitDefEqProofs [h6, h7, h8, h3, intsD, hlt, hlt', hx, h0]
  · have hlt' : ¬ (k : Int) < l.length := by omega
    rw [List.drop_eq_nil_of_le (by omega), orI] at hI
    subst hI
    simp -implicitDefEqProofs [h6, h7, h8, h3, hlt']
theorem cvalid_fn (c : Csn) : Ctr Tryz.prog 36 [.d (csnD c)] (.d (.bool (validC c))) := by
  refine fn_of_vwp (fun _ => false) (by kernel_rfl) Tryz.func36 (by kernel_rfl) rfl rfl (Nat.le_of_ble_eq_true rfl) (by kernel_rfl) rfl rfl ?_
  obtain ⟨t, s, r⟩ := c
  unfold validC
  by_cases h1 : 0 ≤ t <;> by_cases h2 : t ≤ 1099511627776 <;> by_cases h3 : 0 ≤ s <;> by_cases h4 : s ≤ 4294967295 <;> by_cases h5 : 0 ≤ r <;> by_cases h6 : r < 8 <;> simp -implicitDefEqProofs [csnD, h1, h2, h3, h4, h5, h6]
theorem cmpC_or (a b : Csn) : orI [ordI a.1 b.1, ordI a.2.1 b.2.1, ordI a.2.2 b.2.2] = cmpC a b := by
  simp only [orI, cmpC, ne_eq, ordI_zero]
  by_cases h3 : a.2.2 = b.2.2
  · have := ordI_zero.2 h3
    simp [h3]
    split <;> (try split) <;> first | rfl | (rw [h3] at this; exact this.symm)
  · simp [h3]
theorem ccmp_fn (a b : Csn) : Ctr Tryz.prog 67 [.d (csnD a), .d (csnD b)] (.d (.int .i64 (cmpC a b))) := by
  refine fn_of_vwp (fun _ => false) (by kernel_rfl) Tryz.func67 (by kernel_rfl) rfl rfl (Nat.le_of_ble_eq_true rfl) (by kernel_rfl) rfl rfl ?_
  have hor := cmpC_or a b
  have hz := cmpC_zero (a := a) (b := b)
  obtain ⟨a1, a2, a3⟩ := a
  obtain ⟨b1, b2, b3⟩ := b
  have c1 := cmpI_fn a1 b1
  have c2 := cmpI_fn a2 b2
  have c3 := cmpI_fn a3 b3
  have c4 := cmpOr_fn [ordI a1 b1, ordI a2 b2, ordI a3 b3] (by simp)
  simp only at hor
  rw [hor] at c4
  simp only [intsD, List.map_cons, List.map_nil] at c4
  by_cases h : ((a1, a2, a3) : Csn) = (b1, b2, b3)
  · have h0 := hz.2 h
    rw [h0]
    simp only [Prod.mk.injEq] at h
    simp -implicitDefEqProofs [csnD, leafEq, h]
    try decide
  · generalize cmpC (a1, a2, a3) (b1, b2, b3) = R at *
    have hne : (decide (a1 = b1) && (decide (a2 = b2) && decide (a3 = b3))) = false := by
      simp only [Prod.mk.injEq] at h
      simp only [Bool.and_eq_false_iff, decide_eq_false_iff_not]
      omega
    simp -implicitDefEqProofs [csnD, leafEq, hne]
    refine callP c1 ?_
    simp -implicitDefEqProofs
    refine callP c2 ?_
    simp -implicitDefEqProofs
    refine callP c3 ?_
    simp -implicitDefEqProofs
    refine ⟨by decide, callP c4 ?_⟩
    simp -implicitDefEqProofs
end Go.Proofs.Tz

/- Change sequence numbers: hexadecimal digits (both). -/
set_option maxRecDepth 100000
set_option maxHeartbeats 4000000
set_option linter.unusedVariables false
set_option linter.unusedSimpArgs false
namespace Go.Proofs.Tz
open Go.Vw Go.RowKit Go.Proofs

theorem hexS_cons : ∀ (k n : Nat), hexS n (k + 1) = hexD (n / 16 ^ k % 16) :: hexS n k
  | 0, n => by simp [hexS]
  | k + 1, n => by
    rw [hexS, hexS_cons k (n / 16), hexS]
    simp [Nat.div_div_eq_div_mul, Nat.pow_succ, Nat.mul_comm]
def hexRow (n w k : Nat) : List D := List.replicate (w - k) (.int .u8 0) ++ bytesD (hexS n k)
theorem hexRow_set {n w k : Nat} (h : k < w) : (hexRow n w k).set (w - 1 - k) (.int .u8 (hexD (n / 16 ^ k % 16)).toNat) = hexRow n w (k + 1) := by
  unfold hexRow
  obtain ⟨m, hm⟩ : ∃ m, w - k = m + 1 := ⟨w - k - 1, by omega⟩
  have e1 : w - 1 - k = m := by omega
  have e2 : w - (k + 1) = m := by omega
  rw [hm, e1, e2, hexS_cons, List.replicate_succ', List.append_assoc]
  rw [List.set_append_right _ _ (by simp)]
  simp [bytesD]
theorem hexRow_len {n w k : Nat} (h : k ≤ w) : (hexRow n w k).length = w := by
  simp [hexRow, bytesD, hexS_len]; omega
theorem hexRow_get {n w k : Nat} (h : k < w) : (hexRow n w k)[w - 1 - k]? = some (.int .u8 0) := by
  unfold hexRow
  rw [List.getElem?_append_left (by simp; omega), List.getElem?_replicate, if_pos (by omega)]
theorem low_at (x : Nat) : hexLow[x % 16]? = some (hexD (x % 16)) := by
  have hlt : x % 16 < 16 := Nat.mod_lt _ (by decide)
  unfold hexD
  rw [List.getD_eq_getElem?_getD, List.getElem?_eq_getElem (by simpa using hlt)]
  rfl
theorem hex_fn (n w : Nat) (hw : w ≤ 15) (hn : n < 4611686018427387904) : Ctr Tryz.prog 94 [.d (.int .i64 n), .d (.int .i64 w)] (.d (.str (hexS n w))) := by
  refine fn_of_vwp (fun i => i == 8 || i == 5) (by kernel_rfl) Tryz.func94 (by kernel_rfl) rfl rfl (Nat.le_of_ble_eq_true rfl) (by kernel_rfl) rfl rfl ?_
  simp -implicitDefEqProofs
  repeat refine And.intro (by omega) ?_
  refine loopN w (fun k τ => τ 0 = .d (.int .i64 n) ∧ τ 1 = .d (.int .i64 w) ∧ τ 10 = .d (.int .i64 w) ∧ τ 11 = .d (.int .i64 k) ∧ τ 5 = .own true 5 (hexRow n w k)) ⟨by simp, by simp, by simp, by simp, by simp [hexRow, hexS, bytesD]⟩ ?_
  rintro k τ hk ⟨h0, h1, h10, h11, h5⟩
  have hlen := hexRow_len (n := n) hk
  by_cases hlt : k < w
  · have hlt' : (k : Int) < w := by omega
    have hset := hexRow_set (n := n) hlt
    have hg0 := hexRow_get (n := n) hlt
    have hsh : (n : Int) / 2 ^ (4 * (k : Int)).toNat = ((n / 16 ^ k : Nat) : Int) := by
      rw [show (4 * (k : Int)).toNat = 4 * k by omega, Nat.pow_mul 2 4 k |> fun e => show (2 : Int) ^ (4 * k) = ((16 ^ k : Nat) : Int) by rw [show (16 : Nat) ^ k = 2 ^ (4 * k) by rw [e]]; simp]
      simp
    have hle : n / 16 ^ k ≤ n := Nat.div_le_self _ _
    have hand : (n / 16 ^ k) &&& 15 = n / 16 ^ k % 16 := Nat.and_two_pow_sub_one_eq_mod _ 4
    have hget := low_at (n / 16 ^ k)
    have hix : ((w : Int) - 1 - k).toNat = w - 1 - k := by omega
    generalize n / 16 ^ k = X at *
    simp only [hexLow] at hget
    have hmod : ((X : Int) % 16).toNat = X % 16 := by omega
    simp -implicitDefEqProofs [h0, h1, h10, h11, h5, hlt, hlt', hsh, hand, hmod, hget]
    repeat refine And.intro (by omega) ?_
    simp -implicitDefEqProofs [h0, h1, h10, h11, h5, hlt, hlt', hlen, hix, hset, hmod, hget, hg0]
    repeat refine And.intro (by omega) ?_
    exact again hlt ⟨by simp [h0], by simp [h1], by simp [h10], by simp, by simp [hset]⟩
  · have hlt' : ¬ (k : Int) < w := by omega
    obtain rfl : k = w := by omega
    have hrow : hexRow n k k = bytesD (hexS n k) := by simp [hexRow]
    rw [hrow] at h5
    simp -implicitDefEqProofs [h0, h1, h10, h11, h5]
end Go.Proofs.Tz

/- Change sequence numbers: number, Format, Parse (both). -/
set_option maxRecDepth 100000
set_option maxHeartbeats 4000000
set_option linter.unusedVariables false
set_option linter.unusedSimpArgs false
namespace Go.Proofs.Tz
open Go.Vw Go.RowKit Go.Proofs

theorem numGo_neg {n : Int} {a b : Str} (hn : 0 ≤ n) (h : numGo n a < 0) : numGo n (a ++ b) = -1 := by rw [numGo_app n hn, if_pos h]
def numT (s : Str) (k : Nat) : Int := numGo 0 (s.take k)
theorem numT_succ {s : Str} {k : Nat} (hk : k < s.length) (h0 : 0 ≤ numT s k) : numT s (k + 1) = if ixB hexLow s[k] < 0 then -1 else numT s k * 16 + ixB hexLow s[k] := by
  unfold numT at *
  rw [List.take_add_one, List.getElem?_eq_getElem hk, Option.toList_some, numGo_app 0 (Int.le_refl _), if_neg (by omega)]
  simp only [numGo]
theorem numT_bad {s : Str} {k : Nat} (hk : k < s.length) (h0 : 0 ≤ numT s k) (h : ixB hexLow s[k] < 0) : numH s = -1 := by
  have e : s = s.take (k + 1) ++ s.drop (k + 1) := (List.take_append_drop _ _).symm
  have h1 := numT_succ hk h0
  rw [if_pos h] at h1
  unfold numT at h1
  unfold numH
  rw [e]
  exact numGo_neg (Int.le_refl _) (by omega)
theorem numT_lt {s : Str} {k : Nat} (hs : s.length ≤ 12) : numT s k < 281474976710656 := by
  have h1 := numGo_lt (s.take k) 0 (Int.le_refl _)
  have h2 : (s.take k).length ≤ 12 := by simp; omega
  have h3 : (16 : Int) ^ (s.take k).length ≤ 16 ^ 12 := by
    have : (16 : Nat) ^ (s.take k).length ≤ 16 ^ 12 := Nat.pow_le_pow_right (by decide) h2
    exact_mod_cast this
  have h4 : (16 : Int) ^ 12 = 281474976710656 := by decide
  unfold numT
  omega
theorem or16 {n d : Nat} (hd : d < 16) : n * 16 ||| d = n * 16 + d := by
  have := Nat.two_pow_add_eq_or_of_lt (i := 4) (b := d) (by simpa using hd) n
  have e : (2 : Nat) ^ 4 * n = n * 16 := by omega
  rw [e] at this
  exact this.symm
theorem number_fn (s : Str) (hs : s.length ≤ 12) : Ctr Tryz.prog 101 [.d (.str s)] (.d (.int .i64 (numH s))) := by
  refine fn_of_vwp (fun _ => false) (by kernel_rfl) Tryz.func101 (by kernel_rfl) rfl rfl (Nat.le_of_ble_eq_true rfl) (by kernel_rfl) rfl rfl ?_
  obtain ⟨R, hR⟩ : ∃ R, numH s = R := ⟨_, rfl⟩
  rw [hR]
  simp -implicitDefEqProofs
  repeat refine And.intro (by omega) ?_
  refine loopN s.length (fun k τ => τ 0 = .d (.str s) ∧ τ 7 = .d (.int .i64 s.length) ∧ τ 8 = .d (.int .i64 k) ∧ τ 3 = .d (.int .i64 (numT s k)) ∧ 0 ≤ numT s k) ⟨by simp, by simp, by simp, by simp [numT, numGo], by simp [numT, numGo]⟩ ?_
  rintro k τ hk ⟨h0, h7, h8, h3, hI⟩
  by_cases hlt : k < s.length
  · have hlt' : (k : Int) < s.length := by omega
    have hb := numT_bad hlt hI
    have hs1 := numT_succ hlt hI
    have hlt9 := numT_lt (k := k) hs
    have c1 := indexByte_fn hexLow s[k]
    have hix : ¬ ixB hexLow s[k] < 0 → (ixB hexLow s[k]).toNat < 16 := fun h => (hexD_ix h).2
    generalize hN : numT s k = N at *
    generalize hc : s[k] = c at *
    generalize hX : ixB hexLow c = X at *
    simp only [hexLow] at c1
    by_cases hn : X < 0
    · rw [hb hn] at hR
      subst hR
      simp -implicitDefEqProofs [h0, h7, h8, h3, hlt, hlt', hc]
      repeat refine And.intro (by omega) ?_
      refine callK c1 ?_
      simp -implicitDefEqProofs [hn]
    · have hx16 := hix hn
      rw [if_neg hn] at hs1
      have hor : ((N * 16).toNat ||| X.toNat) = (N * 16 + X).toNat := by
        have := or16 (n := N.toNat) hx16
        rw [show (N * 16).toNat = N.toNat * 16 by omega, this]
        omega
      have hor' : (((N * 16 + X).toNat : Nat) : Int) = N * 16 + X := by omega
      simp -implicitDefEqProofs [h0, h7, h8, h3, hlt, hlt', hc]
      repeat refine And.intro (by omega) ?_
      refine callK c1 ?_
      simp -implicitDefEqProofs [hn, h0, h7, h8, h3]
      repeat refine And.intro (by omega) ?_
      refine again hlt ⟨by simp [h0], by simp [h7], by simp, ?_, ?_⟩
      · simp [hs1, hor, hor']; try omega
      · omega
  · have hlt' : ¬ (k : Int) < s.length := by omega
    have he : numT s k = R := by
      rw [← hR]; unfold numT numH; rw [List.take_of_length_le (by omega)]
    rw [he] at h3
    simp -implicitDefEqProofs [h0, h7, h8, h3, hlt, hlt']
end Go.Proofs.Tz

/- Change sequence numbers: number of the reference; Format and Parse (both). -/
set_option maxRecDepth 100000
set_option maxHeartbeats 4000000
set_option linter.unusedVariables false
set_option linter.unusedSimpArgs false
namespace Go.Proofs.Tz
open Go.Vw Go.RowKit Go.Proofs

def dT (c : UInt8) (k : Nat) : Int := if 0 ≤ ixB hexLow c ∧ ixB hexLow c < k then ixB hexLow c else -1
theorem format_fn (c : Csn) : Ctr Tryz.prog 41 [.d (csnD c)] (.d (.str (formatC c))) := by
  refine fn_of_vwp (fun _ => false) (by kernel_rfl) Tryz.func41 (by kernel_rfl) rfl rfl (Nat.le_of_ble_eq_true rfl) (by kernel_rfl) rfl rfl ?_
  have c0 := cvalid_fn c
  obtain ⟨t, s, r⟩ := c
  unfold formatC
  by_cases hv : validC (t, s, r) = true
  · have hv' := validC_iff.1 hv
    simp only at hv'
    rw [hv] at c0
    rw [if_pos hv]
    obtain ⟨t', rfl⟩ := Int.eq_ofNat_of_zero_le hv'.1
    obtain ⟨s', rfl⟩ := Int.eq_ofNat_of_zero_le hv'.2.2.1
    obtain ⟨r', rfl⟩ := Int.eq_ofNat_of_zero_le hv'.2.2.2.2.1
    have c1 := hex_fn t' 11 (by omega) (by omega)
    have c2 := hex_fn s' 8 (by omega) (by omega)
    have c3 := hex_fn r' 1 (by omega) (by omega)
    have l1 := hexS_len 11 t'
    have l2 := hexS_len 8 s'
    have l3 := hexS_len 1 r'
    simp only [Int.ofNat_eq_natCast, Int.toNat_natCast]
    generalize hexS t' 11 = A at *
    generalize hexS s' 8 = B at *
    generalize hexS r' 1 = C at *
    simp only [csnD] at c0
    simp -implicitDefEqProofs [csnD]
    refine callK c0 ?_
    simp -implicitDefEqProofs
    refine callP c1 ?_
    simp -implicitDefEqProofs
    repeat refine And.intro (by omega) ?_
    refine callP c2 ?_
    simp -implicitDefEqProofs
    repeat refine And.intro (by omega) ?_
    refine callP c3 ?_
    simp -implicitDefEqProofs
    repeat refine And.intro (by omega) ?_
    first | done | omega
  · have hv' : validC (t, s, r) = false := by simpa using hv
    rw [hv'] at c0
    rw [if_neg hv]
    simp only [csnD] at c0
    simp -implicitDefEqProofs [csnD]
    refine callK c0 ?_
    simp -implicitDefEqProofs
end Go.Proofs.Tz

/- Change sequence numbers: Parse (both). -/
set_option maxRecDepth 100000
set_option maxHeartbeats 4000000
set_option linter.unusedVariables false
set_option linter.unusedSimpArgs false
namespace Go.Proofs.Tz
open Go.Vw Go.RowKit Go.Proofs

theorem csnparse_fn (s : Str) (hs : List.length s < 1000000) : Ctr Tryz.prog 49 [.d (.str s)] (.tup [.d (csnD (parseC s).1), .d (.int .i64 (parseC s).2)]) := by
  refine fn_of_vwpN (rv := .cell 2 23) (rs := [.tmp 3]) (r := .d (csnD (parseC s).1)) (ys := [.d (.int .i64 (parseC s).2)]) (fun i => i == 9000003) (by kernel_rfl) Tryz.func49 (by kernel_rfl) rfl rfl (by simp) (Nat.le_of_ble_eq_true rfl) (by kernel_rfl) rfl rfl ?_
  obtain ⟨R, hR⟩ : ∃ R, parseC s = R := ⟨_, rfl⟩
  rw [hR]
  unfold parseC at hR
  by_cases hl : s.length = 22
  case neg =>
    have hl' : ¬ (s.length : Int) = 22 := by omega
    rw [if_pos (.inl hl)] at hR
    subst hR
    simp -implicitDefEqProofs [hl', csnD]
  have g11 := List.getElem?_eq_getElem (show 11 < s.length by omega)
  have g20 := List.getElem?_eq_getElem (show 20 < s.length by omega)
  generalize hx11 : s[11]'(by omega) = x11 at *
  generalize hx20 : s[20]'(by omega) = x20 at *
  by_cases h1 : x11 = 45
  case neg =>
    have h1' : ¬ (x11.toNat : Int) = 45 := fun e => h1 (UInt8.toNat_inj.1 (show x11.toNat = (45 : UInt8).toNat by simp; omega))
    rw [if_pos (.inr (.inl (by rw [g11]; simpa using h1)))] at hR
    subst hR
    simp -implicitDefEqProofs [hl, hx11, h1', csnD]
  by_cases h2 : x20 = 45
  case neg =>
    have h2' : ¬ (x20.toNat : Int) = 45 := fun e => h2 (UInt8.toNat_inj.1 (show x20.toNat = (45 : UInt8).toNat by simp; omega))
    rw [if_pos (.inr (.inr (by rw [g20]; simpa using h2)))] at hR
    subst hR
    simp -implicitDefEqProofs [hl, hx11, hx20, h1, h2', csnD]
  subst h1 h2
  rw [if_neg (by rw [g11, g20]; simp [hl])] at hR
  have c1 := number_fn (s.take 11) (by simp; omega)
  have c2 := number_fn ((s.take 20).drop 12) (by simp; omega)
  have c3 := number_fn (s.drop 21) (by simp; omega)
  have c4 := cvalid_fn (rawC s)
  obtain ⟨a, ha⟩ : ∃ a, rawC s = a := ⟨_, rfl⟩
  have ha' := ha
  unfold rawC at ha'
  rw [ha] at hR c4
  obtain ⟨p, q, r⟩ := a
  simp only [Prod.mk.injEq] at ha'
  obtain ⟨e1, e2, e3⟩ := ha'
  rw [e1] at c1
  rw [e2] at c2
  rw [e3] at c3
  rw [List.drop_take] at c2
  rw [show s.drop 21 = (s.drop 21).take 1 from (List.take_of_length_le (by simp; omega)).symm] at c3
  simp only at hR
  simp only [csnD] at c4
  by_cases hp : p < 0
  · rw [if_pos (.inl hp)] at hR
    subst hR
    simp -implicitDefEqProofs [hl, hx11, hx20, csnD]
    refine callP c1 ?_
    simp -implicitDefEqProofs [hl]
    refine callP c2 ?_
    simp -implicitDefEqProofs [hl]
    refine callP c3 ?_
    simp -implicitDefEqProofs [hp]
  by_cases hq : q < 0
  · rw [if_pos (.inr (.inl hq))] at hR
    subst hR
    simp -implicitDefEqProofs [hl, hx11, hx20, csnD]
    refine callP c1 ?_
    simp -implicitDefEqProofs [hl]
    refine callP c2 ?_
    simp -implicitDefEqProofs [hl]
    refine callP c3 ?_
    simp -implicitDefEqProofs [hp, hq]
  by_cases hr : r < 0
  · rw [if_pos (.inr (.inr hr))] at hR
    subst hR
    simp -implicitDefEqProofs [hl, hx11, hx20, csnD]
    refine callP c1 ?_
    simp -implicitDefEqProofs [hl]
    refine callP c2 ?_
    simp -implicitDefEqProofs [hl]
    refine callP c3 ?_
    simp -implicitDefEqProofs [hp, hq, hr]
  rw [if_neg (by omega)] at hR
  by_cases hv : validC (p, q, r) = true
  · rw [if_neg (by rw [hv]; simp)] at hR
    subst hR
    rw [hv] at c4
    simp -implicitDefEqProofs [hl, hx11, hx20, csnD]
    refine callP c1 ?_
    simp -implicitDefEqProofs [hl]
    refine callP c2 ?_
    simp -implicitDefEqProofs [hl]
    refine callP c3 ?_
    simp -implicitDefEqProofs [hp, hq, hr]
    refine callK c4 ?_
    simp -implicitDefEqProofs
  · have hv' : validC (p, q, r) = false := by simpa using hv
    rw [if_pos hv'] at hR
    subst hR
    rw [hv'] at c4
    simp -implicitDefEqProofs [hl, hx11, hx20, csnD]
    refine callP c1 ?_
    simp -implicitDefEqProofs [hl]
    refine callP c2 ?_
    simp -implicitDefEqProofs [hl]
    refine callP c3 ?_
    simp -implicitDefEqProofs [hp, hq, hr]
    refine callK c4 ?_
    simp -implicitDefEqProofs
end Go.Proofs.Tz

namespace Go.Proofs.Tz
open Go.Vw
set_option maxRecDepth 100000
set_option maxHeartbeats 4000000
set_option linter.unusedSimpArgs false

theorem same_fn (l m : List Str) (hl : l.length < 1000000) (hm : m.length < 1000000) : Ctr Tryz.prog 90 [.d (strs l), .d (strs m)] (.d (.bool (decide (l = m)))) := by
  refine fn_of_vwp (fun _ => false) (by kernel_rfl) Tryz.func90 (by kernel_rfl) rfl rfl (Nat.le_of_ble_eq_true rfl) (by kernel_rfl) rfl rfl ?_
  by_cases hlm : l.length = m.length
  · simp -implicitDefEqProofs [strs, hlm]
    refine loopN m.length (fun k τ => τ 0 = .d (strs l) ∧ τ 1 = .d (strs m) ∧ τ 5 = .d (.int .i64 k) ∧ l.take k = m.take k) (by simp [strs]) ?_
    rintro k τ hk ⟨h0, h1, h5, ht⟩
    by_cases hlt : k < m.length
    · have hlt' : k < l.length := by omega
      by_cases he : l[k] = m[k]
      · simp -implicitDefEqProofs [h0, h1, h5, strs, hlm, hlt, hlt', he]
        refine ⟨by omega, again hlt ⟨by simp [h0, strs], by simp [h1, strs], by simp, ?_⟩⟩
        rw [take_s hlt, take_s hlt', ht, he]
      · simp -implicitDefEqProofs [h0, h1, h5, strs, hlm, hlt, hlt', he]
        rintro rfl
        exact he rfl
    · simp -implicitDefEqProofs [h0, h1, h5, strs, hlm, hlt]
      rw [List.take_of_length_le (by omega), List.take_of_length_le (by omega)] at ht
      first | exact ⟨by omega, ht⟩ | exact ht
  · have hlm' : ¬ (l.length : Int) = m.length := by omega
    simp -implicitDefEqProofs [strs, hlm']
    rintro rfl
    exact hlm rfl
end Go.Proofs.Tz

namespace Go.Proofs.Tz
open Go.Vw
set_option maxRecDepth 100000
set_option maxHeartbeats 4000000
set_option linter.unusedSimpArgs false

/-- One step of Insert. -/
def insS (s : Str) (r : Bool × List Str) (x : Str) : Bool × List Str :=
  (r.1 || !Op.bytesLess x s, r.2 ++ (if r.1 = false ∧ Op.bytesLess x s = false then [s] else []) ++ (if x = s then [] else [x]))
def insF (s : Str) (l : List Str) : Bool × List Str := l.foldl (insS s) (false, [])
def ins (l : List Str) (s : Str) : List Str := (insF s l).2 ++ (if (insF s l).1 then [] else [s])

end Go.Proofs.Tz

namespace Go.Proofs.Tz
open Go.Vw
set_option maxRecDepth 100000
set_option maxHeartbeats 4000000
set_option linter.unusedSimpArgs false

abbrev Att := Str × List Str
def att (a : Att) : D := .agg [.str a.1, strs a.2]
def atts (l : List Att) : D := .sl (l.map att)

/-- Every string of a list is short enough for the walk. -/
def Fits (l : List Att) : Prop := l.length < 1000000 ∧ ∀ a ∈ l, List.length a.1 < 1000000 ∧ a.2.length < 1000000

theorem sameA_fn (l m : List Att) (hl : Fits l) (hm : Fits m) : Ctr Tryz.prog 35 [.d (atts l), .d (atts m)] (.d (.bool (decide (l = m)))) := by
  refine fn_of_vwp (fun _ => false) (by kernel_rfl) Tryz.func35 (by kernel_rfl) rfl rfl (Nat.le_of_ble_eq_true rfl) (by kernel_rfl) rfl rfl ?_
  have hl1 := hl.1
  have hm1 := hm.1
  by_cases hlm : l.length = m.length
  · simp -implicitDefEqProofs [atts, hlm]
    refine loopN m.length (fun k τ => τ 0 = .d (atts l) ∧ τ 1 = .d (atts m) ∧ τ 5 = .d (.int .i64 k) ∧ l.take k = m.take k) (by simp [atts]) ?_
    rintro k τ hk ⟨h0, h1, h5, ht⟩
    by_cases hlt : k < m.length
    · have hlt' : k < l.length := by omega
      by_cases he : l[k].1 = m[k].1
      · simp -implicitDefEqProofs [h0, h1, h5, atts, att, strs, hlm, hlt, hlt', he]
        refine callP (same_fn _ _ (hl.2 _ (List.getElem_mem hlt')).2 (hm.2 _ (List.getElem_mem hlt)).2) ?_
        by_cases he2 : l[k].2 = m[k].2
        · simp -implicitDefEqProofs [h0, h1, h5, atts, att, strs, hlm, hlt, hlt', he, he2]
          refine ⟨by omega, again hlt ⟨by simp [h0, atts, att, strs], by simp [h1, atts, att, strs], by simp, ?_⟩⟩
          rw [take_s hlt, take_s hlt', ht, Prod.ext he he2]
        · simp -implicitDefEqProofs [h0, h1, h5, atts, att, strs, hlm, hlt, hlt', he, he2]
          rintro rfl
          exact he2 rfl
      · simp -implicitDefEqProofs [h0, h1, h5, atts, att, strs, hlm, hlt, hlt', he]
        rintro rfl
        exact he rfl
    · simp -implicitDefEqProofs [h0, h1, h5, atts, hlm, hlt]
      rw [List.take_of_length_le (by omega), List.take_of_length_le (by omega)] at ht
      first | exact ⟨by omega, ht⟩ | exact ht
  · have hlm' : ¬ (l.length : Int) = m.length := by omega
    simp -implicitDefEqProofs [atts, hlm']
    rintro rfl
    exact hlm rfl

end Go.Proofs.Tz

namespace Go.Proofs.Tz
open Go.Vw
set_option maxRecDepth 100000
set_option maxHeartbeats 4000000
set_option linter.unusedSimpArgs false

theorem insF_len2 (s : Str) : ∀ (l : List Str) (r : Bool × List Str) (c : Nat), r.2.length ≤ c + r.1.toNat → (l.foldl (insS s) r).2.length ≤ c + l.length + (l.foldl (insS s) r).1.toNat
  | [], _, _, h => h
  | x :: l, (d, out), c, h => by
    have h2 : (insS s (d, out) x).2.length ≤ (c + 1) + (insS s (d, out) x).1.toNat := by
      simp only at h
      cases d <;> by_cases hb : Op.bytesLess x s = true <;> by_cases he : x = s <;> simp [insS, hb, he] at h ⊢ <;> first
        | omega
        | (split <;> simp <;> omega)
    have := insF_len2 s l (insS s (d, out) x) (c + 1) h2
    simp only [List.foldl_cons, List.length_cons]; omega
theorem ins_len (l : List Str) (s : Str) : (ins l s).length ≤ l.length + 1 := by
  have : (insF s l).2.length ≤ 0 + l.length + (insF s l).1.toNat := insF_len2 s l (false, []) 0 (by simp)
  simp only [ins, List.length_append]
  cases h : (insF s l).1 <;> simp [h] at this ⊢ <;> omega

def namesS (ns : List Str) (a : Att) : List Str := if a.2 = [] then ns else ins ns (lower a.1)
def namesF (l : List Att) : List Str := l.foldl namesS []
def valsS (n : Str) (vs : List Str) (a : Att) : List Str := if lower a.1 = n then a.2.foldl ins vs else vs
def valsF (l : List Att) (n : Str) : List Str := l.foldl (valsS n) []
def sortedL (l : List Att) : List Att := (namesF l).map fun n => (n, valsF l n)

theorem names_len : ∀ (l : List Att) (ns : List Str), (l.foldl namesS ns).length ≤ ns.length + l.length
  | [], ns => by simp
  | a :: l, ns => by
    have := names_len l (namesS ns a)
    have h2 : (namesS ns a).length ≤ ns.length + 1 := by
      unfold namesS; split
      · omega
      · exact ins_len _ _
    simp only [List.foldl_cons, List.length_cons]; omega
theorem insAll_len : ∀ (l ns : List Str), (l.foldl ins ns).length ≤ ns.length + l.length
  | [], ns => by simp
  | a :: l, ns => by
    have := insAll_len l (ins ns a)
    have := ins_len ns a
    simp only [List.foldl_cons, List.length_cons]; omega
def total (l : List Att) : Nat := (l.map (·.2.length)).sum
theorem vals_len (n : Str) : ∀ (l : List Att) (vs : List Str), (l.foldl (valsS n) vs).length ≤ vs.length + total l
  | [], vs => by simp [total]
  | a :: l, vs => by
    have := vals_len n l (valsS n vs a)
    have h2 : (valsS n vs a).length ≤ vs.length + a.2.length := by
      unfold valsS; split
      · exact insAll_len _ _
      · omega
    simp only [List.foldl_cons, total, List.map_cons, List.sum_cons] at this ⊢
    all_goals omega
def Fit2 (l : List Att) : Prop := Fits l ∧ total l < 500000
theorem total_take (l : List Att) (k : Nat) (h : k < l.length) : total (l.take k) + l[k].2.length ≤ total l := by
  have e : total l = total (l.take k) + (l[k].2.length + total (l.drop (k + 1))) := by
    conv => lhs; rw [← List.take_append_drop k l, List.drop_eq_getElem_cons h]
    simp only [total, List.map_append, List.map_cons, List.sum_append, List.sum_cons]
  all_goals omega

end Go.Proofs.Tz

namespace Go.Proofs.Tz
open Go.Vw
set_option maxRecDepth 100000
set_option maxHeartbeats 4000000
set_option linter.unusedSimpArgs false

theorem upper_fn (c : UInt8) : Ctr Tryz.prog 110 [.d (u8 c)] (.d (.bool (decide (65 ≤ (c.toNat : Int)) && decide ((c.toNat : Int) ≤ 90)))) := by
  refine fn_of_vwp (fun _ => false) (by kernel_rfl) Tryz.func110 (by kernel_rfl) rfl rfl (Nat.le_of_ble_eq_true rfl) (by kernel_rfl) rfl rfl ?_
  by_cases h1 : 65 ≤ (c.toNat : Int) <;> simp [u8, h1]
theorem fletter_fn (c : UInt8) : Ctr Tryz.prog 108 [.d (u8 c)] (.d (.bool (isLetter c))) := by
  refine fn_of_vwp (fun _ => false) (by kernel_rfl) Tryz.func108 (by kernel_rfl) rfl rfl (Nat.le_of_ble_eq_true rfl) (by kernel_rfl) rfl rfl ?_
  simp -implicitDefEqProofs
  refine callK (upper_fn c) ?_
  by_cases h1 : 97 ≤ (c.toNat : Int) <;> by_cases h2 : (c.toNat : Int) ≤ 122 <;> by_cases h3 : 65 ≤ (c.toNat : Int) <;> by_cases h4 : (c.toNat : Int) ≤ 90 <;> simp -implicitDefEqProofs [u8, isLetter, h1, h2, h3, h4]
theorem fdigit_fn (c : UInt8) : Ctr Tryz.prog 109 [.d (u8 c)] (.d (.bool (isDigit c))) := by
  refine fn_of_vwp (fun _ => false) (by kernel_rfl) Tryz.func109 (by kernel_rfl) rfl rfl (Nat.le_of_ble_eq_true rfl) (by kernel_rfl) rfl rfl ?_
  by_cases h1 : 48 ≤ (c.toNat : Int) <;> simp [u8, isDigit, h1]
theorem allowed_fn (c : UInt8) : Ctr Tryz.prog 107 [.d (u8 c)] (.d (.bool (nameC c))) := by
  refine fn_of_vwp (fun _ => false) (by kernel_rfl) Tryz.func107 (by kernel_rfl) rfl rfl (Nat.le_of_ble_eq_true rfl) (by kernel_rfl) rfl rfl ?_
  simp -implicitDefEqProofs [u8]
  refine callK (fletter_fn c) ?_
  by_cases h1 : isLetter c = true
  · simp -implicitDefEqProofs [h1, nameC]
  · simp -implicitDefEqProofs [h1]
    refine callK (fdigit_fn c) ?_
    by_cases h2 : isDigit c = true <;> by_cases h3 : (c.toNat : Int) = 45 <;> simp [h1, h2, h3, nameC]
end Go.Proofs.Tz

namespace Go.Proofs.Tz
open Go.Vw
set_option maxRecDepth 100000
set_option maxHeartbeats 4000000
set_option linter.unusedSimpArgs false

def findA (n : Str) : List Att → List Str
  | [] => []
  | a :: l => if a.1 = n then a.2 else findA n l
def getL (l : List Att) (name : Str) : List Str := findA (lower name) (sortedL l)
theorem sorted_len (l : List Att) : (sortedL l).length ≤ l.length := by
  have := names_len l []
  simp only [List.length_nil, Nat.zero_add] at this
  simpa [sortedL, namesF] using this
theorem sorted_vals (l : List Att) : ∀ a ∈ sortedL l, a.2.length ≤ total l := by
  intro a ha
  simp only [sortedL, List.mem_map] at ha
  obtain ⟨n, _, rfl⟩ := ha
  simpa [valsF] using vals_len n l []
theorem findA_len (n : Str) (c : Nat) : ∀ (l : List Att), (∀ a ∈ l, a.2.length ≤ c) → (findA n l).length ≤ c
  | [], _ => by simp [findA]
  | a :: l, h => by
    rw [findA]
    split
    · exact h a (by simp)
    · exact findA_len n c l fun b hb => h b (by simp [hb])
theorem getL_len (l : List Att) (n : Str) : (getL l n).length ≤ total l := findA_len _ _ _ (sorted_vals l)

theorem made_fn (s : Str) (hs : List.length s < 1000000) : Ctr Tryz.prog 106 [.d (.str s), .d (.clo 107 [])] (.d (.bool (s.all nameC && decide (s ≠ []) && decide (s.length ≤ 64)))) := by
  refine fn_of_vwp (fun _ => false) (by kernel_rfl) Tryz.func106 (by kernel_rfl) rfl rfl (Nat.le_of_ble_eq_true rfl) (by kernel_rfl) rfl rfl ?_
  simp -implicitDefEqProofs
  refine loopN (List.length s) (fun k τ => τ 0 = .d (.str s) ∧ τ 1 = .d (.clo 107 []) ∧ τ 7 = .d (.int .i64 (List.length s)) ∧ τ 8 = .d (.int .i64 k) ∧ ∀ x ∈ s.take k, nameC x = true) (by simp) ?_
  rintro k τ hk ⟨h0, h1, h7, h8, ha⟩
  by_cases hlt : k < List.length s
  · simp -implicitDefEqProofs [h0, h1, h7, h8, hlt]
    refine callK (allowed_fn s[k]) ?_
    by_cases e1 : nameC s[k] = true
    · simp -implicitDefEqProofs [h0, h1, h7, h8, hlt, e1]
      exact ⟨by omega, again hlt ⟨by simp [h0], by simp [h1], by simp [h7], by simp, all_take hlt ha e1⟩⟩
    · simp -implicitDefEqProofs [h0, h1, h7, h8, hlt, e1]
      intro h
      exact absurd (h _ (List.getElem_mem hlt)) e1
  · rw [List.take_of_length_le (by omega)] at ha
    have hall : List.all s nameC = true := by simpa using ha
    by_cases e2 : s = []
    · simp -implicitDefEqProofs [h0, h1, h7, h8, hlt, e2]
    · simp -implicitDefEqProofs [h0, h1, h7, h8, hlt, e2, hall]
      all_goals omega

theorem fname_fn (s : Str) (hs : List.length s < 1000000) : Ctr Tryz.prog 55 [.d (.str s)] (.d (.bool (nameB s))) := by
  refine fn_of_vwp (fun _ => false) (by kernel_rfl) Tryz.func55 (by kernel_rfl) rfl rfl (Nat.le_of_ble_eq_true rfl) (by kernel_rfl) rfl rfl ?_
  simp -implicitDefEqProofs
  refine callK (made_fn s hs) ?_
  by_cases e : (s.all nameC && decide (s ≠ []) && decide (s.length ≤ 64)) = true
  · have e0 := e
    simp only [Bool.and_eq_true, decide_eq_true_eq] at e
    obtain ⟨⟨e1, e2⟩, e3⟩ := e
    obtain ⟨c, t, rfl⟩ := List.exists_cons_of_ne_nil e2
    simp only [e0]
    simp -implicitDefEqProofs
    refine callK (fletter_fn c) ?_
    have e4 : (List.length (c :: t)) ≤ 64 := e3
    simp -implicitDefEqProofs [nameB, e1, e4]
    intro _
    simpa using e4
  · rw [Bool.not_eq_true] at e
    simp only [e]
    simp -implicitDefEqProofs [nameB]
    intro h1 h2 _
    have hne : s ≠ [] := by
      rintro rfl
      simp at h1
    simpa [hne, h2] using e
end Go.Proofs.Tz

namespace Go.Proofs.Tz
open Go.Vw
set_option maxRecDepth 100000
set_option maxHeartbeats 4000000
set_option linter.unusedSimpArgs false

end Go.Proofs.Tz

namespace Go.Proofs.Tz
open Go.Vw
set_option maxRecDepth 100000
set_option maxHeartbeats 4000000
set_option linter.unusedSimpArgs false

end Go.Proofs.Tz

namespace Go.Proofs.Tz
open Go.Vw
set_option maxRecDepth 100000
set_option maxHeartbeats 4000000
set_option linter.unusedSimpArgs false

def wantB (ns : List Str) (x : Str) : Bool := ns.any fun n => decide (lower n = x)
def wanted (ns : List Str) (a : Att) : Bool := decide (ns = []) || wantB ns a.1
end Go.Proofs.Tz

namespace Go.Proofs.Tz
open Go.Vw
set_option maxRecDepth 100000
set_option maxHeartbeats 4000000
set_option linter.unusedSimpArgs false

/-- The number of the first element that has p, or -1. -/
def idxG {α : Type} (p : α → Bool) : Nat → List α → Int
  | _, [] => -1
  | k, x :: l => if p x = true then k else idxG p (k + 1) l
theorem idxG_drop {α : Type} {p : α → Bool} {l : List α} {k : Nat} (h : k < l.length) : idxG p k (l.drop k) = if p l[k] = true then (k : Int) else idxG p (k + 1) (l.drop (k + 1)) := by
  rw [List.drop_eq_getElem_cons h, idxG]

theorem index_fn (l : List Str) (s : Str) (hl : l.length < 1000000) : Ctr Tryz.prog 48 [.d (strs l), .d (.str s)] (.d (.int .i64 (idxG (fun x => decide (s = x)) 0 l))) := by
  refine fn_of_vwp (fun _ => false) (by kernel_rfl) Tryz.func48 (by kernel_rfl) rfl rfl (Nat.le_of_ble_eq_true rfl) (by kernel_rfl) rfl rfl ?_
  simp -implicitDefEqProofs [strs]
  refine loopN l.length (fun k τ => τ 0 = .d (strs l) ∧ τ 1 = .d (.str s) ∧ τ 7 = .d (.int .i64 l.length) ∧ τ 8 = .d (.int .i64 k) ∧ idxG (fun x => decide (s = x)) 0 l = idxG (fun x => decide (s = x)) k (l.drop k)) (by simp [strs]) ?_
  rintro k τ hk ⟨h0, h1, h7, h8, hi⟩
  by_cases hlt : k < l.length
  · rw [idxG_drop hlt] at hi
    by_cases he : s = l[k]
    · simp -implicitDefEqProofs [h0, h1, h7, h8, strs, hlt, ← he]
      rw [hi]; simp [← he]
    · simp -implicitDefEqProofs [h0, h1, h7, h8, strs, hlt, he]
      refine ⟨by omega, again hlt ⟨by simp [h0, strs], by simp [h1], by simp [h7], by simp, ?_⟩⟩
      rw [hi]; simp [he]
  · simp -implicitDefEqProofs [h0, h1, h7, h8, strs, hlt]
    rw [hi, List.drop_eq_nil_of_le (by omega)]
    simp -implicitDefEqProofs [idxG]

end Go.Proofs.Tz

namespace Go.Proofs.Tz
open Go.Vw
set_option maxRecDepth 100000
set_option maxHeartbeats 4000000
set_option linter.unusedSimpArgs false

theorem idxG_ge {α : Type} (p : α → Bool) : ∀ (l : List α) (k : Nat), (0 ≤ idxG p k l) = (∃ x ∈ l, p x = true)
  | [], k => by simp [idxG]
  | x :: l, k => by
    rw [idxG]
    by_cases h : p x = true
    · simp -implicitDefEqProofs [h]
    · rw [if_neg h, idxG_ge p l (k + 1)]; simp [h]

theorem contains_fn (l : List Str) (s : Str) (hl : l.length < 1000000) : Ctr Tryz.prog 88 [.d (strs l), .d (.str s)] (.d (.bool (decide (s ∈ l)))) := by
  refine fn_of_vwp (fun _ => false) (by kernel_rfl) Tryz.func88 (by kernel_rfl) rfl rfl (Nat.le_of_ble_eq_true rfl) (by kernel_rfl) rfl rfl ?_
  simp -implicitDefEqProofs
  refine callK (index_fn l s hl) ?_
  simp -implicitDefEqProofs [idxG_ge]

end Go.Proofs.Tz
