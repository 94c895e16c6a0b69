/-
  What the functions of layers 1, 3 and 6 of the document compute: contracts, for lists and strings of bounded size (each theorem states its bound).
-/
import Derived.Test.YtfljbolhljafdaaGreatDoorWd
import Derived.Test.YtfljbolhljafdaaGreatDoorProg
import Derived.KernelRfl

set_option linter.unusedSimpArgs false
set_option linter.unusedVariables false

/- Facts on the types of this translation, as rewrite rules of the abstract walk. -/
namespace Go.Proofs
open Go.Vw
@[simp] theorem Tryz.sz_1 : szOf Tryz.prog 1 = some 1 := by kernel_rfl
@[simp] theorem Tryz.tk_1 : tyk Tryz.prog 1 = some (false, 1) := by kernel_rfl
@[simp] theorem Tryz.u_2 : Program.underlying Tryz.prog 2 = some (.int .i64) := by kernel_rfl
@[simp] theorem Tryz.se_2 : sliceE Tryz.prog 2 = none := by kernel_rfl
@[simp] theorem Tryz.ez_2 : esz Tryz.prog 2 = some (1, 8) := by kernel_rfl
@[simp] theorem Tryz.sz_2 : szOf Tryz.prog 2 = some 1 := by kernel_rfl
@[simp] theorem Tryz.tk_2 : tyk Tryz.prog 2 = some (false, 1) := by kernel_rfl
@[simp] theorem Tryz.zd_2 : zeroD Tryz.prog 2 = some (.int .i64 0) := by kernel_rfl
@[simp] theorem Tryz.u_3 : Program.underlying Tryz.prog 3 = some (.int .i64) := by kernel_rfl
@[simp] theorem Tryz.se_3 : sliceE Tryz.prog 3 = none := by kernel_rfl
@[simp] theorem Tryz.ez_3 : esz Tryz.prog 3 = some (1, 8) := by kernel_rfl
@[simp] theorem Tryz.sz_3 : szOf Tryz.prog 3 = some 1 := by kernel_rfl
@[simp] theorem Tryz.tk_3 : tyk Tryz.prog 3 = some (false, 1) := by kernel_rfl
@[simp] theorem Tryz.zd_3 : zeroD Tryz.prog 3 = some (.int .i64 0) := by kernel_rfl
@[simp] theorem Tryz.u_4 : Program.underlying Tryz.prog 4 = some .bool := by kernel_rfl
@[simp] theorem Tryz.se_4 : sliceE Tryz.prog 4 = none := by kernel_rfl
@[simp] theorem Tryz.ez_4 : esz Tryz.prog 4 = some (1, 1) := by kernel_rfl
@[simp] theorem Tryz.sz_4 : szOf Tryz.prog 4 = some 1 := by kernel_rfl
@[simp] theorem Tryz.tk_4 : tyk Tryz.prog 4 = some (false, 1) := by kernel_rfl
@[simp] theorem Tryz.zd_4 : zeroD Tryz.prog 4 = some (.bool false) := by kernel_rfl
@[simp] theorem Tryz.u_5 : Program.underlying Tryz.prog 5 = some (.int .u8) := by kernel_rfl
@[simp] theorem Tryz.se_5 : sliceE Tryz.prog 5 = none := by kernel_rfl
@[simp] theorem Tryz.ez_5 : esz Tryz.prog 5 = some (1, 1) := by kernel_rfl
@[simp] theorem Tryz.sz_5 : szOf Tryz.prog 5 = some 1 := by kernel_rfl
@[simp] theorem Tryz.tk_5 : tyk Tryz.prog 5 = some (false, 1) := by kernel_rfl
@[simp] theorem Tryz.zd_5 : zeroD Tryz.prog 5 = some (.int .u8 0) := by kernel_rfl
@[simp] theorem Tryz.u_9 : Program.underlying Tryz.prog 9 = some .string := by kernel_rfl
@[simp] theorem Tryz.se_9 : sliceE Tryz.prog 9 = none := by kernel_rfl
@[simp] theorem Tryz.ez_9 : esz Tryz.prog 9 = some (1, 16) := by kernel_rfl
@[simp] theorem Tryz.sz_9 : szOf Tryz.prog 9 = some 1 := by kernel_rfl
@[simp] theorem Tryz.tk_9 : tyk Tryz.prog 9 = some (false, 1) := by kernel_rfl
@[simp] theorem Tryz.zd_9 : zeroD Tryz.prog 9 = some (.str []) := by kernel_rfl
@[simp] theorem Tryz.u_12 : Program.underlying Tryz.prog 12 = some (.int .u64) := by kernel_rfl
@[simp] theorem Tryz.se_12 : sliceE Tryz.prog 12 = none := by kernel_rfl
@[simp] theorem Tryz.ez_12 : esz Tryz.prog 12 = some (1, 8) := by kernel_rfl
@[simp] theorem Tryz.sz_12 : szOf Tryz.prog 12 = some 1 := by kernel_rfl
@[simp] theorem Tryz.tk_12 : tyk Tryz.prog 12 = some (false, 1) := by kernel_rfl
@[simp] theorem Tryz.zd_12 : zeroD Tryz.prog 12 = some (.int .u64 0) := by kernel_rfl
@[simp] theorem Tryz.ez_13 : esz Tryz.prog 13 = some (2, 24) := by kernel_rfl
@[simp] theorem Tryz.sz_13 : szOf Tryz.prog 13 = some 2 := by kernel_rfl
@[simp] theorem Tryz.tk_13 : tyk Tryz.prog 13 = some (true, 2) := by kernel_rfl
@[simp] theorem Tryz.zd_13 : zeroD Tryz.prog 13 = some (.agg [.str [], .int .u64 0]) := by kernel_rfl
@[simp] theorem Tryz.sd_13 : structD Tryz.prog 13 = some [.str [], .int .u64 0] := by kernel_rfl
@[simp] theorem Tryz.fo_13_0 : fieldOff Tryz.prog 13 0 = some 0 := by kernel_rfl
@[simp] theorem Tryz.fo_13_1 : fieldOff Tryz.prog 13 1 = some 1 := by kernel_rfl
@[simp] theorem Tryz.u_21 : Program.underlying Tryz.prog 21 = some (.int .i32) := by kernel_rfl
@[simp] theorem Tryz.se_21 : sliceE Tryz.prog 21 = none := by kernel_rfl
@[simp] theorem Tryz.ez_21 : esz Tryz.prog 21 = some (1, 4) := by kernel_rfl
@[simp] theorem Tryz.sz_21 : szOf Tryz.prog 21 = some 1 := by kernel_rfl
@[simp] theorem Tryz.tk_21 : tyk Tryz.prog 21 = some (false, 1) := by kernel_rfl
@[simp] theorem Tryz.zd_21 : zeroD Tryz.prog 21 = some (.int .i32 0) := by kernel_rfl
@[simp] theorem Tryz.u_22 : Program.underlying Tryz.prog 22 = some (.slice 42) := by kernel_rfl
@[simp] theorem Tryz.se_22 : sliceE Tryz.prog 22 = some 42 := by kernel_rfl
@[simp] theorem Tryz.ez_22 : esz Tryz.prog 22 = some (1, 24) := by kernel_rfl
@[simp] theorem Tryz.sz_22 : szOf Tryz.prog 22 = some 1 := by kernel_rfl
@[simp] theorem Tryz.tk_22 : tyk Tryz.prog 22 = some (false, 1) := by kernel_rfl
@[simp] theorem Tryz.zd_22 : zeroD Tryz.prog 22 = some (.sl []) := by kernel_rfl
@[simp] theorem Tryz.sz_23 : szOf Tryz.prog 23 = some 1 := by kernel_rfl
@[simp] theorem Tryz.tk_23 : tyk Tryz.prog 23 = some (false, 1) := by kernel_rfl
@[simp] theorem Tryz.sz_24 : szOf Tryz.prog 24 = some 1 := by kernel_rfl
@[simp] theorem Tryz.tk_24 : tyk Tryz.prog 24 = some (false, 1) := by kernel_rfl
@[simp] theorem Tryz.u_25 : Program.underlying Tryz.prog 25 = some (.int .i64) := by kernel_rfl
@[simp] theorem Tryz.se_25 : sliceE Tryz.prog 25 = none := by kernel_rfl
@[simp] theorem Tryz.ez_25 : esz Tryz.prog 25 = some (1, 8) := by kernel_rfl
@[simp] theorem Tryz.sz_25 : szOf Tryz.prog 25 = some 1 := by kernel_rfl
@[simp] theorem Tryz.tk_25 : tyk Tryz.prog 25 = some (false, 1) := by kernel_rfl
@[simp] theorem Tryz.zd_25 : zeroD Tryz.prog 25 = some (.int .i64 0) := by kernel_rfl
@[simp] theorem Tryz.sz_26 : szOf Tryz.prog 26 = some 1 := by kernel_rfl
@[simp] theorem Tryz.tk_26 : tyk Tryz.prog 26 = some (false, 1) := by kernel_rfl
@[simp] theorem Tryz.sz_27 : szOf Tryz.prog 27 = some 1 := by kernel_rfl
@[simp] theorem Tryz.tk_27 : tyk Tryz.prog 27 = some (false, 1) := by kernel_rfl
@[simp] theorem Tryz.sz_28 : szOf Tryz.prog 28 = some 1 := by kernel_rfl
@[simp] theorem Tryz.tk_28 : tyk Tryz.prog 28 = some (false, 1) := by kernel_rfl
@[simp] theorem Tryz.u_29 : Program.underlying Tryz.prog 29 = some (.slice 9) := by kernel_rfl
@[simp] theorem Tryz.se_29 : sliceE Tryz.prog 29 = some 9 := by kernel_rfl
@[simp] theorem Tryz.ez_29 : esz Tryz.prog 29 = some (1, 24) := by kernel_rfl
@[simp] theorem Tryz.sz_29 : szOf Tryz.prog 29 = some 1 := by kernel_rfl
@[simp] theorem Tryz.tk_29 : tyk Tryz.prog 29 = some (false, 1) := by kernel_rfl
@[simp] theorem Tryz.zd_29 : zeroD Tryz.prog 29 = some (.sl []) := by kernel_rfl
@[simp] theorem Tryz.sz_30 : szOf Tryz.prog 30 = some 1 := by kernel_rfl
@[simp] theorem Tryz.tk_30 : tyk Tryz.prog 30 = some (false, 1) := by kernel_rfl
@[simp] theorem Tryz.sz_31 : szOf Tryz.prog 31 = some 1 := by kernel_rfl
@[simp] theorem Tryz.tk_31 : tyk Tryz.prog 31 = some (false, 1) := by kernel_rfl
@[simp] theorem Tryz.sz_32 : szOf Tryz.prog 32 = some 1 := by kernel_rfl
@[simp] theorem Tryz.tk_32 : tyk Tryz.prog 32 = some (false, 1) := by kernel_rfl
@[simp] theorem Tryz.sz_33 : szOf Tryz.prog 33 = some 1 := by kernel_rfl
@[simp] theorem Tryz.tk_33 : tyk Tryz.prog 33 = some (false, 1) := by kernel_rfl
@[simp] theorem Tryz.sz_34 : szOf Tryz.prog 34 = some 1 := by kernel_rfl
@[simp] theorem Tryz.tk_34 : tyk Tryz.prog 34 = some (false, 1) := by kernel_rfl
@[simp] theorem Tryz.sz_35 : szOf Tryz.prog 35 = some 1 := by kernel_rfl
@[simp] theorem Tryz.tk_35 : tyk Tryz.prog 35 = some (false, 1) := by kernel_rfl
@[simp] theorem Tryz.sz_36 : szOf Tryz.prog 36 = some 1 := by kernel_rfl
@[simp] theorem Tryz.tk_36 : tyk Tryz.prog 36 = some (false, 1) := by kernel_rfl
@[simp] theorem Tryz.sz_38 : szOf Tryz.prog 38 = some 1 := by kernel_rfl
@[simp] theorem Tryz.tk_38 : tyk Tryz.prog 38 = some (false, 1) := by kernel_rfl
@[simp] theorem Tryz.sz_39 : szOf Tryz.prog 39 = some 1 := by kernel_rfl
@[simp] theorem Tryz.tk_39 : tyk Tryz.prog 39 = some (false, 1) := by kernel_rfl
@[simp] theorem Tryz.sz_40 : szOf Tryz.prog 40 = some 1 := by kernel_rfl
@[simp] theorem Tryz.tk_40 : tyk Tryz.prog 40 = some (false, 1) := by kernel_rfl
@[simp] theorem Tryz.ez_41 : esz Tryz.prog 41 = some (2, 40) := by kernel_rfl
@[simp] theorem Tryz.sz_41 : szOf Tryz.prog 41 = some 2 := by kernel_rfl
@[simp] theorem Tryz.tk_41 : tyk Tryz.prog 41 = some (true, 2) := by kernel_rfl
@[simp] theorem Tryz.zd_41 : zeroD Tryz.prog 41 = some (.agg [.str [], .sl []]) := by kernel_rfl
@[simp] theorem Tryz.sd_41 : structD Tryz.prog 41 = some [.str [], .sl []] := by kernel_rfl
@[simp] theorem Tryz.fo_41_0 : fieldOff Tryz.prog 41 0 = some 0 := by kernel_rfl
@[simp] theorem Tryz.fo_41_1 : fieldOff Tryz.prog 41 1 = some 1 := by kernel_rfl
@[simp] theorem Tryz.ez_42 : esz Tryz.prog 42 = some (2, 40) := by kernel_rfl
@[simp] theorem Tryz.sz_42 : szOf Tryz.prog 42 = some 2 := by kernel_rfl
@[simp] theorem Tryz.tk_42 : tyk Tryz.prog 42 = some (true, 2) := by kernel_rfl
@[simp] theorem Tryz.zd_42 : zeroD Tryz.prog 42 = some (.agg [.str [], .sl []]) := by kernel_rfl
@[simp] theorem Tryz.sd_42 : structD Tryz.prog 42 = some [.str [], .sl []] := by kernel_rfl
@[simp] theorem Tryz.fo_42_0 : fieldOff Tryz.prog 42 0 = some 0 := by kernel_rfl
@[simp] theorem Tryz.fo_42_1 : fieldOff Tryz.prog 42 1 = some 1 := by kernel_rfl
@[simp] theorem Tryz.sz_43 : szOf Tryz.prog 43 = some 1 := by kernel_rfl
@[simp] theorem Tryz.tk_43 : tyk Tryz.prog 43 = some (false, 1) := by kernel_rfl
@[simp] theorem Tryz.sz_44 : szOf Tryz.prog 44 = some 1 := by kernel_rfl
@[simp] theorem Tryz.tk_44 : tyk Tryz.prog 44 = some (false, 1) := by kernel_rfl
@[simp] theorem Tryz.sz_45 : szOf Tryz.prog 45 = some 1 := by kernel_rfl
@[simp] theorem Tryz.tk_45 : tyk Tryz.prog 45 = some (false, 1) := by kernel_rfl
@[simp] theorem Tryz.sz_46 : szOf Tryz.prog 46 = some 1 := by kernel_rfl
@[simp] theorem Tryz.tk_46 : tyk Tryz.prog 46 = some (false, 1) := by kernel_rfl
@[simp] theorem Tryz.sz_47 : szOf Tryz.prog 47 = some 1 := by kernel_rfl
@[simp] theorem Tryz.tk_47 : tyk Tryz.prog 47 = some (false, 1) := by kernel_rfl
@[simp] theorem Tryz.sz_48 : szOf Tryz.prog 48 = some 1 := by kernel_rfl
@[simp] theorem Tryz.tk_48 : tyk Tryz.prog 48 = some (false, 1) := by kernel_rfl
@[simp] theorem Tryz.sz_49 : szOf Tryz.prog 49 = some 1 := by kernel_rfl
@[simp] theorem Tryz.tk_49 : tyk Tryz.prog 49 = some (false, 1) := by kernel_rfl
@[simp] theorem Tryz.sz_50 : szOf Tryz.prog 50 = some 1 := by kernel_rfl
@[simp] theorem Tryz.tk_50 : tyk Tryz.prog 50 = some (false, 1) := by kernel_rfl
@[simp] theorem Tryz.sz_51 : szOf Tryz.prog 51 = some 1 := by kernel_rfl
@[simp] theorem Tryz.tk_51 : tyk Tryz.prog 51 = some (false, 1) := by kernel_rfl
@[simp] theorem Tryz.sz_52 : szOf Tryz.prog 52 = some 1 := by kernel_rfl
@[simp] theorem Tryz.tk_52 : tyk Tryz.prog 52 = some (false, 1) := by kernel_rfl
@[simp] theorem Tryz.sz_53 : szOf Tryz.prog 53 = some 1 := by kernel_rfl
@[simp] theorem Tryz.tk_53 : tyk Tryz.prog 53 = some (false, 1) := by kernel_rfl
@[simp] theorem Tryz.sz_54 : szOf Tryz.prog 54 = some 1 := by kernel_rfl
@[simp] theorem Tryz.tk_54 : tyk Tryz.prog 54 = some (false, 1) := by kernel_rfl
@[simp] theorem Tryz.sz_55 : szOf Tryz.prog 55 = some 1 := by kernel_rfl
@[simp] theorem Tryz.tk_55 : tyk Tryz.prog 55 = some (false, 1) := by kernel_rfl
@[simp] theorem Tryz.sz_56 : szOf Tryz.prog 56 = some 1 := by kernel_rfl
@[simp] theorem Tryz.tk_56 : tyk Tryz.prog 56 = some (false, 1) := by kernel_rfl
@[simp] theorem Tryz.sz_57 : szOf Tryz.prog 57 = some 1 := by kernel_rfl
@[simp] theorem Tryz.tk_57 : tyk Tryz.prog 57 = some (false, 1) := by kernel_rfl
@[simp] theorem Tryz.sz_58 : szOf Tryz.prog 58 = some 1 := by kernel_rfl
@[simp] theorem Tryz.tk_58 : tyk Tryz.prog 58 = some (false, 1) := by kernel_rfl
@[simp] theorem Tryz.sz_59 : szOf Tryz.prog 59 = some 1 := by kernel_rfl
@[simp] theorem Tryz.tk_59 : tyk Tryz.prog 59 = some (false, 1) := by kernel_rfl
@[simp] theorem Tryz.sz_60 : szOf Tryz.prog 60 = some 1 := by kernel_rfl
@[simp] theorem Tryz.tk_60 : tyk Tryz.prog 60 = some (false, 1) := by kernel_rfl
@[simp] theorem Tryz.sz_61 : szOf Tryz.prog 61 = some 1 := by kernel_rfl
@[simp] theorem Tryz.tk_61 : tyk Tryz.prog 61 = some (false, 1) := by kernel_rfl
@[simp] theorem Tryz.sz_62 : szOf Tryz.prog 62 = some 1 := by kernel_rfl
@[simp] theorem Tryz.tk_62 : tyk Tryz.prog 62 = some (false, 1) := by kernel_rfl
@[simp] theorem Tryz.sz_63 : szOf Tryz.prog 63 = some 1 := by kernel_rfl
@[simp] theorem Tryz.tk_63 : tyk Tryz.prog 63 = some (false, 1) := by kernel_rfl
@[simp] theorem Tryz.sz_64 : szOf Tryz.prog 64 = some 1 := by kernel_rfl
@[simp] theorem Tryz.tk_64 : tyk Tryz.prog 64 = some (false, 1) := by kernel_rfl
@[simp] theorem Tryz.u_65 : Program.underlying Tryz.prog 65 = some (.slice 5) := by kernel_rfl
@[simp] theorem Tryz.se_65 : sliceE Tryz.prog 65 = some 5 := by kernel_rfl
@[simp] theorem Tryz.ez_65 : esz Tryz.prog 65 = some (1, 24) := by kernel_rfl
@[simp] theorem Tryz.sz_65 : szOf Tryz.prog 65 = some 1 := by kernel_rfl
@[simp] theorem Tryz.tk_65 : tyk Tryz.prog 65 = some (false, 1) := by kernel_rfl
@[simp] theorem Tryz.zd_65 : zeroD Tryz.prog 65 = some (.sl []) := by kernel_rfl
@[simp] theorem Tryz.sz_66 : szOf Tryz.prog 66 = some 1 := by kernel_rfl
@[simp] theorem Tryz.tk_66 : tyk Tryz.prog 66 = some (false, 1) := by kernel_rfl
@[simp] theorem Tryz.sz_67 : szOf Tryz.prog 67 = some 1 := by kernel_rfl
@[simp] theorem Tryz.tk_67 : tyk Tryz.prog 67 = some (false, 1) := by kernel_rfl
@[simp] theorem Tryz.sz_68 : szOf Tryz.prog 68 = some 1 := by kernel_rfl
@[simp] theorem Tryz.tk_68 : tyk Tryz.prog 68 = some (false, 1) := by kernel_rfl
@[simp] theorem Tryz.sz_69 : szOf Tryz.prog 69 = some 1 := by kernel_rfl
@[simp] theorem Tryz.tk_69 : tyk Tryz.prog 69 = some (false, 1) := by kernel_rfl
@[simp] theorem Tryz.u_70 : Program.underlying Tryz.prog 70 = some (.int .u64) := by kernel_rfl
@[simp] theorem Tryz.se_70 : sliceE Tryz.prog 70 = none := by kernel_rfl
@[simp] theorem Tryz.ez_70 : esz Tryz.prog 70 = some (1, 8) := by kernel_rfl
@[simp] theorem Tryz.sz_70 : szOf Tryz.prog 70 = some 1 := by kernel_rfl
@[simp] theorem Tryz.tk_70 : tyk Tryz.prog 70 = some (false, 1) := by kernel_rfl
@[simp] theorem Tryz.zd_70 : zeroD Tryz.prog 70 = some (.int .u64 0) := by kernel_rfl
@[simp] theorem Tryz.sz_71 : szOf Tryz.prog 71 = some 1 := by kernel_rfl
@[simp] theorem Tryz.tk_71 : tyk Tryz.prog 71 = some (false, 1) := by kernel_rfl
@[simp] theorem Tryz.sz_72 : szOf Tryz.prog 72 = some 1 := by kernel_rfl
@[simp] theorem Tryz.tk_72 : tyk Tryz.prog 72 = some (false, 1) := by kernel_rfl
@[simp] theorem Tryz.sz_73 : szOf Tryz.prog 73 = some 1 := by kernel_rfl
@[simp] theorem Tryz.tk_73 : tyk Tryz.prog 73 = some (false, 1) := by kernel_rfl
@[simp] theorem Tryz.sz_76 : szOf Tryz.prog 76 = some 1 := by kernel_rfl
@[simp] theorem Tryz.tk_76 : tyk Tryz.prog 76 = some (false, 1) := by kernel_rfl
@[simp] theorem Tryz.sz_77 : szOf Tryz.prog 77 = some 1 := by kernel_rfl
@[simp] theorem Tryz.tk_77 : tyk Tryz.prog 77 = some (false, 1) := by kernel_rfl
@[simp] theorem Tryz.sz_78 : szOf Tryz.prog 78 = some 1 := by kernel_rfl
@[simp] theorem Tryz.tk_78 : tyk Tryz.prog 78 = some (false, 1) := by kernel_rfl
@[simp] theorem Tryz.sz_79 : szOf Tryz.prog 79 = some 1 := by kernel_rfl
@[simp] theorem Tryz.tk_79 : tyk Tryz.prog 79 = some (false, 1) := by kernel_rfl
@[simp] theorem Tryz.sz_81 : szOf Tryz.prog 81 = some 1 := by kernel_rfl
@[simp] theorem Tryz.tk_81 : tyk Tryz.prog 81 = some (false, 1) := by kernel_rfl
@[simp] theorem Tryz.sz_82 : szOf Tryz.prog 82 = some 1 := by kernel_rfl
@[simp] theorem Tryz.tk_82 : tyk Tryz.prog 82 = some (false, 1) := by kernel_rfl
@[simp] theorem Tryz.u_83 : Program.underlying Tryz.prog 83 = some (.int .u32) := by kernel_rfl
@[simp] theorem Tryz.se_83 : sliceE Tryz.prog 83 = none := by kernel_rfl
@[simp] theorem Tryz.ez_83 : esz Tryz.prog 83 = some (1, 4) := by kernel_rfl
@[simp] theorem Tryz.sz_83 : szOf Tryz.prog 83 = some 1 := by kernel_rfl
@[simp] theorem Tryz.tk_83 : tyk Tryz.prog 83 = some (false, 1) := by kernel_rfl
@[simp] theorem Tryz.zd_83 : zeroD Tryz.prog 83 = some (.int .u32 0) := by kernel_rfl
@[simp] theorem Tryz.sz_84 : szOf Tryz.prog 84 = some 1 := by kernel_rfl
@[simp] theorem Tryz.tk_84 : tyk Tryz.prog 84 = some (false, 1) := by kernel_rfl
@[simp] theorem Tryz.u_85 : Program.underlying Tryz.prog 85 = some (.int .u64) := by kernel_rfl
@[simp] theorem Tryz.se_85 : sliceE Tryz.prog 85 = none := by kernel_rfl
@[simp] theorem Tryz.ez_85 : esz Tryz.prog 85 = some (1, 8) := by kernel_rfl
@[simp] theorem Tryz.sz_85 : szOf Tryz.prog 85 = some 1 := by kernel_rfl
@[simp] theorem Tryz.tk_85 : tyk Tryz.prog 85 = some (false, 1) := by kernel_rfl
@[simp] theorem Tryz.zd_85 : zeroD Tryz.prog 85 = some (.int .u64 0) := by kernel_rfl
@[simp] theorem Tryz.sz_86 : szOf Tryz.prog 86 = some 1 := by kernel_rfl
@[simp] theorem Tryz.tk_86 : tyk Tryz.prog 86 = some (false, 1) := by kernel_rfl
@[simp] theorem Tryz.sz_87 : szOf Tryz.prog 87 = some 1 := by kernel_rfl
@[simp] theorem Tryz.tk_87 : tyk Tryz.prog 87 = some (false, 1) := by kernel_rfl
@[simp] theorem Tryz.sz_88 : szOf Tryz.prog 88 = some 1 := by kernel_rfl
@[simp] theorem Tryz.tk_88 : tyk Tryz.prog 88 = some (false, 1) := by kernel_rfl
@[simp] theorem Tryz.sz_89 : szOf Tryz.prog 89 = some 1 := by kernel_rfl
@[simp] theorem Tryz.tk_89 : tyk Tryz.prog 89 = some (false, 1) := by kernel_rfl
@[simp] theorem Tryz.sz_90 : szOf Tryz.prog 90 = some 1 := by kernel_rfl
@[simp] theorem Tryz.tk_90 : tyk Tryz.prog 90 = some (false, 1) := by kernel_rfl
@[simp] theorem Tryz.sz_91 : szOf Tryz.prog 91 = some 1 := by kernel_rfl
@[simp] theorem Tryz.tk_91 : tyk Tryz.prog 91 = some (false, 1) := by kernel_rfl
@[simp] theorem Tryz.sz_93 : szOf Tryz.prog 93 = some 1 := by kernel_rfl
@[simp] theorem Tryz.tk_93 : tyk Tryz.prog 93 = some (false, 1) := by kernel_rfl
@[simp] theorem Tryz.sz_94 : szOf Tryz.prog 94 = some 1 := by kernel_rfl
@[simp] theorem Tryz.tk_94 : tyk Tryz.prog 94 = some (false, 1) := by kernel_rfl
@[simp] theorem Tryz.sz_95 : szOf Tryz.prog 95 = some 1 := by kernel_rfl
@[simp] theorem Tryz.tk_95 : tyk Tryz.prog 95 = some (false, 1) := by kernel_rfl
@[simp] theorem Tryz.ez_96 : esz Tryz.prog 96 = some (1, 8) := by kernel_rfl
@[simp] theorem Tryz.sz_96 : szOf Tryz.prog 96 = some 1 := by kernel_rfl
@[simp] theorem Tryz.tk_96 : tyk Tryz.prog 96 = some (false, 1) := by kernel_rfl
@[simp] theorem Tryz.zd_96 : zeroD Tryz.prog 96 = some (.nilp) := by kernel_rfl
@[simp] theorem Tryz.sz_97 : szOf Tryz.prog 97 = some 1 := by kernel_rfl
@[simp] theorem Tryz.tk_97 : tyk Tryz.prog 97 = some (false, 1) := by kernel_rfl
@[simp] theorem Tryz.sz_98 : szOf Tryz.prog 98 = some 1 := by kernel_rfl
@[simp] theorem Tryz.tk_98 : tyk Tryz.prog 98 = some (false, 1) := by kernel_rfl
@[simp] theorem Tryz.sz_99 : szOf Tryz.prog 99 = some 1 := by kernel_rfl
@[simp] theorem Tryz.tk_99 : tyk Tryz.prog 99 = some (false, 1) := by kernel_rfl
@[simp] theorem Tryz.sz_100 : szOf Tryz.prog 100 = some 1 := by kernel_rfl
@[simp] theorem Tryz.tk_100 : tyk Tryz.prog 100 = some (false, 1) := by kernel_rfl
@[simp] theorem Tryz.ez_101 : esz Tryz.prog 101 = some (256, 256) := by kernel_rfl
@[simp] theorem Tryz.sz_101 : szOf Tryz.prog 101 = some 256 := by kernel_rfl
@[simp] theorem Tryz.tk_101 : tyk Tryz.prog 101 = some (true, 256) := by kernel_rfl
@[simp] theorem Tryz.sz_104 : szOf Tryz.prog 104 = some 1 := by kernel_rfl
@[simp] theorem Tryz.tk_104 : tyk Tryz.prog 104 = some (false, 1) := by kernel_rfl
@[simp] theorem Tryz.sz_105 : szOf Tryz.prog 105 = some 1 := by kernel_rfl
@[simp] theorem Tryz.tk_105 : tyk Tryz.prog 105 = some (false, 1) := by kernel_rfl
@[simp] theorem Tryz.sz_109 : szOf Tryz.prog 109 = some 1 := by kernel_rfl
@[simp] theorem Tryz.tk_109 : tyk Tryz.prog 109 = some (false, 1) := by kernel_rfl
@[simp] theorem Tryz.sz_110 : szOf Tryz.prog 110 = some 1 := by kernel_rfl
@[simp] theorem Tryz.tk_110 : tyk Tryz.prog 110 = some (false, 1) := by kernel_rfl
@[simp] theorem Tryz.sz_112 : szOf Tryz.prog 112 = some 1 := by kernel_rfl
@[simp] theorem Tryz.tk_112 : tyk Tryz.prog 112 = some (false, 1) := by kernel_rfl
@[simp] theorem Tryz.sz_113 : szOf Tryz.prog 113 = some 1 := by kernel_rfl
@[simp] theorem Tryz.tk_113 : tyk Tryz.prog 113 = some (false, 1) := by kernel_rfl
@[simp] theorem Tryz.sz_114 : szOf Tryz.prog 114 = some 1 := by kernel_rfl
@[simp] theorem Tryz.tk_114 : tyk Tryz.prog 114 = some (false, 1) := by kernel_rfl
@[simp] theorem Tryz.ez_115 : esz Tryz.prog 115 = some (256, 256) := by kernel_rfl
@[simp] theorem Tryz.sz_115 : szOf Tryz.prog 115 = some 256 := by kernel_rfl
@[simp] theorem Tryz.tk_115 : tyk Tryz.prog 115 = some (true, 256) := by kernel_rfl
@[simp] theorem Tryz.ez_116 : esz Tryz.prog 116 = some (2, 2) := by kernel_rfl
@[simp] theorem Tryz.sz_116 : szOf Tryz.prog 116 = some 2 := by kernel_rfl
@[simp] theorem Tryz.tk_116 : tyk Tryz.prog 116 = some (true, 2) := by kernel_rfl
@[simp] theorem Tryz.zd_116 : zeroD Tryz.prog 116 = some (.agg [.int .u8 0, .int .u8 0]) := by kernel_rfl
@[simp] theorem Tryz.sd_116 : structD Tryz.prog 116 = some [.int .u8 0, .int .u8 0] := by kernel_rfl
@[simp] theorem Tryz.fo_116_0 : fieldOff Tryz.prog 116 0 = some 0 := by kernel_rfl
@[simp] theorem Tryz.fo_116_1 : fieldOff Tryz.prog 116 1 = some 1 := by kernel_rfl
@[simp] theorem Tryz.sz_119 : szOf Tryz.prog 119 = some 1 := by kernel_rfl
@[simp] theorem Tryz.tk_119 : tyk Tryz.prog 119 = some (false, 1) := by kernel_rfl
@[simp] theorem Tryz.sz_120 : szOf Tryz.prog 120 = some 1 := by kernel_rfl
@[simp] theorem Tryz.tk_120 : tyk Tryz.prog 120 = some (false, 1) := by kernel_rfl
@[simp] theorem Tryz.sz_121 : szOf Tryz.prog 121 = some 1 := by kernel_rfl
@[simp] theorem Tryz.tk_121 : tyk Tryz.prog 121 = some (false, 1) := by kernel_rfl
@[simp] theorem Tryz.sz_122 : szOf Tryz.prog 122 = some 1 := by kernel_rfl
@[simp] theorem Tryz.tk_122 : tyk Tryz.prog 122 = some (false, 1) := by kernel_rfl
@[simp] theorem Tryz.sz_123 : szOf Tryz.prog 123 = some 1 := by kernel_rfl
@[simp] theorem Tryz.tk_123 : tyk Tryz.prog 123 = some (false, 1) := by kernel_rfl
@[simp] theorem Tryz.sz_129 : szOf Tryz.prog 129 = some 1 := by kernel_rfl
@[simp] theorem Tryz.tk_129 : tyk Tryz.prog 129 = some (false, 1) := by kernel_rfl
@[simp] theorem Tryz.sz_132 : szOf Tryz.prog 132 = some 1 := by kernel_rfl
@[simp] theorem Tryz.tk_132 : tyk Tryz.prog 132 = some (false, 1) := by kernel_rfl
@[simp] theorem Tryz.ez_133 : esz Tryz.prog 133 = some (1, 8) := by kernel_rfl
@[simp] theorem Tryz.sz_133 : szOf Tryz.prog 133 = some 1 := by kernel_rfl
@[simp] theorem Tryz.tk_133 : tyk Tryz.prog 133 = some (false, 1) := by kernel_rfl
@[simp] theorem Tryz.zd_133 : zeroD Tryz.prog 133 = some (.nilp) := by kernel_rfl
end Go.Proofs

namespace Go.Proofs.Tz
open Go.Vw
set_option maxRecDepth 100000
set_option maxHeartbeats 4000000
set_option linter.unusedSimpArgs false

/-- One round is over: round k + 1 comes, of at most N. -/
def Again (N k : Nat) (I : Nat → St → Prop) (τ : St) : Prop := ∃ m', m' < N - k ∧ ∃ k', k' ≤ N ∧ m' = N - k' ∧ I k' τ
theorem again {N k : Nat} {I : Nat → St → Prop} {τ : St} (hk : k < N) (h : I (k + 1) τ) : Again N k I τ := ⟨N - (k + 1), by omega, k + 1, hk, rfl, h⟩
theorem loopN {body : (Exit → St → Prop) → St → Prop} {Q : Exit → St → Prop} {σ : St} (N : Nat) (I : Nat → St → Prop) (h0 : I 0 σ)
    (hr : ∀ k τ, k ≤ N → I k τ → body (thenV (Again N k I) Q) τ) : LoopK body Q σ :=
  ⟨fun m τ => ∃ k, k ≤ N ∧ m = N - k ∧ I k τ, N, ⟨0, Nat.zero_le _, rfl, h0⟩, by
    rintro m τ ⟨k, hk, rfl, hI⟩
    exact hr k τ hk hI⟩

theorem take_s {α : Type} {l : List α} {k : Nat} (h : k < l.length) : l.take (k + 1) = l.take k ++ [l[k]] := by
  rw [List.take_succ_eq_append_getElem h]

def strs (l : List Str) : D := .sl (l.map .str)
def u8 (c : UInt8) : D := .int .u8 c.toNat

theorem has_fn (l : List Str) (s : Str) (hl : l.length < 1000000) : Ctr Tryz.prog 56 [.d (strs l), .d (.str s)] (.d (.bool (decide (s ∈ l)))) := by
  refine fn_of_vwp (fun _ => false) (by kernel_rfl) Tryz.func56 (by kernel_rfl) rfl rfl (Nat.le_of_ble_eq_true rfl) (by kernel_rfl) rfl rfl ?_
  simp -implicitDefEqProofs
  refine loopN l.length (fun k τ => τ 0 = .d (strs l) ∧ τ 1 = .d (.str s) ∧ τ 5 = .d (.int .i64 k) ∧ s ∉ l.take k) (by simp) ?_
  rintro k τ hk ⟨h0, h1, h5, hn⟩
  by_cases hlt : k < l.length
  · by_cases he : l[k] = s
    · simp -implicitDefEqProofs [h0, h1, h5, strs, hlt, he]
      exact he ▸ List.getElem_mem _
    · simp -implicitDefEqProofs [h0, h1, h5, strs, hlt, he]
      refine ⟨by omega, again hlt ⟨by simp [h0, strs], by simp [h1], by simp, ?_⟩⟩
      rw [take_s hlt, List.mem_append, List.mem_singleton]
      rintro (h | h)
      · exact hn h
      · exact he h.symm
  · simp -implicitDefEqProofs [h0, h5, strs, hlt]
    rw [List.take_of_length_le (by omega)] at hn
    first | exact ⟨by omega, hn⟩ | exact hn

def isLetter (c : UInt8) : Bool := decide (97 ≤ (c.toNat : Int)) && decide ((c.toNat : Int) ≤ 122) || decide (65 ≤ (c.toNat : Int)) && decide ((c.toNat : Int) ≤ 90)
def isDigit (c : UInt8) : Bool := decide (48 ≤ (c.toNat : Int)) && decide ((c.toNat : Int) ≤ 57)

theorem letter_fn (c : UInt8) : Ctr Tryz.prog 73 [.d (u8 c)] (.d (.bool (isLetter c))) := by
  refine fn_of_vwp (fun _ => false) (by kernel_rfl) Tryz.func73 (by kernel_rfl) rfl rfl (Nat.le_of_ble_eq_true rfl) (by kernel_rfl) rfl rfl ?_
  by_cases h1 : 97 ≤ (c.toNat : Int) <;> by_cases h2 : (c.toNat : Int) ≤ 122 <;> by_cases h3 : 65 ≤ (c.toNat : Int) <;> simp -implicitDefEqProofs [u8, isLetter, h1, h2, h3]
theorem digit_fn (c : UInt8) : Ctr Tryz.prog 74 [.d (u8 c)] (.d (.bool (isDigit c))) := by
  refine fn_of_vwp (fun _ => false) (by kernel_rfl) Tryz.func74 (by kernel_rfl) rfl rfl (Nat.le_of_ble_eq_true rfl) (by kernel_rfl) rfl rfl ?_
  by_cases h1 : 48 ≤ (c.toNat : Int) <;> simp [u8, isDigit, h1]
def lowc (c : UInt8) : UInt8 := if 65 ≤ (c.toNat : Int) ∧ (c.toNat : Int) ≤ 90 then c + 32 else c
def lower (s : Str) : Str := s.map lowc
theorem lowc_toNat (c : UInt8) (h1 : 65 ≤ (c.toNat : Int)) (h2 : (c.toNat : Int) ≤ 90) : ((lowc c).toNat : Int) = c.toNat + 97 - 65 := by
  rw [lowc, if_pos ⟨h1, h2⟩, UInt8.toNat_add]
  have : (32 : UInt8).toNat = 32 := rfl
  omega
theorem bytes_u8 (s : Str) : s.map u8 = bytesD s := rfl
theorem lower_len (s : Str) : (lower s).length = s.length := by simp [lower]
theorem lower_take {s : Str} {k : Nat} (h : k < List.length s) : (lower (s.take (k + 1))).map u8 = (lower (s.take k)).map u8 ++ [u8 (lowc s[k])] := by
  rw [take_s h]; simp only [lower, List.map_append, List.map_cons, List.map_nil]
theorem lower_fn (s : Str) (hs : List.length s < 1000000) : Ctr Tryz.prog 35 [.d (.str s)] (.d (.str (lower s))) := by
  refine fn_of_vwp (fun i => decide (i < 1000000)) (by kernel_rfl) Tryz.func35 (by kernel_rfl) rfl rfl (Nat.le_of_ble_eq_true rfl) (by kernel_rfl) rfl rfl ?_
  simp -implicitDefEqProofs
  refine loopN (List.length s) (fun k τ => τ 0 = .d (.str s) ∧ τ 4 = .d (.int .i64 k) ∧ τ 3 = .own true 5 ((lower (s.take k)).map u8)) (by simp [lower]) ?_
  rintro k τ hk ⟨h0, h4, h3⟩
  by_cases hlt : k < List.length s
  · by_cases h1 : 65 ≤ (s[k].toNat : Int)
    · by_cases h2 : (s[k].toNat : Int) ≤ 90
      · simp -implicitDefEqProofs [h0, h3, h4, hlt, h1, h2, lower_len]
        refine ⟨by omega, by omega, by omega, by omega, again hlt ⟨by simp [h0], by simp, ?_⟩⟩
        simp -implicitDefEqProofs [lower_take hlt, u8, lowc_toNat _ h1 h2]
      · simp -implicitDefEqProofs [h0, h3, h4, hlt, h1, h2, lower_len]
        refine ⟨by omega, by omega, again hlt ⟨by simp [h0], by simp, ?_⟩⟩
        simp -implicitDefEqProofs [lower_take hlt, u8, lowc, h2]
    · simp -implicitDefEqProofs [h0, h3, h4, hlt, h1, lower_len]
      refine ⟨by omega, by omega, again hlt ⟨by simp [h0], by simp, ?_⟩⟩
      simp -implicitDefEqProofs [lower_take hlt, u8, lowc, h1]
  · simp -implicitDefEqProofs [h0, h3, h4, hlt, bytes_u8]
    rw [List.take_of_length_le (by omega)]

def nameC (c : UInt8) : Bool := isLetter c || isDigit c || decide ((c.toNat : Int) = 45)
def nameB (s : Str) : Bool := decide (1 ≤ s.length) && decide (s.length ≤ 64) && (s.head?.any isLetter) && s.all nameC
def cleanC (c : UInt8) : Bool := decide (32 ≤ (c.toNat : Int)) && decide ((c.toNat : Int) ≤ 126)
def cleanB (s : Str) : Bool := decide (1 ≤ s.length) && decide (s.length ≤ 256) && s.head? != some 32 && s.getLast? != some 32 && s.all cleanC

theorem all_take {s : Str} {p : UInt8 → Bool} {k : Nat} (h : k < List.length s) (ha : ∀ x ∈ s.take k, p x = true) (hp : p s[k] = true) : ∀ x ∈ s.take (k + 1), p x = true := by
  rw [take_s h]
  intro x hx
  rcases List.mem_append.1 hx with hx | hx
  · exact ha x hx
  · rw [List.mem_singleton.1 hx]; exact hp
theorem all_not {s : Str} {p : UInt8 → Bool} {k : Nat} (h : k < List.length s) (hp : p s[k] = false) : s.all p = false := by
  rw [List.all_eq_false]; exact ⟨_, List.getElem_mem h, by simp [hp]⟩

theorem name_fn (s : Str) : Ctr Tryz.prog 39 [.d (.str s)] (.d (.bool (nameB s))) := by
  refine fn_of_vwp (fun _ => false) (by kernel_rfl) Tryz.func39 (by kernel_rfl) rfl rfl (Nat.le_of_ble_eq_true rfl) (by kernel_rfl) rfl rfl ?_
  by_cases hs : s = []
  · simp -implicitDefEqProofs [nameB, hs]
  obtain ⟨c, t, hct⟩ : ∃ c t, s = c :: t := List.exists_cons_of_ne_nil hs
  have hpos : 0 < List.length s := by rw [hct]; simp
  have h1 : ¬ ((List.length s : Int) < 1) := by omega
  have hc0 : s[0] = c := by simp [hct]
  have hh : s.head? = some c := by simp [hct]
  by_cases h2 : 64 < (List.length s : Int)
  · have : ¬ List.length s ≤ 64 := by omega
    simp -implicitDefEqProofs [nameB, h1, h2, this]
  have h2' : List.length s ≤ 64 := by omega
  have h1' : 1 ≤ List.length s := hpos
  simp -implicitDefEqProofs [h1, h2, hpos, hc0]
  refine callK (letter_fn c) ?_
  by_cases hc : isLetter c = true
  · simp -implicitDefEqProofs [hc]
    refine loopN (List.length s) (fun k τ => τ 0 = .d (.str s) ∧ τ 3 = .d (.int .i64 k) ∧ ∀ x ∈ s.take k, nameC x = true) (by simp) ?_
    rintro k τ hk ⟨h0, h3, ha⟩
    by_cases hlt : k < List.length s
    · simp -implicitDefEqProofs [h0, h3, hlt]
      refine callK (letter_fn s[k]) ?_
      by_cases e1 : isLetter s[k] = true
      · simp -implicitDefEqProofs [e1, h0, h3, hlt]
        refine ⟨by omega, again hlt ⟨by simp [h0], by simp, ?_⟩⟩
        exact all_take hlt ha (by simp [nameC, e1])
      · simp -implicitDefEqProofs [e1, h0, h3, hlt]
        refine callK (digit_fn s[k]) ?_
        by_cases e2 : isDigit s[k] = true
        · simp -implicitDefEqProofs [e2, h0, h3, hlt]
          refine ⟨by omega, again hlt ⟨by simp [h0], by simp, ?_⟩⟩
          exact all_take hlt ha (by simp [nameC, e2])
        · by_cases e3 : (s[k].toNat : Int) = 45
          · simp -implicitDefEqProofs [e2, e3, h0, h3, hlt]
            refine ⟨by omega, again hlt ⟨by simp [h0], by simp, ?_⟩⟩
            exact all_take hlt ha (by simp [nameC, e3])
          · simp -implicitDefEqProofs [e2, e3, h0, h3, hlt]
            simp -implicitDefEqProofs [nameB, all_not hlt (show nameC s[k] = false by simp [nameC, e1, e2, e3])]
    · simp -implicitDefEqProofs [h0, h3, hlt]
      rw [List.take_of_length_le (by omega)] at ha
      simp -implicitDefEqProofs [nameB, h1', h2', hh, hc]
      exact ha
  · simp -implicitDefEqProofs [hc, nameB, hh]
end Go.Proofs.Tz

namespace Go.Proofs.Tz
open Go.Vw
set_option maxRecDepth 100000
set_option maxHeartbeats 4000000
set_option linter.unusedSimpArgs false

theorem clean_fn (s : Str) : Ctr Tryz.prog 75 [.d (.str s)] (.d (.bool (cleanB s))) := by
  refine fn_of_vwp (fun _ => false) (by kernel_rfl) Tryz.func75 (by kernel_rfl) rfl rfl (Nat.le_of_ble_eq_true rfl) (by kernel_rfl) rfl rfl ?_
  by_cases hs : s = []
  · simp -implicitDefEqProofs [cleanB, hs]
  have hpos : 0 < List.length s := by
    cases s with
    | nil => exact absurd rfl hs
    | cons => simp
  have h1 : ¬ ((List.length s : Int) < 1) := by omega
  have hh : s.head? = some s[0] := by simp [List.head?_eq_getElem?, hpos]
  have hl : s.getLast? = some s[List.length s - 1] := by rw [List.getLast?_eq_getElem?, List.getElem?_eq_getElem (by omega)]
  have hi : 0 ≤ (List.length s : Int) - 1 := by omega
  have hi2 : ((List.length s : Int) - 1).toNat = List.length s - 1 := by omega
  have hi3 : List.length s - 1 < List.length s := by omega
  have hi4 : -9223372036854775808 ≤ (List.length s : Int) - 1 := by omega
  by_cases h2 : 256 < (List.length s : Int)
  · have : ¬ List.length s ≤ 256 := by omega
    simp -implicitDefEqProofs [cleanB, h1, h2, this]
  have h2' : List.length s ≤ 256 := by omega
  have h1' : 1 ≤ List.length s := hpos
  have hi5 : (List.length s : Int) - 1 ≤ 9223372036854775807 := by omega
  by_cases ha : (s[0].toNat : Int) = 32
  · have : s[0] = 32 := by apply UInt8.toNat_inj.1; rw [show (32 : UInt8).toNat = 32 from rfl]; omega
    simp -implicitDefEqProofs [cleanB, h1, h2, hpos, ha, hh, this]
  have ha' : ¬ s[0] = 32 := fun e => ha (by rw [e]; rfl)
  by_cases hb : (s[List.length s - 1].toNat : Int) = 32
  · have : s[List.length s - 1] = 32 := by apply UInt8.toNat_inj.1; rw [show (32 : UInt8).toNat = 32 from rfl]; omega
    simp -implicitDefEqProofs [cleanB, h1, h2, hpos, ha, hh, hl, hb, hi, hi2, hi3, hi4, hi5, this]
    all_goals omega
  have hb' : ¬ s[List.length s - 1] = 32 := fun e => hb (by rw [e]; rfl)
  simp -implicitDefEqProofs [h1, h2, hpos, ha, hb, hi, hi2, hi3, hi4, hi5]
  refine ⟨by omega, ?_⟩
  refine loopN (List.length s) (fun k τ => τ 0 = .d (.str s) ∧ τ 3 = .d (.int .i64 k) ∧ ∀ x ∈ s.take k, cleanC x = true) (by simp) ?_
  rintro k τ hk ⟨h0, h3, hall⟩
  by_cases hlt : k < List.length s
  · by_cases e1 : (s[k].toNat : Int) < 32
    · have e1' : ¬ 32 ≤ (s[k].toNat : Int) := by omega
      simp -implicitDefEqProofs [h0, h3, hlt, e1]
      simp -implicitDefEqProofs [cleanB, all_not hlt (show cleanC s[k] = false by simp [cleanC, e1'])]
    · by_cases e2 : 126 < (s[k].toNat : Int)
      · have e2' : ¬ (s[k].toNat : Int) ≤ 126 := by omega
        simp -implicitDefEqProofs [h0, h3, hlt, e1, e2]
        simp -implicitDefEqProofs [cleanB, all_not hlt (show cleanC s[k] = false by simp [cleanC, e2'])]
      · have e1' : 32 ≤ (s[k].toNat : Int) := by omega
        have e2' : (s[k].toNat : Int) ≤ 126 := by omega
        simp -implicitDefEqProofs [h0, h3, hlt, e1, e2]
        refine ⟨by omega, again hlt ⟨by simp [h0], by simp, ?_⟩⟩
        exact all_take hlt hall (by simp [cleanC, e1', e2'])
  · simp -implicitDefEqProofs [h0, h3, hlt]
    rw [List.take_of_length_le (by omega)] at hall
    simp -implicitDefEqProofs [cleanB, h1', h2', hh, hl, ha', hb']
    exact hall

theorem same_fn (l m : List Str) (hl : l.length < 1000000) (hm : m.length < 1000000) : Ctr Tryz.prog 20 [.d (strs l), .d (strs m)] (.d (.bool (decide (l = m)))) := by
  refine fn_of_vwp (fun _ => false) (by kernel_rfl) Tryz.func20 (by kernel_rfl) rfl rfl (Nat.le_of_ble_eq_true rfl) (by kernel_rfl) rfl rfl ?_
  by_cases hlm : l.length = m.length
  · simp -implicitDefEqProofs [strs, hlm]
    refine loopN m.length (fun k τ => τ 0 = .d (strs l) ∧ τ 1 = .d (strs m) ∧ τ 5 = .d (.int .i64 k) ∧ l.take k = m.take k) (by simp [strs]) ?_
    rintro k τ hk ⟨h0, h1, h5, ht⟩
    by_cases hlt : k < m.length
    · have hlt' : k < l.length := by omega
      by_cases he : l[k] = m[k]
      · simp -implicitDefEqProofs [h0, h1, h5, strs, hlm, hlt, hlt', he]
        refine ⟨by omega, again hlt ⟨by simp [h0, strs], by simp [h1, strs], by simp, ?_⟩⟩
        rw [take_s hlt, take_s hlt', ht, he]
      · simp -implicitDefEqProofs [h0, h1, h5, strs, hlm, hlt, hlt', he]
        rintro rfl
        exact he rfl
    · simp -implicitDefEqProofs [h0, h1, h5, strs, hlm, hlt]
      rw [List.take_of_length_le (by omega), List.take_of_length_le (by omega)] at ht
      first | exact ⟨by omega, ht⟩ | exact ht
  · have hlm' : ¬ (l.length : Int) = m.length := by omega
    simp -implicitDefEqProofs [strs, hlm']
    rintro rfl
    exact hlm rfl
end Go.Proofs.Tz

namespace Go.Proofs.Tz
open Go.Vw
set_option maxRecDepth 100000
set_option maxHeartbeats 4000000
set_option linter.unusedSimpArgs false

/-- One step of Insert. -/
def insS (s : Str) (r : Bool × List Str) (x : Str) : Bool × List Str :=
  (r.1 || !Op.bytesLess x s, r.2 ++ (if r.1 = false ∧ Op.bytesLess x s = false then [s] else []) ++ (if x = s then [] else [x]))
def insF (s : Str) (l : List Str) : Bool × List Str := l.foldl (insS s) (false, [])
def ins (l : List Str) (s : Str) : List Str := (insF s l).2 ++ (if (insF s l).1 then [] else [s])

theorem insF_take {s : Str} {l : List Str} {k : Nat} (h : k < l.length) : insF s (l.take (k + 1)) = insS s (insF s (l.take k)) l[k] := by
  rw [take_s h]; simp only [insF, List.foldl_append, List.foldl_cons, List.foldl_nil]
theorem insF_len (s : Str) : ∀ (l : List Str) (r : Bool × List Str), (l.foldl (insS s) r).2.length ≤ r.2.length + 2 * l.length
  | [], r => by simp
  | x :: l, r => by
    have := insF_len s l (insS s r x)
    simp only [List.foldl_cons, List.length_cons]
    have h2 : (insS s r x).2.length ≤ r.2.length + 2 := by
      simp only [insS, List.length_append]
      split <;> split <;> simp <;> omega
    all_goals omega
theorem insF_len' (s : Str) (l : List Str) : (insF s l).2.length ≤ 2 * l.length := by simpa [insF] using insF_len s l (false, [])

theorem ins_fn (l : List Str) (s : Str) (hl : l.length < 1000000) : Ctr Tryz.prog 50 [.d (strs l), .d (.str s)] (.own true 9 ((ins l s).map .str)) := by
  refine fn_of_vwp (fun i => decide (i < 1000000)) (by kernel_rfl) Tryz.func50 (by kernel_rfl) rfl rfl (Nat.le_of_ble_eq_true rfl) (by kernel_rfl) rfl rfl ?_
  simp -implicitDefEqProofs
  refine loopN l.length (fun k τ => τ 0 = .d (strs l) ∧ τ 1 = .d (.str s) ∧ τ 6 = .d (.bool (insF s (l.take k)).1) ∧ τ 5 = .own true 9 ((insF s (l.take k)).2.map .str) ∧ τ 7 = .d (.int .i64 k)) (by simp [insF]) ?_
  rintro k τ hk ⟨h0, h1, h6, h5, h7⟩
  have hlen := insF_len' s (l.take k)
  rw [List.length_take, Nat.min_eq_left hk] at hlen
  have ht := fun h => insF_take (s := s) (l := l) (k := k) h
  generalize hr : insF s (l.take k) = r at *
  obtain ⟨d, out⟩ := r
  simp only at hlen h6 h5
  by_cases hlt : k < l.length
  · have ht := ht hlt
    cases d with
    | true =>
      by_cases he : l[k] = s
      · simp -implicitDefEqProofs [h0, h1, h6, h5, h7, strs, hlt, he]
        refine ⟨by omega, again hlt ⟨by simp [h0, strs], by simp [h1], ?_, ?_, by simp⟩⟩
        · rw [ht]; simp [h6, insS]
        · rw [ht]; simp [h5, insS, he]
      · simp -implicitDefEqProofs [h0, h1, h6, h5, h7, strs, hlt, he]
        refine ⟨by omega, by omega, by omega, again hlt ⟨by simp [h0, strs], by simp [h1], ?_, ?_, by simp⟩⟩
        · rw [ht]; simp [h6, insS]
        · rw [ht]; simp [h5, insS, he]
    | false =>
      by_cases hb : Op.bytesLess l[k] s = true
      · by_cases he : l[k] = s
        · have hb' : Op.bytesLess s s = true := by rw [he] at hb; exact hb
          simp -implicitDefEqProofs [h0, h1, h6, h5, h7, strs, hlt, he, hb']
          refine ⟨by omega, again hlt ⟨by simp [h0, strs], by simp [h1], ?_, ?_, by simp⟩⟩
          · rw [ht]; simp [h6, insS, he, hb']
          · rw [ht]; simp [h5, insS, he, hb']
        · simp -implicitDefEqProofs [h0, h1, h6, h5, h7, strs, hlt, he, hb]
          refine ⟨by omega, by omega, by omega, again hlt ⟨by simp [h0, strs], by simp [h1], ?_, ?_, by simp⟩⟩
          · rw [ht]; simp [h6, insS, he, hb]
          · rw [ht]; simp [h5, insS, he, hb]
      · by_cases he : l[k] = s
        · have hb' : Op.bytesLess s s = false := by rw [he] at hb; simpa using hb
          simp -implicitDefEqProofs [h0, h1, h6, h5, h7, strs, hlt, he, hb']
          refine ⟨by omega, by omega, by omega, again hlt ⟨by simp [h0, strs], by simp [h1], ?_, ?_, by simp⟩⟩
          · rw [ht]; simp [h6, insS, he, hb']
          · rw [ht]; simp [h5, insS, he, hb']
        · simp -implicitDefEqProofs [h0, h1, h6, h5, h7, strs, hlt, he, hb]
          refine ⟨by omega, by omega, by omega, by omega, by omega, again hlt ⟨by simp [h0, strs], by simp [h1], ?_, ?_, by simp⟩⟩
          · rw [ht]; simp [h6, insS, he, hb]
          · rw [ht]; simp [h5, insS, he, hb]
  · rw [List.take_of_length_le (by omega)] at hr
    cases d with
    | true =>
      simp -implicitDefEqProofs [h0, h1, h6, h5, h7, strs, hlt, ins, hr]
      all_goals omega
    | false =>
      simp -implicitDefEqProofs [h0, h1, h6, h5, h7, strs, hlt, ins, hr]
      all_goals omega
end Go.Proofs.Tz

namespace Go.Proofs.Tz
open Go.Vw
set_option maxRecDepth 100000
set_option maxHeartbeats 4000000
set_option linter.unusedSimpArgs false

abbrev Att := Str × List Str
def att (a : Att) : D := .agg [.str a.1, strs a.2]
def atts (l : List Att) : D := .sl (l.map att)

/-- Every string of a list is short enough for the walk. -/
def Fits (l : List Att) : Prop := l.length < 1000000 ∧ ∀ a ∈ l, List.length a.1 < 1000000 ∧ a.2.length < 1000000

theorem twice_fn (l : List Att) (i : Nat) (hi : i < l.length) (hl : Fits l) : Ctr Tryz.prog 40 [.d (atts l), .d (.int .i64 i)] (.d (.bool ((l.take i).any fun a => decide (lower a.1 = lower l[i].1)))) := by
  refine fn_of_vwp (fun _ => false) (by kernel_rfl) Tryz.func40 (by kernel_rfl) rfl rfl (Nat.le_of_ble_eq_true rfl) (by kernel_rfl) rfl rfl ?_
  simp -implicitDefEqProofs
  have hl1 := hl.1
  refine loopN i (fun k τ => τ 0 = .d (atts l) ∧ τ 1 = .d (.int .i64 i) ∧ τ 5 = .d (.int .i64 k) ∧ ∀ a ∈ l.take k, ¬ lower a.1 = lower l[i].1) (by simp) ?_
  rintro k τ hk ⟨h0, h1, h5, ha⟩
  by_cases hlt : k < i
  · have hlt2 : k < l.length := by omega
    simp -implicitDefEqProofs [h0, h1, h5, hlt, hlt2, atts, att, strs, hi]
    refine callP (lower_fn _ (hl.2 _ (List.getElem_mem hlt2)).1) ?_
    simp -implicitDefEqProofs [h0, h1, h5, hlt, hlt2, atts, att, strs, hi]
    refine callP (lower_fn _ (hl.2 _ (List.getElem_mem hi)).1) ?_
    by_cases he : lower l[k].1 = lower l[i].1
    · simp -implicitDefEqProofs [h0, h1, h5, hlt, hlt2, atts, att, strs, hi, he]
      refine ⟨l[k].1, ⟨l[k].2, ?_⟩, he⟩
      rw [List.mem_take_iff_getElem]
      exact ⟨k, by omega, rfl⟩
    · simp -implicitDefEqProofs [h0, h1, h5, hlt, hlt2, atts, att, strs, hi, he]
      refine ⟨by omega, again hlt ⟨by simp [h0, atts, att, strs], by simp [h1], by simp, ?_⟩⟩
      rw [take_s hlt2]
      intro a b hm
      rcases List.mem_append.1 hm with hm | hm
      · exact ha _ hm
      · have := List.mem_singleton.1 hm
        rw [← this] at he
        exact he
  · simp -implicitDefEqProofs [h0, h1, h5, hlt]
    obtain rfl : k = i := by omega
    exact fun a b h => ha (a, b) h

/-- The first error of values. -/
def chkV (old : List Str) : List Str → List Str → Int
  | _, [] => 0
  | b, v :: l => if cleanB v = false then 4 else if v ∈ old ∨ v ∈ b then 7 else chkV old (b ++ [v]) l

theorem chkV_drop {old l : List Str} {k : Nat} (h : k < l.length) : chkV old (l.take k) (l.drop k) = if cleanB l[k] = false then 4 else if l[k] ∈ old ∨ l[k] ∈ l.take k then 7 else chkV old (l.take (k + 1)) (l.drop (k + 1)) := by
  rw [List.drop_eq_getElem_cons h, chkV, take_s h]

theorem checkValues_fn (l old : List Str) (hl : l.length < 1000000) (ho : old.length < 1000000) : Ctr Tryz.prog 41 [.d (strs l), .d (strs old)] (.d (.int .i64 (chkV old [] l))) := by
  refine fn_of_vwp (fun _ => false) (by kernel_rfl) Tryz.func41 (by kernel_rfl) rfl rfl (Nat.le_of_ble_eq_true rfl) (by kernel_rfl) rfl rfl ?_
  simp -implicitDefEqProofs
  refine loopN l.length (fun k τ => τ 0 = .d (strs l) ∧ τ 1 = .d (strs old) ∧ τ 5 = .d (.int .i64 k) ∧ chkV old [] l = chkV old (l.take k) (l.drop k)) (by simp) ?_
  rintro k τ hk ⟨h0, h1, h5, hc⟩
  by_cases hlt : k < l.length
  · rw [chkV_drop hlt] at hc
    have hw : ∀ y ∈ List.map D.str l, width y = 1 := by simp [width]
    simp -implicitDefEqProofs [h0, h1, h5, hlt, strs]
    refine callK (clean_fn l[k]) ?_
    by_cases e1 : cleanB l[k] = true
    · simp -implicitDefEqProofs [h0, h1, h5, hlt, strs, e1]
      refine callP (has_fn old l[k] ho) ?_
      by_cases e2 : l[k] ∈ old
      · simp -implicitDefEqProofs [h0, h1, h5, hlt, strs, e1, e2]
        rw [hc]; simp [e1, e2]
      · simp -implicitDefEqProofs [h0, h1, h5, hlt, strs, e1, e2]
        have hf := has_fn (l.take k) l[k] (by rw [List.length_take]; omega)
        simp only [strs, List.map_take] at hf
        refine ⟨hk, callP hf ?_⟩
        by_cases e3 : l[k] ∈ l.take k
        · simp -implicitDefEqProofs [h0, h1, h5, hlt, strs, e1, e2, e3]
          rw [hc]; simp [e1, e2, e3]
        · simp -implicitDefEqProofs [h0, h1, h5, hlt, strs, e1, e2, e3]
          refine ⟨by omega, again hlt ⟨by simp [h0, strs], by simp [h1, strs], by simp, ?_⟩⟩
          rw [hc]; simp [e1, e2, e3]
    · simp -implicitDefEqProofs [h0, h1, h5, hlt, strs, e1]
      rw [hc]; simp [e1]
  · simp -implicitDefEqProofs [h0, h1, h5, hlt, strs]
    rw [hc, List.drop_eq_nil_of_le (by omega)]
    first | exact ⟨by omega, by simp [chkV]⟩ | (simp [chkV]; done)

theorem sameA_fn (l m : List Att) (hl : Fits l) (hm : Fits m) : Ctr Tryz.prog 14 [.d (atts l), .d (atts m)] (.d (.bool (decide (l = m)))) := by
  refine fn_of_vwp (fun _ => false) (by kernel_rfl) Tryz.func14 (by kernel_rfl) rfl rfl (Nat.le_of_ble_eq_true rfl) (by kernel_rfl) rfl rfl ?_
  have hl1 := hl.1
  have hm1 := hm.1
  by_cases hlm : l.length = m.length
  · simp -implicitDefEqProofs [atts, hlm]
    refine loopN m.length (fun k τ => τ 0 = .d (atts l) ∧ τ 1 = .d (atts m) ∧ τ 5 = .d (.int .i64 k) ∧ l.take k = m.take k) (by simp [atts]) ?_
    rintro k τ hk ⟨h0, h1, h5, ht⟩
    by_cases hlt : k < m.length
    · have hlt' : k < l.length := by omega
      by_cases he : l[k].1 = m[k].1
      · simp -implicitDefEqProofs [h0, h1, h5, atts, att, strs, hlm, hlt, hlt', he]
        refine callP (same_fn _ _ (hl.2 _ (List.getElem_mem hlt')).2 (hm.2 _ (List.getElem_mem hlt)).2) ?_
        by_cases he2 : l[k].2 = m[k].2
        · simp -implicitDefEqProofs [h0, h1, h5, atts, att, strs, hlm, hlt, hlt', he, he2]
          refine ⟨by omega, again hlt ⟨by simp [h0, atts, att, strs], by simp [h1, atts, att, strs], by simp, ?_⟩⟩
          rw [take_s hlt, take_s hlt', ht, Prod.ext he he2]
        · simp -implicitDefEqProofs [h0, h1, h5, atts, att, strs, hlm, hlt, hlt', he, he2]
          rintro rfl
          exact he2 rfl
      · simp -implicitDefEqProofs [h0, h1, h5, atts, att, strs, hlm, hlt, hlt', he]
        rintro rfl
        exact he rfl
    · simp -implicitDefEqProofs [h0, h1, h5, atts, hlm, hlt]
      rw [List.take_of_length_le (by omega), List.take_of_length_le (by omega)] at ht
      first | exact ⟨by omega, ht⟩ | exact ht
  · have hlm' : ¬ (l.length : Int) = m.length := by omega
    simp -implicitDefEqProofs [atts, hlm']
    rintro rfl
    exact hlm rfl

/-- The first error of attributes. -/
def chkA : List Att → List Att → Int
  | _, [] => 0
  | b, a :: l => if nameB a.1 = false then 5 else if b.any (fun c => decide (lower c.1 = lower a.1)) then 7 else if a.2.length = 0 then 6 else if 16 < a.2.length then 3
      else if chkV [] [] a.2 ≠ 0 then chkV [] [] a.2 else chkA (b ++ [a]) l
def checkL (l : List Att) : Int := if 32 < l.length then 3 else chkA [] l
theorem chkA_drop {l : List Att} {k : Nat} (h : k < l.length) : chkA (l.take k) (l.drop k) = if nameB l[k].1 = false then 5 else if (l.take k).any (fun c => decide (lower c.1 = lower l[k].1)) then 7 else if l[k].2.length = 0 then 6 else if 16 < l[k].2.length then 3
      else if chkV [] [] l[k].2 ≠ 0 then chkV [] [] l[k].2 else chkA (l.take (k + 1)) (l.drop (k + 1)) := by
  rw [List.drop_eq_getElem_cons h, chkA, take_s h]

theorem checkR_fn (l : List Att) (hl : Fits l) : Ctr Tryz.prog 13 [.d (atts l)] (.d (.int .i64 (checkL l))) := by
  refine fn_of_vwp (fun _ => false) (by kernel_rfl) Tryz.func13 (by kernel_rfl) rfl rfl (Nat.le_of_ble_eq_true rfl) (by kernel_rfl) rfl rfl ?_
  have hl1 := hl.1
  by_cases h32 : 32 < (l.length : Int)
  · have : 32 < l.length := by omega
    simp -implicitDefEqProofs [atts, checkL, h32, this]
    all_goals (intro h; omega)
  have h32' : ¬ 32 < l.length := by omega
  simp -implicitDefEqProofs [atts, h32]
  refine loopN l.length (fun k τ => τ 0 = .d (atts l) ∧ τ 3 = .d (.int .i64 k) ∧ checkL l = chkA (l.take k) (l.drop k)) (by simp [atts, checkL, h32']) ?_
  rintro k τ hk ⟨h0, h3, hc⟩
  by_cases hlt : k < l.length
  · rw [chkA_drop hlt] at hc
    simp -implicitDefEqProofs [h0, h3, hlt, atts, att, strs]
    refine callK (name_fn l[k].1) ?_
    by_cases e1 : nameB l[k].1 = true
    · simp -implicitDefEqProofs [h0, h3, hlt, atts, att, strs, e1]
      have hf := twice_fn l k hlt hl
      simp only [atts] at hf
      refine callK hf ?_
      by_cases e2 : (l.take k).any (fun c => decide (lower c.1 = lower l[k].1)) = true
      · simp only [e2]
        simp -implicitDefEqProofs [h0, h3, hlt, atts, att, strs]
        rw [hc]; simp [e1, e2]
      · rw [Bool.not_eq_true] at e2
        simp only [e2]
        by_cases e3 : l[k].2 = []
        · simp -implicitDefEqProofs [h0, h3, hlt, atts, att, strs, e3]
          rw [hc]; simp [e1, e2, e3]
        · have e3' : ¬ (l[k].2.length : Int) = 0 := by simpa using e3
          by_cases e4 : 16 < (l[k].2.length : Int)
          · have e4' : 16 < l[k].2.length := by omega
            simp -implicitDefEqProofs [h0, h3, hlt, atts, att, strs, e3, e4]
            rw [hc]; simp [e1, e2, e3, e4']
          · have e4' : ¬ 16 < l[k].2.length := by omega
            simp -implicitDefEqProofs [h0, h3, hlt, atts, att, strs, e3, e4]
            have hf := checkValues_fn l[k].2 [] (hl.2 _ (List.getElem_mem hlt)).2 (by simp)
            simp only [strs, List.map_nil] at hf
            refine callK hf ?_
            by_cases e5 : chkV [] [] l[k].2 = 0
            · simp -implicitDefEqProofs [h0, h3, hlt, atts, att, strs, e3, e4, e5]
              refine ⟨by omega, again hlt ⟨by simp [h0, atts, att, strs], by simp, ?_⟩⟩
              rw [hc]; simp only [e1, e2, e3, e4', e5, if_false, Bool.true_eq_false, Bool.false_eq_true, List.length_eq_zero_iff, ne_eq, not_true_eq_false]
            · simp -implicitDefEqProofs [h0, h3, hlt, atts, att, strs, e3, e4, e5]
              rw [hc]; simp [e1, e2, e3, e4', e5]
    · simp -implicitDefEqProofs [h0, h3, hlt, atts, att, strs, e1]
      rw [hc]; simp [e1]
  · simp -implicitDefEqProofs [h0, h3, hlt, atts]
    rw [hc, List.drop_eq_nil_of_le (by omega)]
    first | exact ⟨by omega, by simp [chkA]⟩ | (simp [chkV, chkA]; done)
end Go.Proofs.Tz

namespace Go.Proofs.Tz
open Go.Vw
set_option maxRecDepth 100000
set_option maxHeartbeats 4000000
set_option linter.unusedSimpArgs false

theorem insF_len2 (s : Str) : ∀ (l : List Str) (r : Bool × List Str) (c : Nat), r.2.length ≤ c + r.1.toNat → (l.foldl (insS s) r).2.length ≤ c + l.length + (l.foldl (insS s) r).1.toNat
  | [], _, _, h => h
  | x :: l, (d, out), c, h => by
    have h2 : (insS s (d, out) x).2.length ≤ (c + 1) + (insS s (d, out) x).1.toNat := by
      simp only at h
      cases d <;> by_cases hb : Op.bytesLess x s = true <;> by_cases he : x = s <;> simp [insS, hb, he] at h ⊢ <;> first
        | omega
        | (split <;> simp <;> omega)
    have := insF_len2 s l (insS s (d, out) x) (c + 1) h2
    simp only [List.foldl_cons, List.length_cons]; omega
theorem ins_len (l : List Str) (s : Str) : (ins l s).length ≤ l.length + 1 := by
  have : (insF s l).2.length ≤ 0 + l.length + (insF s l).1.toNat := insF_len2 s l (false, []) 0 (by simp)
  simp only [ins, List.length_append]
  cases h : (insF s l).1 <;> simp [h] at this ⊢ <;> omega

def namesS (ns : List Str) (a : Att) : List Str := if a.2 = [] then ns else ins ns (lower a.1)
def namesF (l : List Att) : List Str := l.foldl namesS []
def valsS (n : Str) (vs : List Str) (a : Att) : List Str := if lower a.1 = n then a.2.foldl ins vs else vs
def valsF (l : List Att) (n : Str) : List Str := l.foldl (valsS n) []
def sortedL (l : List Att) : List Att := (namesF l).map fun n => (n, valsF l n)

theorem namesF_take {l : List Att} {k : Nat} (h : k < l.length) : namesF (l.take (k + 1)) = namesS (namesF (l.take k)) l[k] := by
  rw [take_s h]; simp only [namesF, List.foldl_append, List.foldl_cons, List.foldl_nil]
theorem valsF_take {l : List Att} {n : Str} {k : Nat} (h : k < l.length) : valsF (l.take (k + 1)) n = valsS n (valsF (l.take k) n) l[k] := by
  rw [take_s h]; simp only [valsF, List.foldl_append, List.foldl_cons, List.foldl_nil]
theorem names_len : ∀ (l : List Att) (ns : List Str), (l.foldl namesS ns).length ≤ ns.length + l.length
  | [], ns => by simp
  | a :: l, ns => by
    have := names_len l (namesS ns a)
    have h2 : (namesS ns a).length ≤ ns.length + 1 := by
      unfold namesS; split
      · omega
      · exact ins_len _ _
    simp only [List.foldl_cons, List.length_cons]; omega
theorem insAll_len : ∀ (l ns : List Str), (l.foldl ins ns).length ≤ ns.length + l.length
  | [], ns => by simp
  | a :: l, ns => by
    have := insAll_len l (ins ns a)
    have := ins_len ns a
    simp only [List.foldl_cons, List.length_cons]; omega
def total (l : List Att) : Nat := (l.map (·.2.length)).sum
theorem vals_len (n : Str) : ∀ (l : List Att) (vs : List Str), (l.foldl (valsS n) vs).length ≤ vs.length + total l
  | [], vs => by simp [total]
  | a :: l, vs => by
    have := vals_len n l (valsS n vs a)
    have h2 : (valsS n vs a).length ≤ vs.length + a.2.length := by
      unfold valsS; split
      · exact insAll_len _ _
      · omega
    simp only [List.foldl_cons, total, List.map_cons, List.sum_cons] at this ⊢
    all_goals omega
def Fit2 (l : List Att) : Prop := Fits l ∧ total l < 500000
theorem total_take (l : List Att) (k : Nat) (h : k < l.length) : total (l.take k) + l[k].2.length ≤ total l := by
  have e : total l = total (l.take k) + (l[k].2.length + total (l.drop (k + 1))) := by
    conv => lhs; rw [← List.take_append_drop k l, List.drop_eq_getElem_cons h]
    simp only [total, List.map_append, List.map_cons, List.sum_append, List.sum_cons]
  all_goals omega

def outA (l : List Att) (ns : List Str) (i : Nat) : List D := ((ns.take i).map fun n => (n, valsF l n)).map att
theorem outA_zero (l : List Att) (ns : List Str) : outA l ns 0 = [] := rfl
theorem outA_succ (l : List Att) {ns : List Str} {i : Nat} (h : i < ns.length) : outA l ns (i + 1) = outA l ns i ++ [.agg [.str ns[i], strs (valsF l ns[i])]] := by
  rw [outA, take_s h]; simp only [List.map_append, List.map_cons, List.map_nil]; rfl
theorem outA_len (l : List Att) {ns : List Str} {i : Nat} (h : i ≤ ns.length) : (outA l ns i).length = i := by simp [outA, Nat.min_eq_left h]
theorem outA_all (l : List Att) (i : Nat) (h : (namesF l).length ≤ i) : outA l (namesF l) i = (sortedL l).map att := by rw [outA, List.take_of_length_le h]; rfl
theorem outA_width (l : List Att) (ns : List Str) (i : Nat) : ∀ u ∈ outA l ns i, width u = 2 := by
  intro u hu
  simp only [outA, List.map_map, List.mem_map] at hu
  obtain ⟨n, _, rfl⟩ := hu
  rfl

theorem sortedR_fn (l : List Att) (hl : Fit2 l) : Ctr Tryz.prog 16 [.d (atts l)] (.own true 42 ((sortedL l).map att)) := by
  refine fn_of_vwp (fun i => i == 5) (by kernel_rfl) Tryz.func16 (by kernel_rfl) rfl rfl (Nat.le_of_ble_eq_true rfl) (by kernel_rfl) rfl rfl ?_
  obtain ⟨⟨hl1, hl2⟩, hl3⟩ := hl
  simp -implicitDefEqProofs
  refine loopN l.length (fun k τ => τ 0 = .d (atts l) ∧ τ 4 = .d (.int .i64 k) ∧ τ 3 = .own false 9 ((namesF (l.take k)).map .str)) (by simp [namesF]) ?_
  rintro k τ hk ⟨h0, h4, h3⟩
  by_cases hlt : k < l.length
  · have hn := names_len (l.take k) []
    rw [List.length_take] at hn
    by_cases he : l[k].2 = []
    · simp -implicitDefEqProofs [h0, h4, h3, hlt, atts, att, strs, he]
      refine ⟨by omega, again hlt ⟨by simp [h0, atts, att, strs], by simp, ?_⟩⟩
      rw [namesF_take hlt]; simp [h3, namesS, he]
    · have he' : 0 < l[k].2.length := List.length_pos_iff.2 he
      simp -implicitDefEqProofs [h0, h4, h3, hlt, atts, att, strs, he']
      refine callK (lower_fn _ (hl2 _ (List.getElem_mem hlt)).1) ?_
      simp -implicitDefEqProofs [h0, h4, h3, hlt, atts, att, strs, he']
      have hf := ins_fn (namesF (l.take k)) (lower l[k].1) (by simp only [List.length_nil] at hn; unfold namesF; omega)
      simp only [strs] at hf
      refine callK hf ?_
      simp -implicitDefEqProofs [h0, h4, h3, hlt, atts, att, strs, he']
      refine ⟨by omega, again hlt ⟨by simp [h0, atts, att, strs], by simp, ?_⟩⟩
      rw [namesF_take hlt]; simp [namesS, he]
  · simp -implicitDefEqProofs [h0, h4, h3, hlt, atts]
    rw [List.take_of_length_le (by omega)] at h3
    have hn := names_len l []
    generalize hN : namesF l = ns at *
    rw [show List.foldl namesS [] l = namesF l from rfl, hN] at hn
    simp only [List.length_nil, Nat.zero_add] at hn
    refine loopN ns.length (fun i τ => τ 0 = .d (atts l) ∧ τ 3 = .own false 9 (ns.map .str) ∧ τ 6 = .d (.int .i64 i) ∧ τ 5 = .own true 42 (outA l ns i)) (by simp [h0, h3, hN, atts, outA_zero]) ?_
    clear h0 h3 h4 τ
    rintro i τ hi ⟨h0, h3, h6, h5⟩
    by_cases hlt2 : i < ns.length
    · simp -implicitDefEqProofs [h0, h3, h5, h6, hlt2, atts, att, strs]
      refine loopN l.length (fun k τ => τ 0 = .d (atts l) ∧ τ 3 = .own false 9 (ns.map .str) ∧ τ 6 = .d (.int .i64 i) ∧ τ 5 = .own true 42 (outA l ns i) ∧ τ 8 = .d (.int .i64 k) ∧ τ 7 = .box (.agg [.str ns[i], strs (valsF (l.take k) ns[i])])) (by simp [h0, h3, h5, h6, hN, atts, att, strs, valsF]) ?_
      clear h0 h3 h6 h5 τ hk hlt k
      rintro k τ hk ⟨h0, h3, h6, h5, h8, h7⟩
      by_cases hlt : k < l.length
      · have hv := vals_len ns[i] (l.take k) []
        have ht := total_take l k hlt
        rw [show (l.take k).foldl (valsS ns[i]) [] = valsF (l.take k) ns[i] from rfl] at hv
        have hst := valsF_take (n := ns[i]) hlt
        generalize valsF (l.take k) ns[i] = vs at *
        simp -implicitDefEqProofs [h0, h3, h5, h6, h7, h8, hlt, hlt2, atts, att, strs]
        refine loopN l[k].2.length (fun j τ => τ 0 = .d (atts l) ∧ τ 3 = .own false 9 (ns.map .str) ∧ τ 6 = .d (.int .i64 i) ∧ τ 5 = .own true 42 (outA l ns i) ∧ τ 8 = .d (.int .i64 k) ∧ τ 9 = .d (.int .i64 j) ∧ τ 7 = .box (.agg [.str ns[i], strs (if lower l[k].1 = ns[i] then (l[k].2.take j).foldl ins vs else vs)])) (by simp [h0, h3, h5, h6, h7, h8, atts, att, strs]) ?_
        clear h0 h3 h6 h5 h8 h7 τ
        rintro j τ hj ⟨h0, h3, h6, h5, h8, h9, h7⟩
        have hal := (hl2 _ (List.getElem_mem hlt))
        by_cases hn : lower l[k].1 = ns[i]
        · rw [if_pos hn] at h7
          by_cases hlt3 : j < l[k].2.length
          · simp -implicitDefEqProofs [h0, h3, h5, h6, h7, h8, h9, hlt, hlt2, hlt3, atts, att, strs]
            refine callP (lower_fn _ hal.1) ?_
            simp -implicitDefEqProofs [h0, h3, h5, h6, h7, h8, h9, hlt, hlt2, hlt3, atts, att, strs, hn]
            have hal2 := insAll_len (l[k].2.take j) vs
            have hf := ins_fn ((l[k].2.take j).foldl ins vs) l[k].2[j] (by simp only [List.length_take, List.length_nil] at hal2 hv; omega)
            simp only [strs] at hf
            refine callP hf ?_
            simp -implicitDefEqProofs [h0, h3, h5, h6, h7, h8, h9, hlt, hlt2, hlt3, atts, att, strs, hn]
            refine ⟨by omega, again hlt3 ⟨by simp [h0, atts, att, strs], by simp [h3], by simp [h6], by simp [h5], by simp [h8], by simp, ?_⟩⟩
            rw [take_s hlt3, List.foldl_append]
            simp -implicitDefEqProofs [strs]
          · simp -implicitDefEqProofs [h0, h3, h5, h6, h7, h8, h9, hlt, hlt2, hlt3, atts, att, strs]
            refine callP (lower_fn _ hal.1) ?_
            simp -implicitDefEqProofs [h0, h3, h5, h6, h7, h8, h9, hlt, hlt2, hlt3, atts, att, strs, hn]
            refine ⟨by omega, again hlt ⟨by simp [h0, atts, att, strs], by simp [h3], by simp [h6], by simp [h5], by simp, ?_⟩⟩
            rw [hst, valsS, if_pos hn]
            rw [List.take_of_length_le (by omega)] at h7
            simp -implicitDefEqProofs [h7, strs]
        · rw [if_neg hn] at h7
          simp -implicitDefEqProofs [h0, h3, h5, h6, h7, h8, h9, hlt, hlt2, atts, att, strs]
          refine callP (lower_fn _ hal.1) ?_
          simp (config := { maxSteps := 1000000 }) [h0, h3, h5, h6, h7, h8, h9, hlt, hlt2, atts, att, strs, hn]
          refine ⟨by omega, again hlt ⟨by simp [h0, atts, att, strs], by simp [h3], by simp [h6], by simp [h5], by simp, ?_⟩⟩
          rw [hst, valsS, if_neg hn]
          simp -implicitDefEqProofs [h7, strs]
      · have hw := outA_width l ns i
        rw [List.take_of_length_le (by omega)] at h7
        simp -implicitDefEqProofs [h0, h3, h5, h6, h7, h8, hlt, hlt2, atts, att, strs]
        rw [outA_len l hi]
        refine ⟨by omega, by omega, by omega, again hlt2 ⟨by simp [h0, atts, att, strs], by simp [h3], by simp, ?_⟩⟩
        simp -implicitDefEqProofs [outA_succ l hlt2, strs]
    · simp -implicitDefEqProofs [h0, h3, h5, h6, hlt2, atts, att, strs]
      rw [← hN]; exact outA_all l i (by rw [hN]; omega)
end Go.Proofs.Tz
