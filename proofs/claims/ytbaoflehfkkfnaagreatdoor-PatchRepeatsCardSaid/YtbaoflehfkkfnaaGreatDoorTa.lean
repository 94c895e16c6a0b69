/-
  What the functions that the statements about layer 46 (patch, repeats) reach compute, part 1 of 4: contracts and plain laws, for lists and strings of bounded size (each theorem states its bound).
-/
import Derived.Test.YtbaoflehfkkfnaaGreatDoorWc
import Derived.Test.YtbaoflehfkkfnaaGreatDoorProg
import Derived.KernelRfl
import Derived.Sort.Walk0
import Derived.Shelf.SlSortCmp.WholeK
import Derived.Shelf.SlSortCmp.Whole1
import Derived.Shelf.SlSortCmp.NoneTotal
import Derived.Shelf.SlicesG.Cmp
import Derived.Shelf.SlicesG.CompactS
import Derived.Shelf.SlicesG.Delete
import Derived.Shelf.SortM.Plain
import Derived.Shelf.SortM.SortNone
import Derived.Shelf.SlLaysM
import Derived.Shelf.SlLaysF
import Derived.Shelf.SlLaysF0
import Derived.Shelf.SlLaysN
import Derived.Shelf.SlGeneric
import Derived.Ground.SlgmProg
import Derived.Ground.SlgnProg
import Derived.Ground.SlsfProg
import Derived.WalkKit
import Derived.Lib.RowBridge

set_option linter.unusedSimpArgs false
set_option linter.unusedVariables false

/- Facts on the types of this translation, as rewrite rules of the abstract walk. -/
namespace Go.Proofs
open Go.Vw
@[simp] theorem Tryz.ez_1 : esz Tryz.prog 1 = some (1, 8) := by kernel_rfl
@[simp] theorem Tryz.sz_1 : szOf Tryz.prog 1 = some 1 := by kernel_rfl
@[simp] theorem Tryz.tk_1 : tyk Tryz.prog 1 = some (false, 1) := by kernel_rfl
@[simp] theorem Tryz.zd_1 : zeroD Tryz.prog 1 = some (.raw .nilFunc) := by kernel_rfl
@[simp] theorem Tryz.u_2 : Program.underlying Tryz.prog 2 = some (.int .i64) := by kernel_rfl
@[simp] theorem Tryz.se_2 : sliceE Tryz.prog 2 = none := by kernel_rfl
@[simp] theorem Tryz.ez_2 : esz Tryz.prog 2 = some (1, 8) := by kernel_rfl
@[simp] theorem Tryz.sz_2 : szOf Tryz.prog 2 = some 1 := by kernel_rfl
@[simp] theorem Tryz.tk_2 : tyk Tryz.prog 2 = some (false, 1) := by kernel_rfl
@[simp] theorem Tryz.zd_2 : zeroD Tryz.prog 2 = some (.int .i64 0) := by kernel_rfl
@[simp] theorem Tryz.u_3 : Program.underlying Tryz.prog 3 = some (.int .i64) := by kernel_rfl
@[simp] theorem Tryz.se_3 : sliceE Tryz.prog 3 = none := by kernel_rfl
@[simp] theorem Tryz.ez_3 : esz Tryz.prog 3 = some (1, 8) := by kernel_rfl
@[simp] theorem Tryz.sz_3 : szOf Tryz.prog 3 = some 1 := by kernel_rfl
@[simp] theorem Tryz.tk_3 : tyk Tryz.prog 3 = some (false, 1) := by kernel_rfl
@[simp] theorem Tryz.zd_3 : zeroD Tryz.prog 3 = some (.int .i64 0) := by kernel_rfl
@[simp] theorem Tryz.u_4 : Program.underlying Tryz.prog 4 = some .bool := by kernel_rfl
@[simp] theorem Tryz.se_4 : sliceE Tryz.prog 4 = none := by kernel_rfl
@[simp] theorem Tryz.ez_4 : esz Tryz.prog 4 = some (1, 1) := by kernel_rfl
@[simp] theorem Tryz.sz_4 : szOf Tryz.prog 4 = some 1 := by kernel_rfl
@[simp] theorem Tryz.tk_4 : tyk Tryz.prog 4 = some (false, 1) := by kernel_rfl
@[simp] theorem Tryz.zd_4 : zeroD Tryz.prog 4 = some (.bool false) := by kernel_rfl
@[simp] theorem Tryz.u_5 : Program.underlying Tryz.prog 5 = some (.int .u8) := by kernel_rfl
@[simp] theorem Tryz.se_5 : sliceE Tryz.prog 5 = none := by kernel_rfl
@[simp] theorem Tryz.ez_5 : esz Tryz.prog 5 = some (1, 1) := by kernel_rfl
@[simp] theorem Tryz.sz_5 : szOf Tryz.prog 5 = some 1 := by kernel_rfl
@[simp] theorem Tryz.tk_5 : tyk Tryz.prog 5 = some (false, 1) := by kernel_rfl
@[simp] theorem Tryz.zd_5 : zeroD Tryz.prog 5 = some (.int .u8 0) := by kernel_rfl
@[simp] theorem Tryz.u_9 : Program.underlying Tryz.prog 9 = some .string := by kernel_rfl
@[simp] theorem Tryz.se_9 : sliceE Tryz.prog 9 = none := by kernel_rfl
@[simp] theorem Tryz.ez_9 : esz Tryz.prog 9 = some (1, 16) := by kernel_rfl
@[simp] theorem Tryz.sz_9 : szOf Tryz.prog 9 = some 1 := by kernel_rfl
@[simp] theorem Tryz.tk_9 : tyk Tryz.prog 9 = some (false, 1) := by kernel_rfl
@[simp] theorem Tryz.zd_9 : zeroD Tryz.prog 9 = some (.str []) := by kernel_rfl
@[simp] theorem Tryz.u_12 : Program.underlying Tryz.prog 12 = some (.int .u64) := by kernel_rfl
@[simp] theorem Tryz.se_12 : sliceE Tryz.prog 12 = none := by kernel_rfl
@[simp] theorem Tryz.ez_12 : esz Tryz.prog 12 = some (1, 8) := by kernel_rfl
@[simp] theorem Tryz.sz_12 : szOf Tryz.prog 12 = some 1 := by kernel_rfl
@[simp] theorem Tryz.tk_12 : tyk Tryz.prog 12 = some (false, 1) := by kernel_rfl
@[simp] theorem Tryz.zd_12 : zeroD Tryz.prog 12 = some (.int .u64 0) := by kernel_rfl
@[simp] theorem Tryz.ez_13 : esz Tryz.prog 13 = some (2, 24) := by kernel_rfl
@[simp] theorem Tryz.sz_13 : szOf Tryz.prog 13 = some 2 := by kernel_rfl
@[simp] theorem Tryz.tk_13 : tyk Tryz.prog 13 = some (true, 2) := by kernel_rfl
@[simp] theorem Tryz.zd_13 : zeroD Tryz.prog 13 = some (.agg [.str [], .int .u64 0]) := by kernel_rfl
@[simp] theorem Tryz.sd_13 : structD Tryz.prog 13 = some [.str [], .int .u64 0] := by kernel_rfl
@[simp] theorem Tryz.fo_13_0 : fieldOff Tryz.prog 13 0 = some 0 := by kernel_rfl
@[simp] theorem Tryz.fo_13_1 : fieldOff Tryz.prog 13 1 = some 1 := by kernel_rfl
@[simp] theorem Tryz.u_21 : Program.underlying Tryz.prog 21 = some (.int .i32) := by kernel_rfl
@[simp] theorem Tryz.se_21 : sliceE Tryz.prog 21 = none := by kernel_rfl
@[simp] theorem Tryz.ez_21 : esz Tryz.prog 21 = some (1, 4) := by kernel_rfl
@[simp] theorem Tryz.sz_21 : szOf Tryz.prog 21 = some 1 := by kernel_rfl
@[simp] theorem Tryz.tk_21 : tyk Tryz.prog 21 = some (false, 1) := by kernel_rfl
@[simp] theorem Tryz.zd_21 : zeroD Tryz.prog 21 = some (.int .i32 0) := by kernel_rfl
@[simp] theorem Tryz.u_22 : Program.underlying Tryz.prog 22 = some (.slice 39) := by kernel_rfl
@[simp] theorem Tryz.se_22 : sliceE Tryz.prog 22 = some 39 := by kernel_rfl
@[simp] theorem Tryz.ez_22 : esz Tryz.prog 22 = some (1, 24) := by kernel_rfl
@[simp] theorem Tryz.sz_22 : szOf Tryz.prog 22 = some 1 := by kernel_rfl
@[simp] theorem Tryz.tk_22 : tyk Tryz.prog 22 = some (false, 1) := by kernel_rfl
@[simp] theorem Tryz.zd_22 : zeroD Tryz.prog 22 = some (.sl []) := by kernel_rfl
@[simp] theorem Tryz.u_23 : Program.underlying Tryz.prog 23 = some (.slice 26) := by kernel_rfl
@[simp] theorem Tryz.se_23 : sliceE Tryz.prog 23 = some 26 := by kernel_rfl
@[simp] theorem Tryz.ez_23 : esz Tryz.prog 23 = some (1, 24) := by kernel_rfl
@[simp] theorem Tryz.sz_23 : szOf Tryz.prog 23 = some 1 := by kernel_rfl
@[simp] theorem Tryz.tk_23 : tyk Tryz.prog 23 = some (false, 1) := by kernel_rfl
@[simp] theorem Tryz.zd_23 : zeroD Tryz.prog 23 = some (.sl []) := by kernel_rfl
@[simp] theorem Tryz.u_24 : Program.underlying Tryz.prog 24 = some (.slice 9) := by kernel_rfl
@[simp] theorem Tryz.se_24 : sliceE Tryz.prog 24 = some 9 := by kernel_rfl
@[simp] theorem Tryz.ez_24 : esz Tryz.prog 24 = some (1, 24) := by kernel_rfl
@[simp] theorem Tryz.sz_24 : szOf Tryz.prog 24 = some 1 := by kernel_rfl
@[simp] theorem Tryz.tk_24 : tyk Tryz.prog 24 = some (false, 1) := by kernel_rfl
@[simp] theorem Tryz.zd_24 : zeroD Tryz.prog 24 = some (.sl []) := by kernel_rfl
@[simp] theorem Tryz.ez_25 : esz Tryz.prog 25 = some (3, 56) := by kernel_rfl
@[simp] theorem Tryz.sz_25 : szOf Tryz.prog 25 = some 3 := by kernel_rfl
@[simp] theorem Tryz.tk_25 : tyk Tryz.prog 25 = some (true, 3) := by kernel_rfl
@[simp] theorem Tryz.zd_25 : zeroD Tryz.prog 25 = some (.agg [.str [], .str [], .sl []]) := by kernel_rfl
@[simp] theorem Tryz.sd_25 : structD Tryz.prog 25 = some [.str [], .str [], .sl []] := by kernel_rfl
@[simp] theorem Tryz.fo_25_0 : fieldOff Tryz.prog 25 0 = some 0 := by kernel_rfl
@[simp] theorem Tryz.fo_25_1 : fieldOff Tryz.prog 25 1 = some 1 := by kernel_rfl
@[simp] theorem Tryz.fo_25_2 : fieldOff Tryz.prog 25 2 = some 2 := by kernel_rfl
@[simp] theorem Tryz.ez_26 : esz Tryz.prog 26 = some (3, 56) := by kernel_rfl
@[simp] theorem Tryz.sz_26 : szOf Tryz.prog 26 = some 3 := by kernel_rfl
@[simp] theorem Tryz.tk_26 : tyk Tryz.prog 26 = some (true, 3) := by kernel_rfl
@[simp] theorem Tryz.zd_26 : zeroD Tryz.prog 26 = some (.agg [.str [], .str [], .sl []]) := by kernel_rfl
@[simp] theorem Tryz.sd_26 : structD Tryz.prog 26 = some [.str [], .str [], .sl []] := by kernel_rfl
@[simp] theorem Tryz.fo_26_0 : fieldOff Tryz.prog 26 0 = some 0 := by kernel_rfl
@[simp] theorem Tryz.fo_26_1 : fieldOff Tryz.prog 26 1 = some 1 := by kernel_rfl
@[simp] theorem Tryz.fo_26_2 : fieldOff Tryz.prog 26 2 = some 2 := by kernel_rfl
@[simp] theorem Tryz.ez_27 : esz Tryz.prog 27 = some (1, 8) := by kernel_rfl
@[simp] theorem Tryz.sz_27 : szOf Tryz.prog 27 = some 1 := by kernel_rfl
@[simp] theorem Tryz.tk_27 : tyk Tryz.prog 27 = some (false, 1) := by kernel_rfl
@[simp] theorem Tryz.zd_27 : zeroD Tryz.prog 27 = some (.raw .nilFunc) := by kernel_rfl
@[simp] theorem Tryz.ez_28 : esz Tryz.prog 28 = some (1, 8) := by kernel_rfl
@[simp] theorem Tryz.sz_28 : szOf Tryz.prog 28 = some 1 := by kernel_rfl
@[simp] theorem Tryz.tk_28 : tyk Tryz.prog 28 = some (false, 1) := by kernel_rfl
@[simp] theorem Tryz.zd_28 : zeroD Tryz.prog 28 = some (.raw .nilFunc) := by kernel_rfl
@[simp] theorem Tryz.ez_29 : esz Tryz.prog 29 = some (1, 8) := by kernel_rfl
@[simp] theorem Tryz.sz_29 : szOf Tryz.prog 29 = some 1 := by kernel_rfl
@[simp] theorem Tryz.tk_29 : tyk Tryz.prog 29 = some (false, 1) := by kernel_rfl
@[simp] theorem Tryz.zd_29 : zeroD Tryz.prog 29 = some (.raw .nilFunc) := by kernel_rfl
@[simp] theorem Tryz.u_30 : Program.underlying Tryz.prog 30 = some (.int .i64) := by kernel_rfl
@[simp] theorem Tryz.se_30 : sliceE Tryz.prog 30 = none := by kernel_rfl
@[simp] theorem Tryz.ez_30 : esz Tryz.prog 30 = some (1, 8) := by kernel_rfl
@[simp] theorem Tryz.sz_30 : szOf Tryz.prog 30 = some 1 := by kernel_rfl
@[simp] theorem Tryz.tk_30 : tyk Tryz.prog 30 = some (false, 1) := by kernel_rfl
@[simp] theorem Tryz.zd_30 : zeroD Tryz.prog 30 = some (.int .i64 0) := by kernel_rfl
@[simp] theorem Tryz.ez_32 : esz Tryz.prog 32 = some (1, 8) := by kernel_rfl
@[simp] theorem Tryz.sz_32 : szOf Tryz.prog 32 = some 1 := by kernel_rfl
@[simp] theorem Tryz.tk_32 : tyk Tryz.prog 32 = some (false, 1) := by kernel_rfl
@[simp] theorem Tryz.zd_32 : zeroD Tryz.prog 32 = some (.raw .nilFunc) := by kernel_rfl
@[simp] theorem Tryz.ez_34 : esz Tryz.prog 34 = some (1, 8) := by kernel_rfl
@[simp] theorem Tryz.sz_34 : szOf Tryz.prog 34 = some 1 := by kernel_rfl
@[simp] theorem Tryz.tk_34 : tyk Tryz.prog 34 = some (false, 1) := by kernel_rfl
@[simp] theorem Tryz.zd_34 : zeroD Tryz.prog 34 = some (.raw .nilFunc) := by kernel_rfl
@[simp] theorem Tryz.ez_35 : esz Tryz.prog 35 = some (1, 8) := by kernel_rfl
@[simp] theorem Tryz.sz_35 : szOf Tryz.prog 35 = some 1 := by kernel_rfl
@[simp] theorem Tryz.tk_35 : tyk Tryz.prog 35 = some (false, 1) := by kernel_rfl
@[simp] theorem Tryz.zd_35 : zeroD Tryz.prog 35 = some (.raw .nilFunc) := by kernel_rfl
@[simp] theorem Tryz.ez_36 : esz Tryz.prog 36 = some (1, 8) := by kernel_rfl
@[simp] theorem Tryz.sz_36 : szOf Tryz.prog 36 = some 1 := by kernel_rfl
@[simp] theorem Tryz.tk_36 : tyk Tryz.prog 36 = some (false, 1) := by kernel_rfl
@[simp] theorem Tryz.zd_36 : zeroD Tryz.prog 36 = some (.raw .nilFunc) := by kernel_rfl
@[simp] theorem Tryz.ez_37 : esz Tryz.prog 37 = some (1, 8) := by kernel_rfl
@[simp] theorem Tryz.sz_37 : szOf Tryz.prog 37 = some 1 := by kernel_rfl
@[simp] theorem Tryz.tk_37 : tyk Tryz.prog 37 = some (false, 1) := by kernel_rfl
@[simp] theorem Tryz.zd_37 : zeroD Tryz.prog 37 = some (.raw .nilFunc) := by kernel_rfl
@[simp] theorem Tryz.ez_38 : esz Tryz.prog 38 = some (2, 40) := by kernel_rfl
@[simp] theorem Tryz.sz_38 : szOf Tryz.prog 38 = some 2 := by kernel_rfl
@[simp] theorem Tryz.tk_38 : tyk Tryz.prog 38 = some (true, 2) := by kernel_rfl
@[simp] theorem Tryz.zd_38 : zeroD Tryz.prog 38 = some (.agg [.str [], .sl []]) := by kernel_rfl
@[simp] theorem Tryz.sd_38 : structD Tryz.prog 38 = some [.str [], .sl []] := by kernel_rfl
@[simp] theorem Tryz.fo_38_0 : fieldOff Tryz.prog 38 0 = some 0 := by kernel_rfl
@[simp] theorem Tryz.fo_38_1 : fieldOff Tryz.prog 38 1 = some 1 := by kernel_rfl
@[simp] theorem Tryz.ez_39 : esz Tryz.prog 39 = some (2, 40) := by kernel_rfl
@[simp] theorem Tryz.sz_39 : szOf Tryz.prog 39 = some 2 := by kernel_rfl
@[simp] theorem Tryz.tk_39 : tyk Tryz.prog 39 = some (true, 2) := by kernel_rfl
@[simp] theorem Tryz.zd_39 : zeroD Tryz.prog 39 = some (.agg [.str [], .sl []]) := by kernel_rfl
@[simp] theorem Tryz.sd_39 : structD Tryz.prog 39 = some [.str [], .sl []] := by kernel_rfl
@[simp] theorem Tryz.fo_39_0 : fieldOff Tryz.prog 39 0 = some 0 := by kernel_rfl
@[simp] theorem Tryz.fo_39_1 : fieldOff Tryz.prog 39 1 = some 1 := by kernel_rfl
@[simp] theorem Tryz.ez_40 : esz Tryz.prog 40 = some (1, 8) := by kernel_rfl
@[simp] theorem Tryz.sz_40 : szOf Tryz.prog 40 = some 1 := by kernel_rfl
@[simp] theorem Tryz.tk_40 : tyk Tryz.prog 40 = some (false, 1) := by kernel_rfl
@[simp] theorem Tryz.zd_40 : zeroD Tryz.prog 40 = some (.raw .nilFunc) := by kernel_rfl
@[simp] theorem Tryz.ez_42 : esz Tryz.prog 42 = some (1, 8) := by kernel_rfl
@[simp] theorem Tryz.sz_42 : szOf Tryz.prog 42 = some 1 := by kernel_rfl
@[simp] theorem Tryz.tk_42 : tyk Tryz.prog 42 = some (false, 1) := by kernel_rfl
@[simp] theorem Tryz.zd_42 : zeroD Tryz.prog 42 = some (.raw .nilFunc) := by kernel_rfl
@[simp] theorem Tryz.ez_44 : esz Tryz.prog 44 = some (1, 8) := by kernel_rfl
@[simp] theorem Tryz.sz_44 : szOf Tryz.prog 44 = some 1 := by kernel_rfl
@[simp] theorem Tryz.tk_44 : tyk Tryz.prog 44 = some (false, 1) := by kernel_rfl
@[simp] theorem Tryz.zd_44 : zeroD Tryz.prog 44 = some (.raw .nilFunc) := by kernel_rfl
@[simp] theorem Tryz.ez_45 : esz Tryz.prog 45 = some (1, 8) := by kernel_rfl
@[simp] theorem Tryz.sz_45 : szOf Tryz.prog 45 = some 1 := by kernel_rfl
@[simp] theorem Tryz.tk_45 : tyk Tryz.prog 45 = some (false, 1) := by kernel_rfl
@[simp] theorem Tryz.zd_45 : zeroD Tryz.prog 45 = some (.raw .nilFunc) := by kernel_rfl
@[simp] theorem Tryz.ez_46 : esz Tryz.prog 46 = some (1, 8) := by kernel_rfl
@[simp] theorem Tryz.sz_46 : szOf Tryz.prog 46 = some 1 := by kernel_rfl
@[simp] theorem Tryz.tk_46 : tyk Tryz.prog 46 = some (false, 1) := by kernel_rfl
@[simp] theorem Tryz.zd_46 : zeroD Tryz.prog 46 = some (.raw .nilFunc) := by kernel_rfl
@[simp] theorem Tryz.ez_47 : esz Tryz.prog 47 = some (1, 8) := by kernel_rfl
@[simp] theorem Tryz.sz_47 : szOf Tryz.prog 47 = some 1 := by kernel_rfl
@[simp] theorem Tryz.tk_47 : tyk Tryz.prog 47 = some (false, 1) := by kernel_rfl
@[simp] theorem Tryz.zd_47 : zeroD Tryz.prog 47 = some (.raw .nilFunc) := by kernel_rfl
@[simp] theorem Tryz.ez_48 : esz Tryz.prog 48 = some (1, 8) := by kernel_rfl
@[simp] theorem Tryz.sz_48 : szOf Tryz.prog 48 = some 1 := by kernel_rfl
@[simp] theorem Tryz.tk_48 : tyk Tryz.prog 48 = some (false, 1) := by kernel_rfl
@[simp] theorem Tryz.zd_48 : zeroD Tryz.prog 48 = some (.raw .nilFunc) := by kernel_rfl
@[simp] theorem Tryz.ez_50 : esz Tryz.prog 50 = some (1, 8) := by kernel_rfl
@[simp] theorem Tryz.sz_50 : szOf Tryz.prog 50 = some 1 := by kernel_rfl
@[simp] theorem Tryz.tk_50 : tyk Tryz.prog 50 = some (false, 1) := by kernel_rfl
@[simp] theorem Tryz.zd_50 : zeroD Tryz.prog 50 = some (.raw .nilFunc) := by kernel_rfl
@[simp] theorem Tryz.ez_51 : esz Tryz.prog 51 = some (1, 8) := by kernel_rfl
@[simp] theorem Tryz.sz_51 : szOf Tryz.prog 51 = some 1 := by kernel_rfl
@[simp] theorem Tryz.tk_51 : tyk Tryz.prog 51 = some (false, 1) := by kernel_rfl
@[simp] theorem Tryz.zd_51 : zeroD Tryz.prog 51 = some (.raw .nilFunc) := by kernel_rfl
@[simp] theorem Tryz.ez_53 : esz Tryz.prog 53 = some (1, 8) := by kernel_rfl
@[simp] theorem Tryz.sz_53 : szOf Tryz.prog 53 = some 1 := by kernel_rfl
@[simp] theorem Tryz.tk_53 : tyk Tryz.prog 53 = some (false, 1) := by kernel_rfl
@[simp] theorem Tryz.zd_53 : zeroD Tryz.prog 53 = some (.raw .nilFunc) := by kernel_rfl
@[simp] theorem Tryz.ez_54 : esz Tryz.prog 54 = some (1, 8) := by kernel_rfl
@[simp] theorem Tryz.sz_54 : szOf Tryz.prog 54 = some 1 := by kernel_rfl
@[simp] theorem Tryz.tk_54 : tyk Tryz.prog 54 = some (false, 1) := by kernel_rfl
@[simp] theorem Tryz.zd_54 : zeroD Tryz.prog 54 = some (.raw .nilFunc) := by kernel_rfl
@[simp] theorem Tryz.ez_55 : esz Tryz.prog 55 = some (1, 8) := by kernel_rfl
@[simp] theorem Tryz.sz_55 : szOf Tryz.prog 55 = some 1 := by kernel_rfl
@[simp] theorem Tryz.tk_55 : tyk Tryz.prog 55 = some (false, 1) := by kernel_rfl
@[simp] theorem Tryz.zd_55 : zeroD Tryz.prog 55 = some (.raw .nilFunc) := by kernel_rfl
@[simp] theorem Tryz.ez_56 : esz Tryz.prog 56 = some (1, 8) := by kernel_rfl
@[simp] theorem Tryz.sz_56 : szOf Tryz.prog 56 = some 1 := by kernel_rfl
@[simp] theorem Tryz.tk_56 : tyk Tryz.prog 56 = some (false, 1) := by kernel_rfl
@[simp] theorem Tryz.zd_56 : zeroD Tryz.prog 56 = some (.raw .nilFunc) := by kernel_rfl
@[simp] theorem Tryz.ez_57 : esz Tryz.prog 57 = some (1, 8) := by kernel_rfl
@[simp] theorem Tryz.sz_57 : szOf Tryz.prog 57 = some 1 := by kernel_rfl
@[simp] theorem Tryz.tk_57 : tyk Tryz.prog 57 = some (false, 1) := by kernel_rfl
@[simp] theorem Tryz.zd_57 : zeroD Tryz.prog 57 = some (.raw .nilFunc) := by kernel_rfl
@[simp] theorem Tryz.ez_58 : esz Tryz.prog 58 = some (1, 8) := by kernel_rfl
@[simp] theorem Tryz.sz_58 : szOf Tryz.prog 58 = some 1 := by kernel_rfl
@[simp] theorem Tryz.tk_58 : tyk Tryz.prog 58 = some (false, 1) := by kernel_rfl
@[simp] theorem Tryz.zd_58 : zeroD Tryz.prog 58 = some (.raw .nilFunc) := by kernel_rfl
@[simp] theorem Tryz.ez_60 : esz Tryz.prog 60 = some (1, 8) := by kernel_rfl
@[simp] theorem Tryz.sz_60 : szOf Tryz.prog 60 = some 1 := by kernel_rfl
@[simp] theorem Tryz.tk_60 : tyk Tryz.prog 60 = some (false, 1) := by kernel_rfl
@[simp] theorem Tryz.zd_60 : zeroD Tryz.prog 60 = some (.raw .nilFunc) := by kernel_rfl
@[simp] theorem Tryz.u_61 : Program.underlying Tryz.prog 61 = some (.pointer 64) := by kernel_rfl
@[simp] theorem Tryz.ez_61 : esz Tryz.prog 61 = some (1, 8) := by kernel_rfl
@[simp] theorem Tryz.sz_61 : szOf Tryz.prog 61 = some 1 := by kernel_rfl
@[simp] theorem Tryz.tk_61 : tyk Tryz.prog 61 = some (false, 1) := by kernel_rfl
@[simp] theorem Tryz.zd_61 : zeroD Tryz.prog 61 = some (.nilp) := by kernel_rfl
@[simp] theorem Tryz.u_62 : Program.underlying Tryz.prog 62 = some (.slice 5) := by kernel_rfl
@[simp] theorem Tryz.se_62 : sliceE Tryz.prog 62 = some 5 := by kernel_rfl
@[simp] theorem Tryz.ez_62 : esz Tryz.prog 62 = some (1, 24) := by kernel_rfl
@[simp] theorem Tryz.sz_62 : szOf Tryz.prog 62 = some 1 := by kernel_rfl
@[simp] theorem Tryz.tk_62 : tyk Tryz.prog 62 = some (false, 1) := by kernel_rfl
@[simp] theorem Tryz.zd_62 : zeroD Tryz.prog 62 = some (.sl []) := by kernel_rfl
@[simp] theorem Tryz.ez_63 : esz Tryz.prog 63 = some (2, 32) := by kernel_rfl
@[simp] theorem Tryz.sz_63 : szOf Tryz.prog 63 = some 2 := by kernel_rfl
@[simp] theorem Tryz.tk_63 : tyk Tryz.prog 63 = some (true, 2) := by kernel_rfl
@[simp] theorem Tryz.zd_63 : zeroD Tryz.prog 63 = some (.agg [.nilp, .sl []]) := by kernel_rfl
@[simp] theorem Tryz.sd_63 : structD Tryz.prog 63 = some [.nilp, .sl []] := by kernel_rfl
@[simp] theorem Tryz.fo_63_0 : fieldOff Tryz.prog 63 0 = some 0 := by kernel_rfl
@[simp] theorem Tryz.fo_63_1 : fieldOff Tryz.prog 63 1 = some 1 := by kernel_rfl
@[simp] theorem Tryz.ez_64 : esz Tryz.prog 64 = some (2, 32) := by kernel_rfl
@[simp] theorem Tryz.sz_64 : szOf Tryz.prog 64 = some 2 := by kernel_rfl
@[simp] theorem Tryz.tk_64 : tyk Tryz.prog 64 = some (true, 2) := by kernel_rfl
@[simp] theorem Tryz.zd_64 : zeroD Tryz.prog 64 = some (.agg [.nilp, .sl []]) := by kernel_rfl
@[simp] theorem Tryz.sd_64 : structD Tryz.prog 64 = some [.nilp, .sl []] := by kernel_rfl
@[simp] theorem Tryz.fo_64_0 : fieldOff Tryz.prog 64 0 = some 0 := by kernel_rfl
@[simp] theorem Tryz.fo_64_1 : fieldOff Tryz.prog 64 1 = some 1 := by kernel_rfl
@[simp] theorem Tryz.ez_68 : esz Tryz.prog 68 = some (1, 8) := by kernel_rfl
@[simp] theorem Tryz.sz_68 : szOf Tryz.prog 68 = some 1 := by kernel_rfl
@[simp] theorem Tryz.tk_68 : tyk Tryz.prog 68 = some (false, 1) := by kernel_rfl
@[simp] theorem Tryz.zd_68 : zeroD Tryz.prog 68 = some (.raw .nilFunc) := by kernel_rfl
@[simp] theorem Tryz.ez_69 : esz Tryz.prog 69 = some (1, 8) := by kernel_rfl
@[simp] theorem Tryz.sz_69 : szOf Tryz.prog 69 = some 1 := by kernel_rfl
@[simp] theorem Tryz.tk_69 : tyk Tryz.prog 69 = some (false, 1) := by kernel_rfl
@[simp] theorem Tryz.zd_69 : zeroD Tryz.prog 69 = some (.raw .nilFunc) := by kernel_rfl
@[simp] theorem Tryz.ez_70 : esz Tryz.prog 70 = some (1, 8) := by kernel_rfl
@[simp] theorem Tryz.sz_70 : szOf Tryz.prog 70 = some 1 := by kernel_rfl
@[simp] theorem Tryz.tk_70 : tyk Tryz.prog 70 = some (false, 1) := by kernel_rfl
@[simp] theorem Tryz.zd_70 : zeroD Tryz.prog 70 = some (.raw .nilFunc) := by kernel_rfl
@[simp] theorem Tryz.ez_71 : esz Tryz.prog 71 = some (1, 8) := by kernel_rfl
@[simp] theorem Tryz.sz_71 : szOf Tryz.prog 71 = some 1 := by kernel_rfl
@[simp] theorem Tryz.tk_71 : tyk Tryz.prog 71 = some (false, 1) := by kernel_rfl
@[simp] theorem Tryz.zd_71 : zeroD Tryz.prog 71 = some (.raw .nilFunc) := by kernel_rfl
@[simp] theorem Tryz.ez_72 : esz Tryz.prog 72 = some (1, 8) := by kernel_rfl
@[simp] theorem Tryz.sz_72 : szOf Tryz.prog 72 = some 1 := by kernel_rfl
@[simp] theorem Tryz.tk_72 : tyk Tryz.prog 72 = some (false, 1) := by kernel_rfl
@[simp] theorem Tryz.zd_72 : zeroD Tryz.prog 72 = some (.raw .nilFunc) := by kernel_rfl
@[simp] theorem Tryz.ez_73 : esz Tryz.prog 73 = some (1, 8) := by kernel_rfl
@[simp] theorem Tryz.sz_73 : szOf Tryz.prog 73 = some 1 := by kernel_rfl
@[simp] theorem Tryz.tk_73 : tyk Tryz.prog 73 = some (false, 1) := by kernel_rfl
@[simp] theorem Tryz.zd_73 : zeroD Tryz.prog 73 = some (.raw .nilFunc) := by kernel_rfl
@[simp] theorem Tryz.ez_74 : esz Tryz.prog 74 = some (1, 8) := by kernel_rfl
@[simp] theorem Tryz.sz_74 : szOf Tryz.prog 74 = some 1 := by kernel_rfl
@[simp] theorem Tryz.tk_74 : tyk Tryz.prog 74 = some (false, 1) := by kernel_rfl
@[simp] theorem Tryz.zd_74 : zeroD Tryz.prog 74 = some (.raw .nilFunc) := by kernel_rfl
@[simp] theorem Tryz.ez_76 : esz Tryz.prog 76 = some (1, 8) := by kernel_rfl
@[simp] theorem Tryz.sz_76 : szOf Tryz.prog 76 = some 1 := by kernel_rfl
@[simp] theorem Tryz.tk_76 : tyk Tryz.prog 76 = some (false, 1) := by kernel_rfl
@[simp] theorem Tryz.zd_76 : zeroD Tryz.prog 76 = some (.raw .nilFunc) := by kernel_rfl
@[simp] theorem Tryz.ez_77 : esz Tryz.prog 77 = some (1, 8) := by kernel_rfl
@[simp] theorem Tryz.sz_77 : szOf Tryz.prog 77 = some 1 := by kernel_rfl
@[simp] theorem Tryz.tk_77 : tyk Tryz.prog 77 = some (false, 1) := by kernel_rfl
@[simp] theorem Tryz.zd_77 : zeroD Tryz.prog 77 = some (.raw .nilFunc) := by kernel_rfl
@[simp] theorem Tryz.ez_78 : esz Tryz.prog 78 = some (1, 8) := by kernel_rfl
@[simp] theorem Tryz.sz_78 : szOf Tryz.prog 78 = some 1 := by kernel_rfl
@[simp] theorem Tryz.tk_78 : tyk Tryz.prog 78 = some (false, 1) := by kernel_rfl
@[simp] theorem Tryz.zd_78 : zeroD Tryz.prog 78 = some (.raw .nilFunc) := by kernel_rfl
@[simp] theorem Tryz.ez_79 : esz Tryz.prog 79 = some (1, 8) := by kernel_rfl
@[simp] theorem Tryz.sz_79 : szOf Tryz.prog 79 = some 1 := by kernel_rfl
@[simp] theorem Tryz.tk_79 : tyk Tryz.prog 79 = some (false, 1) := by kernel_rfl
@[simp] theorem Tryz.zd_79 : zeroD Tryz.prog 79 = some (.raw .nilFunc) := by kernel_rfl
@[simp] theorem Tryz.ez_80 : esz Tryz.prog 80 = some (1, 8) := by kernel_rfl
@[simp] theorem Tryz.sz_80 : szOf Tryz.prog 80 = some 1 := by kernel_rfl
@[simp] theorem Tryz.tk_80 : tyk Tryz.prog 80 = some (false, 1) := by kernel_rfl
@[simp] theorem Tryz.zd_80 : zeroD Tryz.prog 80 = some (.raw .nilFunc) := by kernel_rfl
@[simp] theorem Tryz.ez_81 : esz Tryz.prog 81 = some (1, 8) := by kernel_rfl
@[simp] theorem Tryz.sz_81 : szOf Tryz.prog 81 = some 1 := by kernel_rfl
@[simp] theorem Tryz.tk_81 : tyk Tryz.prog 81 = some (false, 1) := by kernel_rfl
@[simp] theorem Tryz.zd_81 : zeroD Tryz.prog 81 = some (.raw .nilFunc) := by kernel_rfl
@[simp] theorem Tryz.ez_82 : esz Tryz.prog 82 = some (1, 8) := by kernel_rfl
@[simp] theorem Tryz.sz_82 : szOf Tryz.prog 82 = some 1 := by kernel_rfl
@[simp] theorem Tryz.tk_82 : tyk Tryz.prog 82 = some (false, 1) := by kernel_rfl
@[simp] theorem Tryz.zd_82 : zeroD Tryz.prog 82 = some (.raw .nilFunc) := by kernel_rfl
@[simp] theorem Tryz.ez_83 : esz Tryz.prog 83 = some (1, 8) := by kernel_rfl
@[simp] theorem Tryz.sz_83 : szOf Tryz.prog 83 = some 1 := by kernel_rfl
@[simp] theorem Tryz.tk_83 : tyk Tryz.prog 83 = some (false, 1) := by kernel_rfl
@[simp] theorem Tryz.zd_83 : zeroD Tryz.prog 83 = some (.raw .nilFunc) := by kernel_rfl
@[simp] theorem Tryz.ez_84 : esz Tryz.prog 84 = some (1, 8) := by kernel_rfl
@[simp] theorem Tryz.sz_84 : szOf Tryz.prog 84 = some 1 := by kernel_rfl
@[simp] theorem Tryz.tk_84 : tyk Tryz.prog 84 = some (false, 1) := by kernel_rfl
@[simp] theorem Tryz.zd_84 : zeroD Tryz.prog 84 = some (.raw .nilFunc) := by kernel_rfl
@[simp] theorem Tryz.ez_85 : esz Tryz.prog 85 = some (1, 8) := by kernel_rfl
@[simp] theorem Tryz.sz_85 : szOf Tryz.prog 85 = some 1 := by kernel_rfl
@[simp] theorem Tryz.tk_85 : tyk Tryz.prog 85 = some (false, 1) := by kernel_rfl
@[simp] theorem Tryz.zd_85 : zeroD Tryz.prog 85 = some (.raw .nilFunc) := by kernel_rfl
@[simp] theorem Tryz.ez_86 : esz Tryz.prog 86 = some (1, 8) := by kernel_rfl
@[simp] theorem Tryz.sz_86 : szOf Tryz.prog 86 = some 1 := by kernel_rfl
@[simp] theorem Tryz.tk_86 : tyk Tryz.prog 86 = some (false, 1) := by kernel_rfl
@[simp] theorem Tryz.zd_86 : zeroD Tryz.prog 86 = some (.raw .nilFunc) := by kernel_rfl
@[simp] theorem Tryz.ez_87 : esz Tryz.prog 87 = some (1, 8) := by kernel_rfl
@[simp] theorem Tryz.sz_87 : szOf Tryz.prog 87 = some 1 := by kernel_rfl
@[simp] theorem Tryz.tk_87 : tyk Tryz.prog 87 = some (false, 1) := by kernel_rfl
@[simp] theorem Tryz.zd_87 : zeroD Tryz.prog 87 = some (.raw .nilFunc) := by kernel_rfl
@[simp] theorem Tryz.ez_88 : esz Tryz.prog 88 = some (1, 8) := by kernel_rfl
@[simp] theorem Tryz.sz_88 : szOf Tryz.prog 88 = some 1 := by kernel_rfl
@[simp] theorem Tryz.tk_88 : tyk Tryz.prog 88 = some (false, 1) := by kernel_rfl
@[simp] theorem Tryz.zd_88 : zeroD Tryz.prog 88 = some (.raw .nilFunc) := by kernel_rfl
@[simp] theorem Tryz.ez_89 : esz Tryz.prog 89 = some (1, 8) := by kernel_rfl
@[simp] theorem Tryz.sz_89 : szOf Tryz.prog 89 = some 1 := by kernel_rfl
@[simp] theorem Tryz.tk_89 : tyk Tryz.prog 89 = some (false, 1) := by kernel_rfl
@[simp] theorem Tryz.zd_89 : zeroD Tryz.prog 89 = some (.raw .nilFunc) := by kernel_rfl
@[simp] theorem Tryz.ez_90 : esz Tryz.prog 90 = some (1, 8) := by kernel_rfl
@[simp] theorem Tryz.sz_90 : szOf Tryz.prog 90 = some 1 := by kernel_rfl
@[simp] theorem Tryz.tk_90 : tyk Tryz.prog 90 = some (false, 1) := by kernel_rfl
@[simp] theorem Tryz.zd_90 : zeroD Tryz.prog 90 = some (.raw .nilFunc) := by kernel_rfl
@[simp] theorem Tryz.ez_91 : esz Tryz.prog 91 = some (1, 8) := by kernel_rfl
@[simp] theorem Tryz.sz_91 : szOf Tryz.prog 91 = some 1 := by kernel_rfl
@[simp] theorem Tryz.tk_91 : tyk Tryz.prog 91 = some (false, 1) := by kernel_rfl
@[simp] theorem Tryz.zd_91 : zeroD Tryz.prog 91 = some (.raw .nilFunc) := by kernel_rfl
@[simp] theorem Tryz.ez_92 : esz Tryz.prog 92 = some (1, 8) := by kernel_rfl
@[simp] theorem Tryz.sz_92 : szOf Tryz.prog 92 = some 1 := by kernel_rfl
@[simp] theorem Tryz.tk_92 : tyk Tryz.prog 92 = some (false, 1) := by kernel_rfl
@[simp] theorem Tryz.zd_92 : zeroD Tryz.prog 92 = some (.raw .nilFunc) := by kernel_rfl
@[simp] theorem Tryz.ez_93 : esz Tryz.prog 93 = some (1, 8) := by kernel_rfl
@[simp] theorem Tryz.sz_93 : szOf Tryz.prog 93 = some 1 := by kernel_rfl
@[simp] theorem Tryz.tk_93 : tyk Tryz.prog 93 = some (false, 1) := by kernel_rfl
@[simp] theorem Tryz.zd_93 : zeroD Tryz.prog 93 = some (.raw .nilFunc) := by kernel_rfl
@[simp] theorem Tryz.ez_94 : esz Tryz.prog 94 = some (1, 8) := by kernel_rfl
@[simp] theorem Tryz.sz_94 : szOf Tryz.prog 94 = some 1 := by kernel_rfl
@[simp] theorem Tryz.tk_94 : tyk Tryz.prog 94 = some (false, 1) := by kernel_rfl
@[simp] theorem Tryz.zd_94 : zeroD Tryz.prog 94 = some (.raw .nilFunc) := by kernel_rfl
@[simp] theorem Tryz.ez_95 : esz Tryz.prog 95 = some (1, 8) := by kernel_rfl
@[simp] theorem Tryz.sz_95 : szOf Tryz.prog 95 = some 1 := by kernel_rfl
@[simp] theorem Tryz.tk_95 : tyk Tryz.prog 95 = some (false, 1) := by kernel_rfl
@[simp] theorem Tryz.zd_95 : zeroD Tryz.prog 95 = some (.raw .nilFunc) := by kernel_rfl
@[simp] theorem Tryz.ez_96 : esz Tryz.prog 96 = some (1, 8) := by kernel_rfl
@[simp] theorem Tryz.sz_96 : szOf Tryz.prog 96 = some 1 := by kernel_rfl
@[simp] theorem Tryz.tk_96 : tyk Tryz.prog 96 = some (false, 1) := by kernel_rfl
@[simp] theorem Tryz.zd_96 : zeroD Tryz.prog 96 = some (.raw .nilFunc) := by kernel_rfl
@[simp] theorem Tryz.u_97 : Program.underlying Tryz.prog 97 = some (.int .u64) := by kernel_rfl
@[simp] theorem Tryz.se_97 : sliceE Tryz.prog 97 = none := by kernel_rfl
@[simp] theorem Tryz.ez_97 : esz Tryz.prog 97 = some (1, 8) := by kernel_rfl
@[simp] theorem Tryz.sz_97 : szOf Tryz.prog 97 = some 1 := by kernel_rfl
@[simp] theorem Tryz.tk_97 : tyk Tryz.prog 97 = some (false, 1) := by kernel_rfl
@[simp] theorem Tryz.zd_97 : zeroD Tryz.prog 97 = some (.int .u64 0) := by kernel_rfl
@[simp] theorem Tryz.u_98 : Program.underlying Tryz.prog 98 = some (.pointer 5) := by kernel_rfl
@[simp] theorem Tryz.ez_98 : esz Tryz.prog 98 = some (1, 8) := by kernel_rfl
@[simp] theorem Tryz.sz_98 : szOf Tryz.prog 98 = some 1 := by kernel_rfl
@[simp] theorem Tryz.tk_98 : tyk Tryz.prog 98 = some (false, 1) := by kernel_rfl
@[simp] theorem Tryz.zd_98 : zeroD Tryz.prog 98 = some (.nilp) := by kernel_rfl
@[simp] theorem Tryz.ez_99 : esz Tryz.prog 99 = some (1, 8) := by kernel_rfl
@[simp] theorem Tryz.sz_99 : szOf Tryz.prog 99 = some 1 := by kernel_rfl
@[simp] theorem Tryz.tk_99 : tyk Tryz.prog 99 = some (false, 1) := by kernel_rfl
@[simp] theorem Tryz.zd_99 : zeroD Tryz.prog 99 = some (.raw .nilFunc) := by kernel_rfl
@[simp] theorem Tryz.ez_100 : esz Tryz.prog 100 = some (1, 8) := by kernel_rfl
@[simp] theorem Tryz.sz_100 : szOf Tryz.prog 100 = some 1 := by kernel_rfl
@[simp] theorem Tryz.tk_100 : tyk Tryz.prog 100 = some (false, 1) := by kernel_rfl
@[simp] theorem Tryz.zd_100 : zeroD Tryz.prog 100 = some (.raw .nilFunc) := by kernel_rfl
@[simp] theorem Tryz.ez_101 : esz Tryz.prog 101 = some (1, 8) := by kernel_rfl
@[simp] theorem Tryz.sz_101 : szOf Tryz.prog 101 = some 1 := by kernel_rfl
@[simp] theorem Tryz.tk_101 : tyk Tryz.prog 101 = some (false, 1) := by kernel_rfl
@[simp] theorem Tryz.zd_101 : zeroD Tryz.prog 101 = some (.raw .nilFunc) := by kernel_rfl
@[simp] theorem Tryz.ez_102 : esz Tryz.prog 102 = some (1, 8) := by kernel_rfl
@[simp] theorem Tryz.sz_102 : szOf Tryz.prog 102 = some 1 := by kernel_rfl
@[simp] theorem Tryz.tk_102 : tyk Tryz.prog 102 = some (false, 1) := by kernel_rfl
@[simp] theorem Tryz.zd_102 : zeroD Tryz.prog 102 = some (.raw .nilFunc) := by kernel_rfl
@[simp] theorem Tryz.ez_103 : esz Tryz.prog 103 = some (1, 8) := by kernel_rfl
@[simp] theorem Tryz.sz_103 : szOf Tryz.prog 103 = some 1 := by kernel_rfl
@[simp] theorem Tryz.tk_103 : tyk Tryz.prog 103 = some (false, 1) := by kernel_rfl
@[simp] theorem Tryz.zd_103 : zeroD Tryz.prog 103 = some (.raw .nilFunc) := by kernel_rfl
@[simp] theorem Tryz.ez_104 : esz Tryz.prog 104 = some (1, 8) := by kernel_rfl
@[simp] theorem Tryz.sz_104 : szOf Tryz.prog 104 = some 1 := by kernel_rfl
@[simp] theorem Tryz.tk_104 : tyk Tryz.prog 104 = some (false, 1) := by kernel_rfl
@[simp] theorem Tryz.zd_104 : zeroD Tryz.prog 104 = some (.raw .nilFunc) := by kernel_rfl
@[simp] theorem Tryz.ez_105 : esz Tryz.prog 105 = some (1, 8) := by kernel_rfl
@[simp] theorem Tryz.sz_105 : szOf Tryz.prog 105 = some 1 := by kernel_rfl
@[simp] theorem Tryz.tk_105 : tyk Tryz.prog 105 = some (false, 1) := by kernel_rfl
@[simp] theorem Tryz.zd_105 : zeroD Tryz.prog 105 = some (.raw .nilFunc) := by kernel_rfl
@[simp] theorem Tryz.ez_106 : esz Tryz.prog 106 = some (1, 8) := by kernel_rfl
@[simp] theorem Tryz.sz_106 : szOf Tryz.prog 106 = some 1 := by kernel_rfl
@[simp] theorem Tryz.tk_106 : tyk Tryz.prog 106 = some (false, 1) := by kernel_rfl
@[simp] theorem Tryz.zd_106 : zeroD Tryz.prog 106 = some (.raw .nilFunc) := by kernel_rfl
@[simp] theorem Tryz.ez_107 : esz Tryz.prog 107 = some (1, 8) := by kernel_rfl
@[simp] theorem Tryz.sz_107 : szOf Tryz.prog 107 = some 1 := by kernel_rfl
@[simp] theorem Tryz.tk_107 : tyk Tryz.prog 107 = some (false, 1) := by kernel_rfl
@[simp] theorem Tryz.zd_107 : zeroD Tryz.prog 107 = some (.raw .nilFunc) := by kernel_rfl
@[simp] theorem Tryz.ez_108 : esz Tryz.prog 108 = some (1, 8) := by kernel_rfl
@[simp] theorem Tryz.sz_108 : szOf Tryz.prog 108 = some 1 := by kernel_rfl
@[simp] theorem Tryz.tk_108 : tyk Tryz.prog 108 = some (false, 1) := by kernel_rfl
@[simp] theorem Tryz.zd_108 : zeroD Tryz.prog 108 = some (.raw .nilFunc) := by kernel_rfl
@[simp] theorem Tryz.ez_109 : esz Tryz.prog 109 = some (1, 8) := by kernel_rfl
@[simp] theorem Tryz.sz_109 : szOf Tryz.prog 109 = some 1 := by kernel_rfl
@[simp] theorem Tryz.tk_109 : tyk Tryz.prog 109 = some (false, 1) := by kernel_rfl
@[simp] theorem Tryz.zd_109 : zeroD Tryz.prog 109 = some (.raw .nilFunc) := by kernel_rfl
@[simp] theorem Tryz.ez_110 : esz Tryz.prog 110 = some (1, 8) := by kernel_rfl
@[simp] theorem Tryz.sz_110 : szOf Tryz.prog 110 = some 1 := by kernel_rfl
@[simp] theorem Tryz.tk_110 : tyk Tryz.prog 110 = some (false, 1) := by kernel_rfl
@[simp] theorem Tryz.zd_110 : zeroD Tryz.prog 110 = some (.raw .nilFunc) := by kernel_rfl
@[simp] theorem Tryz.ez_112 : esz Tryz.prog 112 = some (1, 8) := by kernel_rfl
@[simp] theorem Tryz.sz_112 : szOf Tryz.prog 112 = some 1 := by kernel_rfl
@[simp] theorem Tryz.tk_112 : tyk Tryz.prog 112 = some (false, 1) := by kernel_rfl
@[simp] theorem Tryz.zd_112 : zeroD Tryz.prog 112 = some (.raw .nilFunc) := by kernel_rfl
@[simp] theorem Tryz.ez_113 : esz Tryz.prog 113 = some (1, 8) := by kernel_rfl
@[simp] theorem Tryz.sz_113 : szOf Tryz.prog 113 = some 1 := by kernel_rfl
@[simp] theorem Tryz.tk_113 : tyk Tryz.prog 113 = some (false, 1) := by kernel_rfl
@[simp] theorem Tryz.zd_113 : zeroD Tryz.prog 113 = some (.raw .nilFunc) := by kernel_rfl
@[simp] theorem Tryz.ez_114 : esz Tryz.prog 114 = some (1, 8) := by kernel_rfl
@[simp] theorem Tryz.sz_114 : szOf Tryz.prog 114 = some 1 := by kernel_rfl
@[simp] theorem Tryz.tk_114 : tyk Tryz.prog 114 = some (false, 1) := by kernel_rfl
@[simp] theorem Tryz.zd_114 : zeroD Tryz.prog 114 = some (.raw .nilFunc) := by kernel_rfl
@[simp] theorem Tryz.u_115 : Program.underlying Tryz.prog 115 = some (.array 256 4) := by kernel_rfl
@[simp] theorem Tryz.ez_115 : esz Tryz.prog 115 = some (256, 256) := by kernel_rfl
@[simp] theorem Tryz.sz_115 : szOf Tryz.prog 115 = some 256 := by kernel_rfl
@[simp] theorem Tryz.tk_115 : tyk Tryz.prog 115 = some (true, 256) := by kernel_rfl
@[simp] theorem Tryz.ez_118 : esz Tryz.prog 118 = some (1, 8) := by kernel_rfl
@[simp] theorem Tryz.sz_118 : szOf Tryz.prog 118 = some 1 := by kernel_rfl
@[simp] theorem Tryz.tk_118 : tyk Tryz.prog 118 = some (false, 1) := by kernel_rfl
@[simp] theorem Tryz.zd_118 : zeroD Tryz.prog 118 = some (.raw .nilFunc) := by kernel_rfl
@[simp] theorem Tryz.ez_119 : esz Tryz.prog 119 = some (1, 8) := by kernel_rfl
@[simp] theorem Tryz.sz_119 : szOf Tryz.prog 119 = some 1 := by kernel_rfl
@[simp] theorem Tryz.tk_119 : tyk Tryz.prog 119 = some (false, 1) := by kernel_rfl
@[simp] theorem Tryz.zd_119 : zeroD Tryz.prog 119 = some (.raw .nilFunc) := by kernel_rfl
@[simp] theorem Tryz.ez_121 : esz Tryz.prog 121 = some (1, 8) := by kernel_rfl
@[simp] theorem Tryz.sz_121 : szOf Tryz.prog 121 = some 1 := by kernel_rfl
@[simp] theorem Tryz.tk_121 : tyk Tryz.prog 121 = some (false, 1) := by kernel_rfl
@[simp] theorem Tryz.zd_121 : zeroD Tryz.prog 121 = some (.raw .nilFunc) := by kernel_rfl
@[simp] theorem Tryz.ez_124 : esz Tryz.prog 124 = some (1, 8) := by kernel_rfl
@[simp] theorem Tryz.sz_124 : szOf Tryz.prog 124 = some 1 := by kernel_rfl
@[simp] theorem Tryz.tk_124 : tyk Tryz.prog 124 = some (false, 1) := by kernel_rfl
@[simp] theorem Tryz.zd_124 : zeroD Tryz.prog 124 = some (.raw .nilFunc) := by kernel_rfl
@[simp] theorem Tryz.ez_125 : esz Tryz.prog 125 = some (1, 8) := by kernel_rfl
@[simp] theorem Tryz.sz_125 : szOf Tryz.prog 125 = some 1 := by kernel_rfl
@[simp] theorem Tryz.tk_125 : tyk Tryz.prog 125 = some (false, 1) := by kernel_rfl
@[simp] theorem Tryz.zd_125 : zeroD Tryz.prog 125 = some (.raw .nilFunc) := by kernel_rfl
@[simp] theorem Tryz.ez_127 : esz Tryz.prog 127 = some (1, 8) := by kernel_rfl
@[simp] theorem Tryz.sz_127 : szOf Tryz.prog 127 = some 1 := by kernel_rfl
@[simp] theorem Tryz.tk_127 : tyk Tryz.prog 127 = some (false, 1) := by kernel_rfl
@[simp] theorem Tryz.zd_127 : zeroD Tryz.prog 127 = some (.raw .nilFunc) := by kernel_rfl
@[simp] theorem Tryz.ez_128 : esz Tryz.prog 128 = some (1, 8) := by kernel_rfl
@[simp] theorem Tryz.sz_128 : szOf Tryz.prog 128 = some 1 := by kernel_rfl
@[simp] theorem Tryz.tk_128 : tyk Tryz.prog 128 = some (false, 1) := by kernel_rfl
@[simp] theorem Tryz.zd_128 : zeroD Tryz.prog 128 = some (.raw .nilFunc) := by kernel_rfl
@[simp] theorem Tryz.u_129 : Program.underlying Tryz.prog 129 = some (.int .u32) := by kernel_rfl
@[simp] theorem Tryz.se_129 : sliceE Tryz.prog 129 = none := by kernel_rfl
@[simp] theorem Tryz.ez_129 : esz Tryz.prog 129 = some (1, 4) := by kernel_rfl
@[simp] theorem Tryz.sz_129 : szOf Tryz.prog 129 = some 1 := by kernel_rfl
@[simp] theorem Tryz.tk_129 : tyk Tryz.prog 129 = some (false, 1) := by kernel_rfl
@[simp] theorem Tryz.zd_129 : zeroD Tryz.prog 129 = some (.int .u32 0) := by kernel_rfl
@[simp] theorem Tryz.ez_130 : esz Tryz.prog 130 = some (1, 8) := by kernel_rfl
@[simp] theorem Tryz.sz_130 : szOf Tryz.prog 130 = some 1 := by kernel_rfl
@[simp] theorem Tryz.tk_130 : tyk Tryz.prog 130 = some (false, 1) := by kernel_rfl
@[simp] theorem Tryz.zd_130 : zeroD Tryz.prog 130 = some (.raw .nilFunc) := by kernel_rfl
@[simp] theorem Tryz.u_131 : Program.underlying Tryz.prog 131 = some (.int .u64) := by kernel_rfl
@[simp] theorem Tryz.se_131 : sliceE Tryz.prog 131 = none := by kernel_rfl
@[simp] theorem Tryz.ez_131 : esz Tryz.prog 131 = some (1, 8) := by kernel_rfl
@[simp] theorem Tryz.sz_131 : szOf Tryz.prog 131 = some 1 := by kernel_rfl
@[simp] theorem Tryz.tk_131 : tyk Tryz.prog 131 = some (false, 1) := by kernel_rfl
@[simp] theorem Tryz.zd_131 : zeroD Tryz.prog 131 = some (.int .u64 0) := by kernel_rfl
@[simp] theorem Tryz.ez_132 : esz Tryz.prog 132 = some (1, 8) := by kernel_rfl
@[simp] theorem Tryz.sz_132 : szOf Tryz.prog 132 = some 1 := by kernel_rfl
@[simp] theorem Tryz.tk_132 : tyk Tryz.prog 132 = some (false, 1) := by kernel_rfl
@[simp] theorem Tryz.zd_132 : zeroD Tryz.prog 132 = some (.raw .nilFunc) := by kernel_rfl
@[simp] theorem Tryz.ez_133 : esz Tryz.prog 133 = some (1, 8) := by kernel_rfl
@[simp] theorem Tryz.sz_133 : szOf Tryz.prog 133 = some 1 := by kernel_rfl
@[simp] theorem Tryz.tk_133 : tyk Tryz.prog 133 = some (false, 1) := by kernel_rfl
@[simp] theorem Tryz.zd_133 : zeroD Tryz.prog 133 = some (.raw .nilFunc) := by kernel_rfl
@[simp] theorem Tryz.ez_134 : esz Tryz.prog 134 = some (1, 8) := by kernel_rfl
@[simp] theorem Tryz.sz_134 : szOf Tryz.prog 134 = some 1 := by kernel_rfl
@[simp] theorem Tryz.tk_134 : tyk Tryz.prog 134 = some (false, 1) := by kernel_rfl
@[simp] theorem Tryz.zd_134 : zeroD Tryz.prog 134 = some (.raw .nilFunc) := by kernel_rfl
@[simp] theorem Tryz.ez_135 : esz Tryz.prog 135 = some (1, 8) := by kernel_rfl
@[simp] theorem Tryz.sz_135 : szOf Tryz.prog 135 = some 1 := by kernel_rfl
@[simp] theorem Tryz.tk_135 : tyk Tryz.prog 135 = some (false, 1) := by kernel_rfl
@[simp] theorem Tryz.zd_135 : zeroD Tryz.prog 135 = some (.raw .nilFunc) := by kernel_rfl
@[simp] theorem Tryz.ez_136 : esz Tryz.prog 136 = some (1, 8) := by kernel_rfl
@[simp] theorem Tryz.sz_136 : szOf Tryz.prog 136 = some 1 := by kernel_rfl
@[simp] theorem Tryz.tk_136 : tyk Tryz.prog 136 = some (false, 1) := by kernel_rfl
@[simp] theorem Tryz.zd_136 : zeroD Tryz.prog 136 = some (.raw .nilFunc) := by kernel_rfl
@[simp] theorem Tryz.ez_137 : esz Tryz.prog 137 = some (1, 8) := by kernel_rfl
@[simp] theorem Tryz.sz_137 : szOf Tryz.prog 137 = some 1 := by kernel_rfl
@[simp] theorem Tryz.tk_137 : tyk Tryz.prog 137 = some (false, 1) := by kernel_rfl
@[simp] theorem Tryz.zd_137 : zeroD Tryz.prog 137 = some (.raw .nilFunc) := by kernel_rfl
@[simp] theorem Tryz.ez_138 : esz Tryz.prog 138 = some (1, 8) := by kernel_rfl
@[simp] theorem Tryz.sz_138 : szOf Tryz.prog 138 = some 1 := by kernel_rfl
@[simp] theorem Tryz.tk_138 : tyk Tryz.prog 138 = some (false, 1) := by kernel_rfl
@[simp] theorem Tryz.zd_138 : zeroD Tryz.prog 138 = some (.raw .nilFunc) := by kernel_rfl
@[simp] theorem Tryz.ez_140 : esz Tryz.prog 140 = some (1, 8) := by kernel_rfl
@[simp] theorem Tryz.sz_140 : szOf Tryz.prog 140 = some 1 := by kernel_rfl
@[simp] theorem Tryz.tk_140 : tyk Tryz.prog 140 = some (false, 1) := by kernel_rfl
@[simp] theorem Tryz.zd_140 : zeroD Tryz.prog 140 = some (.raw .nilFunc) := by kernel_rfl
@[simp] theorem Tryz.ez_142 : esz Tryz.prog 142 = some (1, 8) := by kernel_rfl
@[simp] theorem Tryz.sz_142 : szOf Tryz.prog 142 = some 1 := by kernel_rfl
@[simp] theorem Tryz.tk_142 : tyk Tryz.prog 142 = some (false, 1) := by kernel_rfl
@[simp] theorem Tryz.zd_142 : zeroD Tryz.prog 142 = some (.raw .nilFunc) := by kernel_rfl
@[simp] theorem Tryz.ez_143 : esz Tryz.prog 143 = some (1, 8) := by kernel_rfl
@[simp] theorem Tryz.sz_143 : szOf Tryz.prog 143 = some 1 := by kernel_rfl
@[simp] theorem Tryz.tk_143 : tyk Tryz.prog 143 = some (false, 1) := by kernel_rfl
@[simp] theorem Tryz.zd_143 : zeroD Tryz.prog 143 = some (.raw .nilFunc) := by kernel_rfl
@[simp] theorem Tryz.ez_145 : esz Tryz.prog 145 = some (1, 8) := by kernel_rfl
@[simp] theorem Tryz.sz_145 : szOf Tryz.prog 145 = some 1 := by kernel_rfl
@[simp] theorem Tryz.tk_145 : tyk Tryz.prog 145 = some (false, 1) := by kernel_rfl
@[simp] theorem Tryz.zd_145 : zeroD Tryz.prog 145 = some (.raw .nilFunc) := by kernel_rfl
@[simp] theorem Tryz.ez_146 : esz Tryz.prog 146 = some (1, 8) := by kernel_rfl
@[simp] theorem Tryz.sz_146 : szOf Tryz.prog 146 = some 1 := by kernel_rfl
@[simp] theorem Tryz.tk_146 : tyk Tryz.prog 146 = some (false, 1) := by kernel_rfl
@[simp] theorem Tryz.zd_146 : zeroD Tryz.prog 146 = some (.raw .nilFunc) := by kernel_rfl
@[simp] theorem Tryz.ez_147 : esz Tryz.prog 147 = some (1, 8) := by kernel_rfl
@[simp] theorem Tryz.sz_147 : szOf Tryz.prog 147 = some 1 := by kernel_rfl
@[simp] theorem Tryz.tk_147 : tyk Tryz.prog 147 = some (false, 1) := by kernel_rfl
@[simp] theorem Tryz.zd_147 : zeroD Tryz.prog 147 = some (.raw .nilFunc) := by kernel_rfl
@[simp] theorem Tryz.u_148 : Program.underlying Tryz.prog 148 = some (.pointer 3) := by kernel_rfl
@[simp] theorem Tryz.ez_148 : esz Tryz.prog 148 = some (1, 8) := by kernel_rfl
@[simp] theorem Tryz.sz_148 : szOf Tryz.prog 148 = some 1 := by kernel_rfl
@[simp] theorem Tryz.tk_148 : tyk Tryz.prog 148 = some (false, 1) := by kernel_rfl
@[simp] theorem Tryz.zd_148 : zeroD Tryz.prog 148 = some (.nilp) := by kernel_rfl
@[simp] theorem Tryz.ez_149 : esz Tryz.prog 149 = some (1, 8) := by kernel_rfl
@[simp] theorem Tryz.sz_149 : szOf Tryz.prog 149 = some 1 := by kernel_rfl
@[simp] theorem Tryz.tk_149 : tyk Tryz.prog 149 = some (false, 1) := by kernel_rfl
@[simp] theorem Tryz.zd_149 : zeroD Tryz.prog 149 = some (.raw .nilFunc) := by kernel_rfl
@[simp] theorem Tryz.ez_150 : esz Tryz.prog 150 = some (1, 8) := by kernel_rfl
@[simp] theorem Tryz.sz_150 : szOf Tryz.prog 150 = some 1 := by kernel_rfl
@[simp] theorem Tryz.tk_150 : tyk Tryz.prog 150 = some (false, 1) := by kernel_rfl
@[simp] theorem Tryz.zd_150 : zeroD Tryz.prog 150 = some (.raw .nilFunc) := by kernel_rfl
@[simp] theorem Tryz.ez_151 : esz Tryz.prog 151 = some (1, 8) := by kernel_rfl
@[simp] theorem Tryz.sz_151 : szOf Tryz.prog 151 = some 1 := by kernel_rfl
@[simp] theorem Tryz.tk_151 : tyk Tryz.prog 151 = some (false, 1) := by kernel_rfl
@[simp] theorem Tryz.zd_151 : zeroD Tryz.prog 151 = some (.raw .nilFunc) := by kernel_rfl
@[simp] theorem Tryz.ez_152 : esz Tryz.prog 152 = some (1, 8) := by kernel_rfl
@[simp] theorem Tryz.sz_152 : szOf Tryz.prog 152 = some 1 := by kernel_rfl
@[simp] theorem Tryz.tk_152 : tyk Tryz.prog 152 = some (false, 1) := by kernel_rfl
@[simp] theorem Tryz.zd_152 : zeroD Tryz.prog 152 = some (.raw .nilFunc) := by kernel_rfl
@[simp] theorem Tryz.ez_153 : esz Tryz.prog 153 = some (1, 8) := by kernel_rfl
@[simp] theorem Tryz.sz_153 : szOf Tryz.prog 153 = some 1 := by kernel_rfl
@[simp] theorem Tryz.tk_153 : tyk Tryz.prog 153 = some (false, 1) := by kernel_rfl
@[simp] theorem Tryz.zd_153 : zeroD Tryz.prog 153 = some (.raw .nilFunc) := by kernel_rfl
@[simp] theorem Tryz.ez_156 : esz Tryz.prog 156 = some (1, 8) := by kernel_rfl
@[simp] theorem Tryz.sz_156 : szOf Tryz.prog 156 = some 1 := by kernel_rfl
@[simp] theorem Tryz.tk_156 : tyk Tryz.prog 156 = some (false, 1) := by kernel_rfl
@[simp] theorem Tryz.zd_156 : zeroD Tryz.prog 156 = some (.raw .nilFunc) := by kernel_rfl
@[simp] theorem Tryz.ez_157 : esz Tryz.prog 157 = some (1, 8) := by kernel_rfl
@[simp] theorem Tryz.sz_157 : szOf Tryz.prog 157 = some 1 := by kernel_rfl
@[simp] theorem Tryz.tk_157 : tyk Tryz.prog 157 = some (false, 1) := by kernel_rfl
@[simp] theorem Tryz.zd_157 : zeroD Tryz.prog 157 = some (.raw .nilFunc) := by kernel_rfl
@[simp] theorem Tryz.u_158 : Program.underlying Tryz.prog 158 = some (.array 256 5) := by kernel_rfl
@[simp] theorem Tryz.ez_158 : esz Tryz.prog 158 = some (256, 256) := by kernel_rfl
@[simp] theorem Tryz.sz_158 : szOf Tryz.prog 158 = some 256 := by kernel_rfl
@[simp] theorem Tryz.tk_158 : tyk Tryz.prog 158 = some (true, 256) := by kernel_rfl
@[simp] theorem Tryz.ez_159 : esz Tryz.prog 159 = some (2, 2) := by kernel_rfl
@[simp] theorem Tryz.sz_159 : szOf Tryz.prog 159 = some 2 := by kernel_rfl
@[simp] theorem Tryz.tk_159 : tyk Tryz.prog 159 = some (true, 2) := by kernel_rfl
@[simp] theorem Tryz.zd_159 : zeroD Tryz.prog 159 = some (.agg [.int .u8 0, .int .u8 0]) := by kernel_rfl
@[simp] theorem Tryz.sd_159 : structD Tryz.prog 159 = some [.int .u8 0, .int .u8 0] := by kernel_rfl
@[simp] theorem Tryz.fo_159_0 : fieldOff Tryz.prog 159 0 = some 0 := by kernel_rfl
@[simp] theorem Tryz.fo_159_1 : fieldOff Tryz.prog 159 1 = some 1 := by kernel_rfl
@[simp] theorem Tryz.ez_162 : esz Tryz.prog 162 = some (1, 8) := by kernel_rfl
@[simp] theorem Tryz.sz_162 : szOf Tryz.prog 162 = some 1 := by kernel_rfl
@[simp] theorem Tryz.tk_162 : tyk Tryz.prog 162 = some (false, 1) := by kernel_rfl
@[simp] theorem Tryz.zd_162 : zeroD Tryz.prog 162 = some (.raw .nilFunc) := by kernel_rfl
@[simp] theorem Tryz.ez_170 : esz Tryz.prog 170 = some (1, 8) := by kernel_rfl
@[simp] theorem Tryz.sz_170 : szOf Tryz.prog 170 = some 1 := by kernel_rfl
@[simp] theorem Tryz.tk_170 : tyk Tryz.prog 170 = some (false, 1) := by kernel_rfl
@[simp] theorem Tryz.zd_170 : zeroD Tryz.prog 170 = some (.raw .nilFunc) := by kernel_rfl
end Go.Proofs

namespace Go.Proofs.Tz
open Go.Vw
set_option maxRecDepth 100000
set_option maxHeartbeats 4000000
set_option linter.unusedSimpArgs false

/-- One round is over: round k + 1 comes, of at most N. -/
def Again (N k : Nat) (I : Nat → St → Prop) (τ : St) : Prop := ∃ m', m' < N - k ∧ ∃ k', k' ≤ N ∧ m' = N - k' ∧ I k' τ
theorem again {N k : Nat} {I : Nat → St → Prop} {τ : St} (hk : k < N) (h : I (k + 1) τ) : Again N k I τ := ⟨N - (k + 1), by omega, k + 1, hk, rfl, h⟩
theorem loopN {body : (Exit → St → Prop) → St → Prop} {Q : Exit → St → Prop} {σ : St} (N : Nat) (I : Nat → St → Prop) (h0 : I 0 σ)
    (hr : ∀ k τ, k ≤ N → I k τ → body (thenV (Again N k I) Q) τ) : LoopK body Q σ :=
  ⟨fun m τ => ∃ k, k ≤ N ∧ m = N - k ∧ I k τ, N, ⟨0, Nat.zero_le _, rfl, h0⟩, by
    rintro m τ ⟨k, hk, rfl, hI⟩
    exact hr k τ hk hI⟩

theorem take_s {α : Type} {l : List α} {k : Nat} (h : k < l.length) : l.take (k + 1) = l.take k ++ [l[k]] := by
  rw [List.take_succ_eq_append_getElem h]

def strs (l : List Str) : D := .sl (l.map .str)
def u8 (c : UInt8) : D := .int .u8 c.toNat

def isLetter (c : UInt8) : Bool := decide (97 ≤ (c.toNat : Int)) && decide ((c.toNat : Int) ≤ 122) || decide (65 ≤ (c.toNat : Int)) && decide ((c.toNat : Int) ≤ 90)
def isDigit (c : UInt8) : Bool := decide (48 ≤ (c.toNat : Int)) && decide ((c.toNat : Int) ≤ 57)

def lowc (c : UInt8) : UInt8 := if 65 ≤ (c.toNat : Int) ∧ (c.toNat : Int) ≤ 90 then c + 32 else c
def lower (s : Str) : Str := s.map lowc
theorem lowc_toNat (c : UInt8) (h1 : 65 ≤ (c.toNat : Int)) (h2 : (c.toNat : Int) ≤ 90) : ((lowc c).toNat : Int) = c.toNat + 97 - 65 := by
  rw [lowc, if_pos ⟨h1, h2⟩, UInt8.toNat_add]
  have : (32 : UInt8).toNat = 32 := rfl
  omega
theorem lower_len (s : Str) : (lower s).length = s.length := by simp [lower]
def nameC (c : UInt8) : Bool := isLetter c || isDigit c || decide ((c.toNat : Int) = 45)
def nameB (s : Str) : Bool := decide (1 ≤ s.length) && decide (s.length ≤ 64) && (s.head?.any isLetter) && s.all nameC
def cleanC (c : UInt8) : Bool := decide (32 ≤ (c.toNat : Int)) && decide ((c.toNat : Int) ≤ 126)
def cleanB (s : Str) : Bool := decide (1 ≤ s.length) && decide (s.length ≤ 256) && s.head? != some 32 && s.getLast? != some 32 && s.all cleanC

theorem all_take {s : Str} {p : UInt8 → Bool} {k : Nat} (h : k < List.length s) (ha : ∀ x ∈ s.take k, p x = true) (hp : p s[k] = true) : ∀ x ∈ s.take (k + 1), p x = true := by
  rw [take_s h]
  intro x hx
  rcases List.mem_append.1 hx with hx | hx
  · exact ha x hx
  · rw [List.mem_singleton.1 hx]; exact hp
theorem all_not {s : Str} {p : UInt8 → Bool} {k : Nat} (h : k < List.length s) (hp : p s[k] = false) : s.all p = false := by
  rw [List.all_eq_false]; exact ⟨_, List.getElem_mem h, by simp [hp]⟩

end Go.Proofs.Tz

/- The order of strings. -/
namespace Go.Proofs.Tz
open Go.Vw Go.Lib
set_option linter.unusedSimpArgs false

theorem bl (x y : Str) : Op.bytesLess x y = decide (x < y) := bytesLess_eq x y
theorem bl_t {x y : Str} : Op.bytesLess x y = true ↔ x < y := by rw [bl]; simp
theorem bl_f {x y : Str} : Op.bytesLess x y = false ↔ ¬ x < y := by rw [bl]; simp
theorem s_irr (x : Str) : ¬ x < x := List.lt_irrefl x
theorem s_trans {x y z : Str} (h1 : x < y) (h2 : y < z) : x < z := List.lt_trans h1 h2
theorem s_tri {x y : Str} (h1 : ¬ x < y) (h2 : ¬ y < x) : x = y := List.le_antisymm (List.not_lt.1 h2) (List.not_lt.1 h1)
end Go.Proofs.Tz

namespace Go.Proofs.Tz
open Go.Vw
set_option maxRecDepth 100000
set_option maxHeartbeats 4000000
set_option linter.unusedSimpArgs false

end Go.Proofs.Tz

namespace Go.Proofs.Tz
open Go.Vw
set_option maxRecDepth 100000
set_option maxHeartbeats 4000000
set_option linter.unusedSimpArgs false

/-- One step of Insert. -/
def insS (s : Str) (r : Bool × List Str) (x : Str) : Bool × List Str :=
  (r.1 || !Op.bytesLess x s, r.2 ++ (if r.1 = false ∧ Op.bytesLess x s = false then [s] else []) ++ (if x = s then [] else [x]))
def insF (s : Str) (l : List Str) : Bool × List Str := l.foldl (insS s) (false, [])
def ins (l : List Str) (s : Str) : List Str := (insF s l).2 ++ (if (insF s l).1 then [] else [s])

end Go.Proofs.Tz

namespace Go.Proofs.Tz
open Go.Vw
set_option maxRecDepth 100000
set_option maxHeartbeats 4000000
set_option linter.unusedSimpArgs false

abbrev Att := Str × List Str
def att (a : Att) : D := .agg [.str a.1, strs a.2]
def atts (l : List Att) : D := .sl (l.map att)

/-- Every string of a list is short enough for the walk. -/
def Fits (l : List Att) : Prop := l.length < 1000000 ∧ ∀ a ∈ l, List.length a.1 < 1000000 ∧ a.2.length < 1000000

/-- The first error of values. -/
def chkV (old : List Str) : List Str → List Str → Int
  | _, [] => 0
  | b, v :: l => if cleanB v = false then 4 else if v ∈ old ∨ v ∈ b then 7 else chkV old (b ++ [v]) l

theorem chkV_drop {old l : List Str} {k : Nat} (h : k < l.length) : chkV old (l.take k) (l.drop k) = if cleanB l[k] = false then 4 else if l[k] ∈ old ∨ l[k] ∈ l.take k then 7 else chkV old (l.take (k + 1)) (l.drop (k + 1)) := by
  rw [List.drop_eq_getElem_cons h, chkV, take_s h]

/-- The first error of attributes. -/
def chkA : List Att → List Att → Int
  | _, [] => 0
  | b, a :: l => if nameB a.1 = false then 5 else if b.any (fun c => decide (lower c.1 = lower a.1)) then 7 else if a.2.length = 0 then 6 else if 16 < a.2.length then 3
      else if chkV [] [] a.2 ≠ 0 then chkV [] [] a.2 else chkA (b ++ [a]) l
def checkL (l : List Att) : Int := if 32 < l.length then 3 else chkA [] l
theorem chkA_drop {l : List Att} {k : Nat} (h : k < l.length) : chkA (l.take k) (l.drop k) = if nameB l[k].1 = false then 5 else if (l.take k).any (fun c => decide (lower c.1 = lower l[k].1)) then 7 else if l[k].2.length = 0 then 6 else if 16 < l[k].2.length then 3
      else if chkV [] [] l[k].2 ≠ 0 then chkV [] [] l[k].2 else chkA (l.take (k + 1)) (l.drop (k + 1)) := by
  rw [List.drop_eq_getElem_cons h, chkA, take_s h]

end Go.Proofs.Tz

namespace Go.Proofs.Tz
open Go.Vw
set_option maxRecDepth 100000
set_option maxHeartbeats 4000000
set_option linter.unusedSimpArgs false

theorem upper_fn (c : UInt8) : Ctr Tryz.prog 70 [.d (u8 c)] (.d (.bool (decide (65 ≤ (c.toNat : Int)) && decide ((c.toNat : Int) ≤ 90)))) := by
  refine fn_of_vwp (fun _ => false) (by kernel_rfl) Tryz.func70 (by kernel_rfl) rfl rfl (Nat.le_of_ble_eq_true rfl) (by kernel_rfl) rfl rfl ?_
  by_cases h1 : 65 ≤ (c.toNat : Int) <;> simp [u8, h1]
theorem fletter_fn (c : UInt8) : Ctr Tryz.prog 47 [.d (u8 c)] (.d (.bool (isLetter c))) := by
  refine fn_of_vwp (fun _ => false) (by kernel_rfl) Tryz.func47 (by kernel_rfl) rfl rfl (Nat.le_of_ble_eq_true rfl) (by kernel_rfl) rfl rfl ?_
  simp -implicitDefEqProofs
  refine callK (upper_fn c) ?_
  by_cases h1 : 97 ≤ (c.toNat : Int) <;> by_cases h2 : (c.toNat : Int) ≤ 122 <;> by_cases h3 : 65 ≤ (c.toNat : Int) <;> by_cases h4 : (c.toNat : Int) ≤ 90 <;> simp -implicitDefEqProofs [u8, isLetter, h1, h2, h3, h4]
theorem fdigit_fn (c : UInt8) : Ctr Tryz.prog 48 [.d (u8 c)] (.d (.bool (isDigit c))) := by
  refine fn_of_vwp (fun _ => false) (by kernel_rfl) Tryz.func48 (by kernel_rfl) rfl rfl (Nat.le_of_ble_eq_true rfl) (by kernel_rfl) rfl rfl ?_
  by_cases h1 : 48 ≤ (c.toNat : Int) <;> simp [u8, isDigit, h1]
theorem allowed_fn (c : UInt8) : Ctr Tryz.prog 46 [.d (u8 c)] (.d (.bool (nameC c))) := by
  refine fn_of_vwp (fun _ => false) (by kernel_rfl) Tryz.func46 (by kernel_rfl) rfl rfl (Nat.le_of_ble_eq_true rfl) (by kernel_rfl) rfl rfl ?_
  simp -implicitDefEqProofs [u8]
  refine callK (fletter_fn c) ?_
  by_cases h1 : isLetter c = true
  · simp -implicitDefEqProofs [h1, nameC]
  · simp -implicitDefEqProofs [h1]
    refine callK (fdigit_fn c) ?_
    by_cases h2 : isDigit c = true <;> by_cases h3 : (c.toNat : Int) = 45 <;> simp [h1, h2, h3, nameC]
end Go.Proofs.Tz

namespace Go.Proofs.Tz
open Go.Vw
set_option maxRecDepth 100000
set_option maxHeartbeats 4000000
set_option linter.unusedSimpArgs false

theorem lowc_not {c : UInt8} (h : ¬ (65 ≤ (c.toNat : Int) ∧ (c.toNat : Int) ≤ 90)) : lowc c = c := if_neg h

def halfL (s : Str) (k : Nat) : List D := ((lower (s.take k)) ++ s.drop k).map u8
theorem halfL_len (s : Str) (k : Nat) (h : k ≤ List.length s) : (halfL s k).length = List.length s := by simp [halfL, lower]; omega
theorem halfL_get (s : Str) (k : Nat) (h : k < List.length s) : (halfL s k)[k]? = some (u8 s[k]) := by
  have hl : (lower (s.take k)).length = k := by simp [lower]; omega
  simp only [halfL, List.getElem?_map]
  rw [List.getElem?_append_right (by omega), hl, Nat.sub_self]
  simp [h]
theorem halfL_set (s : Str) (k : Nat) (h : k < List.length s) : (halfL s k).set k (u8 (lowc s[k])) = halfL s (k + 1) := by
  have hl : (lower (s.take k)).length = k := by simp [lower]; omega
  simp only [halfL, ← List.map_set]
  rw [List.set_append_right _ _ (by omega), hl, Nat.sub_self, List.drop_eq_getElem_cons h, List.set_cons_zero, take_s h]
  simp only [lower, List.map_append, List.map_cons, List.map_nil, List.append_assoc, List.singleton_append]

theorem foldLower_fn (s : Str) (hs : List.length s < 1000000) : Ctr Tryz.prog 38 [.d (.str s)] (.d (.str (lower s))) := by
  refine fn_of_vwp (fun i => decide (i < 1000000)) (by kernel_rfl) Tryz.func38 (by kernel_rfl) rfl rfl (Nat.le_of_ble_eq_true rfl) (by kernel_rfl) rfl rfl ?_
  simp -implicitDefEqProofs
  refine ⟨by omega, ?_⟩
  refine loopN (List.length s) (fun k τ => τ 9 = .d (.int .i64 k) ∧ τ 8 = .d (.int .i64 (List.length s)) ∧ τ 3 = .own true 100005 (halfL s k)) (by simp [halfL, lower, bytesD, u8]) ?_
  rintro k τ hk ⟨h9, h8, h3⟩
  have hlen := halfL_len s k hk
  by_cases hlt : k < List.length s
  · have hg := halfL_get s k hlt
    have hset := halfL_set s k hlt
    generalize halfL s k = M at *
    have hlt2 : k < M.length := by omega
    have hg2 : M[k] = u8 s[k] := (List.getElem?_eq_some_iff.1 hg).2
    simp -implicitDefEqProofs [h9, h8, h3, hlt, hlt2, hg2, u8]
    refine callK (upper_fn _) ?_
    by_cases h1 : 65 ≤ (s[k].toNat : Int) ∧ (s[k].toNat : Int) ≤ 90
    · simp -implicitDefEqProofs [h9, h8, h3, hlt, hlt2, hg2, u8, h1.1, h1.2]
      have e : u8 (lowc s[k]) = .int .u8 ((s[k].toNat : Int) + 32) := by
        simp only [u8, lowc_toNat _ h1.1 h1.2]; congr 1; omega
      rw [e] at hset
      exact ⟨by omega, by omega, again hlt ⟨by simp, by simp [h8], by simp [hset]⟩⟩
    · have hb : (decide (65 ≤ (s[k].toNat : Int)) && decide ((s[k].toNat : Int) ≤ 90)) = false := by simpa using h1
      simp -implicitDefEqProofs [h9, h8, h3, hlt, hlt2, hg2, u8, hb]
      rw [lowc_not h1, ← hg2, List.set_getElem_self] at hset
      exact ⟨by omega, again hlt ⟨by simp, by simp [h8], by simp [h3, hset]⟩⟩
  · simp -implicitDefEqProofs [h9, h8, h3, hlt]
    have e : halfL s k = bytesD (lower s) := by
      have : k = List.length s := by omega
      subst this
      simp [halfL, bytesD, u8]
    simp -implicitDefEqProofs [e, h3]
end Go.Proofs.Tz

namespace Go.Proofs.Tz
open Go.Vw
set_option maxRecDepth 100000
set_option maxHeartbeats 4000000
set_option linter.unusedSimpArgs false

theorem u8ne {x c : UInt8} (h : ¬ x = c) : ¬ ((x.toNat : Int) = c.toNat) := fun e => h (UInt8.toNat_inj.1 (by omega))

def trimLB (c : UInt8) (s : Str) : Str := s.dropWhile fun x => decide (x = c)
def trimRB (c : UInt8) (s : Str) : Str := (s.reverse.dropWhile fun x => decide (x = c)).reverse

theorem trimL_fn (s : Str) (c : UInt8) : Ctr Tryz.prog 90 [.d (.str s), .d (u8 c)] (.d (.str (trimLB c s))) := by
  refine fn_of_vwp (fun _ => false) (by kernel_rfl) Tryz.func90 (by kernel_rfl) rfl rfl (Nat.le_of_ble_eq_true rfl) (by kernel_rfl) rfl rfl ?_
  simp -implicitDefEqProofs [u8]
  refine loopK (fun n τ => ∃ t : Str, n = t.length ∧ τ 0 = .d (.str t) ∧ τ 1 = .d (.int .u8 c.toNat) ∧ trimLB c t = trimLB c s) s.length ⟨s, rfl, by simp, by simp, rfl⟩ ?_
  rintro n τ ⟨t, rfl, h0, h1, ht⟩
  cases t with
  | nil =>
    simp -implicitDefEqProofs [h0, h1]
    rw [← ht]; rfl
  | cons x t =>
    by_cases hx : x = c
    · subst hx
      simp -implicitDefEqProofs [h0, h1]
      exact ⟨_, by omega, t, rfl, rfl, by rw [← ht, trimLB, trimLB, List.dropWhile_cons, if_pos (by simp)]⟩
    · have := u8ne hx
      simp -implicitDefEqProofs [h0, h1, this]
      rw [← ht, trimLB, List.dropWhile_cons, if_neg (by simp [hx])]

theorem trimRB_last {c : UInt8} {t : Str} (h : 0 < List.length t) : trimRB c t = if t[List.length t - 1] = c then trimRB c (t.take (List.length t - 1)) else t := by
  have e : t = t.take (List.length t - 1) ++ [t[List.length t - 1]] := by
    have := take_s (l := t) (k := List.length t - 1) (by omega)
    rw [show List.length t - 1 + 1 = List.length t by omega, List.take_length] at this
    exact this
  conv => lhs; rw [e]
  rw [trimRB, List.reverse_append, List.reverse_singleton, List.singleton_append, List.dropWhile_cons]
  by_cases hx : t[List.length t - 1] = c
  · rw [if_pos (by simpa using hx), if_pos hx, trimRB]
  · rw [if_neg (by simpa using hx), if_neg hx, List.reverse_cons, List.reverse_reverse]
    exact e.symm

theorem trimR_fn (s : Str) (c : UInt8) (hs : List.length s < 1000000) : Ctr Tryz.prog 91 [.d (.str s), .d (u8 c)] (.d (.str (trimRB c s))) := by
  refine fn_of_vwp (fun _ => false) (by kernel_rfl) Tryz.func91 (by kernel_rfl) rfl rfl (Nat.le_of_ble_eq_true rfl) (by kernel_rfl) rfl rfl ?_
  simp -implicitDefEqProofs [u8]
  refine loopK (fun n τ => ∃ t : Str, n = t.length ∧ τ 0 = .d (.str t) ∧ τ 1 = .d (.int .u8 c.toNat) ∧ List.length t < 1000000 ∧ trimRB c t = trimRB c s) s.length ⟨s, rfl, by simp, by simp, hs, rfl⟩ ?_
  rintro n τ ⟨t, rfl, h0, h1, hl, ht⟩
  by_cases hpos : 0 < List.length t
  · have hi : 0 ≤ (List.length t : Int) - 1 := by omega
    have hi2 : ((List.length t : Int) - 1).toNat = List.length t - 1 := by omega
    have hi3 : List.length t - 1 < List.length t := by omega
    have hi4 : -9223372036854775808 ≤ (List.length t : Int) - 1 := by omega
    have hi5 : (List.length t : Int) - 1 ≤ 9223372036854775807 := by omega
    have hi6 : 1 ≤ (List.length t : Int) := by omega
    have hz : ¬ t = [] := fun e => by subst e; simp at hpos
    rw [trimRB_last hpos] at ht
    by_cases hx : t[List.length t - 1] = c
    · rw [if_pos hx] at ht
      simp -implicitDefEqProofs [h0, h1, hpos, hi, hi2, hi3, hi4, hi5, hi6, hx, hz]
      exact ⟨List.length t - 1, by omega, t.take (List.length t - 1), by rw [List.length_take]; omega, rfl, by rw [List.length_take]; omega, ht⟩
    · have := u8ne hx
      rw [if_neg hx] at ht
      simp -implicitDefEqProofs [h0, h1, hpos, hi, hi2, hi3, hi4, hi5, hi6, this, hz]
      exact ht
  · obtain rfl : t = [] := List.eq_nil_of_length_eq_zero (by omega)
    simp -implicitDefEqProofs [h0, h1]
    rw [← ht]; rfl

def trimB (s : Str) : Str := trimLB 32 (trimRB 32 s)
theorem trim102_fn (s : Str) (hs : List.length s < 1000000) : Ctr Tryz.prog 74 [.d (.str s), .d (.str [32])] (.d (.str (trimB s))) := by
  refine fn_of_vwp (fun _ => false) (by kernel_rfl) Tryz.func74 (by kernel_rfl) rfl rfl (Nat.le_of_ble_eq_true rfl) (by kernel_rfl) rfl rfl ?_
  by_cases hz : s = []
  · subst hz
    simp -implicitDefEqProofs
    try rfl
  simp -implicitDefEqProofs [hz]
  have h1 : Ctr Tryz.prog 91 [.d (.str s), .d (.int .u8 32)] (.d (.str (trimRB 32 s))) := trimR_fn s 32 hs
  have h2 : Ctr Tryz.prog 90 [.d (.str (trimRB 32 s)), .d (.int .u8 32)] (.d (.str (trimB s))) := trimL_fn (trimRB 32 s) 32
  refine callP h1 ?_
  simp -implicitDefEqProofs [hz]
  refine callP h2 ?_
  simp -implicitDefEqProofs [hz]
theorem trim_fn (s : Str) (hs : List.length s < 1000000) : Ctr Tryz.prog 50 [.d (.str s)] (.d (.str (trimB s))) := by
  refine fn_of_vwp (fun _ => false) (by kernel_rfl) Tryz.func50 (by kernel_rfl) rfl rfl (Nat.le_of_ble_eq_true rfl) (by kernel_rfl) rfl rfl ?_
  simp -implicitDefEqProofs
  refine callK (trim102_fn s hs) ?_
  simp -implicitDefEqProofs

def cleanF (s : Str) : Bool := s.all cleanC && decide (s ≠ []) && decide (List.length s ≤ 256) && decide (trimB s = s)

theorem dec_lo {s : Str} {k : Nat} (h : k < List.length s) (hc : s[k].toNat < 128) : Go.Utf8.decode ⟨s.toArray⟩ k = (s[k].toNat, 1) := by
  have hb : k < (⟨s.toArray⟩ : ByteArray).size := by simpa [ByteArray.size] using h
  have e : (⟨s.toArray⟩ : ByteArray)[k]'hb = s[k] := rfl
  have := decode_ascii ⟨s.toArray⟩ k hb (by rw [e]; exact hc)
  rw [e] at this
  exact this
theorem dec_hi {s : Str} {k : Nat} (h : k < List.length s) (hc : 128 ≤ s[k].toNat) : 128 ≤ (Go.Utf8.decode ⟨s.toArray⟩ k).1 := by
  have hb : k < (⟨s.toArray⟩ : ByteArray).size := by simpa [ByteArray.size] using h
  have e : (⟨s.toArray⟩ : ByteArray)[k]'hb = s[k] := rfl
  exact (decode_high ⟨s.toArray⟩ k hb (by rw [e]; exact hc)).1

theorem trimLB_len (c : UInt8) (s : Str) : List.length (trimLB c s) ≤ List.length s := (List.dropWhile_sublist _).length_le
theorem trimRB_len (c : UInt8) (s : Str) : List.length (trimRB c s) ≤ List.length s := by
  have := (List.dropWhile_sublist (fun x : UInt8 => decide (x = c)) (l := s.reverse)).length_le
  simpa [trimRB] using this
theorem trimB_iff {s : Str} (h : 0 < List.length s) : trimB s = s ↔ s[0] ≠ 32 ∧ s[List.length s - 1] ≠ 32 := by
  constructor
  · intro e
    have h1 := trimLB_len 32 (trimRB 32 s)
    have h2 := trimRB_len 32 s
    have h3 : List.length (trimB s) = List.length s := by rw [e]
    rw [trimB] at h3
    have hr : s[List.length s - 1] ≠ 32 := by
      intro h4
      rw [trimRB_last h, if_pos h4] at h3 h1
      have h5 := trimRB_len 32 (s.take (List.length s - 1))
      rw [List.length_take] at h5
      omega
    refine ⟨fun h4 => ?_, hr⟩
    rw [trimB, trimRB_last h, if_neg hr] at e
    cases s with
    | nil => simp at h
    | cons x t =>
      simp only [List.getElem_cons_zero] at h4
      rw [trimLB, List.dropWhile_cons, if_pos (by simp [h4])] at e
      have := trimLB_len 32 t
      rw [trimLB, e, List.length_cons] at this
      omega
  · rintro ⟨h1, h2⟩
    rw [trimB, trimRB_last h, if_neg h2]
    cases s with
    | nil => rfl
    | cons x t => rw [trimLB, List.dropWhile_cons, if_neg (by simpa using h1)]
theorem cleanF_eq (s : Str) : cleanF s = cleanB s := by
  by_cases h : 0 < List.length s
  · have hne : s ≠ [] := fun e => by subst e; simp at h
    have hh : s.head? = some s[0] := by simp [List.head?_eq_getElem?, h]
    have hl : s.getLast? = some s[List.length s - 1] := by rw [List.getLast?_eq_getElem?, List.getElem?_eq_getElem (by omega)]
    rw [Bool.eq_iff_iff]
    simp only [cleanF, cleanB, Bool.and_eq_true, decide_eq_true_eq, trimB_iff h, hh, hl, bne_iff_ne, ne_eq, Option.some.injEq]
    have : 1 ≤ List.length s := h
    constructor
    · rintro ⟨⟨⟨a, b⟩, c⟩, d, e⟩; exact ⟨⟨⟨⟨this, c⟩, d⟩, e⟩, a⟩
    · rintro ⟨⟨⟨⟨_, c⟩, d⟩, e⟩, a⟩; exact ⟨⟨⟨a, hne⟩, c⟩, d, e⟩
  · obtain rfl : s = [] := List.eq_nil_of_length_eq_zero (by omega)
    rfl

theorem fclean_fn (s : Str) (hs : List.length s < 1000000) : Ctr Tryz.prog 22 [.d (.str s)] (.d (.bool (cleanF s))) := by
  refine fn_of_vwp (fun _ => false) (by kernel_rfl) Tryz.func22 (by kernel_rfl) rfl rfl (Nat.le_of_ble_eq_true rfl) (by kernel_rfl) rfl rfl ?_
  simp -implicitDefEqProofs
  refine loopN (List.length s) (fun k τ => τ 0 = .d (.str s) ∧ τ 6 = .iter s k ∧ ∀ x ∈ s.take k, cleanC x = true) (by simp) ?_
  rintro k τ hk ⟨h0, h6, hall⟩
  by_cases hlt : k < List.length s
  · by_cases ha : s[k].toNat < 128
    · have hd := dec_lo hlt ha
      by_cases e1 : (s[k].toNat : Int) < 32
      · have e1' : ¬ 32 ≤ (s[k].toNat : Int) := by omega
        simp -implicitDefEqProofs [h0, h6, hlt, hd, e1]
        simp [cleanF, all_not hlt (show cleanC s[k] = false by simp [cleanC, e1'])]
      · by_cases e2 : 126 < (s[k].toNat : Int)
        · have e2' : ¬ (s[k].toNat : Int) ≤ 126 := by omega
          simp -implicitDefEqProofs [h0, h6, hlt, hd, e1, e2]
          simp [cleanF, all_not hlt (show cleanC s[k] = false by simp [cleanC, e2'])]
        · have e1' : 32 ≤ (s[k].toNat : Int) := by omega
          have e2' : (s[k].toNat : Int) ≤ 126 := by omega
          simp -implicitDefEqProofs [h0, h6, hlt, hd, e1, e2]
          exact again hlt ⟨by simp [h0], by simp, all_take hlt hall (by simp [cleanC, e1', e2'])⟩
    · have hd := dec_hi hlt (by omega)
      have e1 : ¬ ((Go.Utf8.decode ⟨s.toArray⟩ k).1 : Int) < 32 := by omega
      have e2 : 126 < ((Go.Utf8.decode ⟨s.toArray⟩ k).1 : Int) := by omega
      have e2' : ¬ (s[k].toNat : Int) ≤ 126 := by omega
      simp -implicitDefEqProofs [h0, h6, hlt, e1, e2]
      simp [cleanF, all_not hlt (show cleanC s[k] = false by simp [cleanC, e2'])]
  · rw [List.take_of_length_le (by omega)] at hall
    have hall' : s.all cleanC = true := List.all_eq_true.2 hall
    by_cases hz : s = []
    · subst hz
      simp -implicitDefEqProofs [h0, h6, cleanF]
    · by_cases h2 : (List.length s : Int) ≤ 256
      · have h2' : List.length s ≤ 256 := by omega
        simp -implicitDefEqProofs [h0, h6, hlt, hz, h2]
        refine callK (trim_fn s hs) ?_
        simp -implicitDefEqProofs [h0, h6, hlt, hz, h2, cleanF, hall', h2']
      · have h2' : ¬ List.length s ≤ 256 := by omega
        simp -implicitDefEqProofs [h0, h6, hlt, hz, h2, cleanF, h2']
end Go.Proofs.Tz

namespace Go.Proofs.Tz
open Go.Vw
set_option maxRecDepth 100000
set_option maxHeartbeats 4000000
set_option linter.unusedSimpArgs false

theorem insF_len2 (s : Str) : ∀ (l : List Str) (r : Bool × List Str) (c : Nat), r.2.length ≤ c + r.1.toNat → (l.foldl (insS s) r).2.length ≤ c + l.length + (l.foldl (insS s) r).1.toNat
  | [], _, _, h => h
  | x :: l, (d, out), c, h => by
    have h2 : (insS s (d, out) x).2.length ≤ (c + 1) + (insS s (d, out) x).1.toNat := by
      simp only at h
      cases d <;> by_cases hb : Op.bytesLess x s = true <;> by_cases he : x = s <;> simp [insS, hb, he] at h ⊢ <;> first
        | omega
        | (split <;> simp <;> omega)
    have := insF_len2 s l (insS s (d, out) x) (c + 1) h2
    simp only [List.foldl_cons, List.length_cons]; omega
theorem ins_len (l : List Str) (s : Str) : (ins l s).length ≤ l.length + 1 := by
  have : (insF s l).2.length ≤ 0 + l.length + (insF s l).1.toNat := insF_len2 s l (false, []) 0 (by simp)
  simp only [ins, List.length_append]
  cases h : (insF s l).1 <;> simp [h] at this ⊢ <;> omega

def namesS (ns : List Str) (a : Att) : List Str := if a.2 = [] then ns else ins ns (lower a.1)
def namesF (l : List Att) : List Str := l.foldl namesS []
def valsS (n : Str) (vs : List Str) (a : Att) : List Str := if lower a.1 = n then a.2.foldl ins vs else vs
def valsF (l : List Att) (n : Str) : List Str := l.foldl (valsS n) []
def sortedL (l : List Att) : List Att := (namesF l).map fun n => (n, valsF l n)

theorem names_len : ∀ (l : List Att) (ns : List Str), (l.foldl namesS ns).length ≤ ns.length + l.length
  | [], ns => by simp
  | a :: l, ns => by
    have := names_len l (namesS ns a)
    have h2 : (namesS ns a).length ≤ ns.length + 1 := by
      unfold namesS; split
      · omega
      · exact ins_len _ _
    simp only [List.foldl_cons, List.length_cons]; omega
def total (l : List Att) : Nat := (l.map (·.2.length)).sum
def Fit2 (l : List Att) : Prop := Fits l ∧ total l < 500000
theorem total_take (l : List Att) (k : Nat) (h : k < l.length) : total (l.take k) + l[k].2.length ≤ total l := by
  have e : total l = total (l.take k) + (l[k].2.length + total (l.drop (k + 1))) := by
    conv => lhs; rw [← List.take_append_drop k l, List.drop_eq_getElem_cons h]
    simp only [total, List.map_append, List.map_cons, List.sum_append, List.sum_cons]
  all_goals omega

end Go.Proofs.Tz

namespace Go.Proofs.Tz
open Go.Vw
set_option maxRecDepth 100000
set_option maxHeartbeats 4000000
set_option linter.unusedSimpArgs false

def findA (n : Str) : List Att → List Str
  | [] => []
  | a :: l => if a.1 = n then a.2 else findA n l
def getL (l : List Att) (name : Str) : List Str := findA (lower name) (sortedL l)
theorem sorted_len (l : List Att) : (sortedL l).length ≤ l.length := by
  have := names_len l []
  simp only [List.length_nil, Nat.zero_add] at this
  simpa [sortedL, namesF] using this
def firsts (s : List Att) : List D := s.map fun a => .str a.1
theorem firsts_len (s : List Att) : (firsts s).length = s.length := by simp [firsts]
theorem firsts_take {s : List Att} {k : Nat} (h : k < s.length) : firsts (s.take (k + 1)) = firsts (s.take k) ++ [.str s[k].1] := by
  rw [take_s h]; simp only [firsts, List.map_append, List.map_cons, List.map_nil]

theorem made_fn (s : Str) (hs : List.length s < 1000000) : Ctr Tryz.prog 45 [.d (.str s), .d (.clo 46 [])] (.d (.bool (s.all nameC && decide (s ≠ []) && decide (s.length ≤ 64)))) := by
  refine fn_of_vwp (fun _ => false) (by kernel_rfl) Tryz.func45 (by kernel_rfl) rfl rfl (Nat.le_of_ble_eq_true rfl) (by kernel_rfl) rfl rfl ?_
  simp -implicitDefEqProofs
  refine loopN (List.length s) (fun k τ => τ 0 = .d (.str s) ∧ τ 1 = .d (.clo 46 []) ∧ τ 7 = .d (.int .i64 (List.length s)) ∧ τ 8 = .d (.int .i64 k) ∧ ∀ x ∈ s.take k, nameC x = true) (by simp) ?_
  rintro k τ hk ⟨h0, h1, h7, h8, ha⟩
  by_cases hlt : k < List.length s
  · simp -implicitDefEqProofs [h0, h1, h7, h8, hlt]
    refine callK (allowed_fn s[k]) ?_
    by_cases e1 : nameC s[k] = true
    · simp -implicitDefEqProofs [h0, h1, h7, h8, hlt, e1]
      exact ⟨by omega, again hlt ⟨by simp [h0], by simp [h1], by simp [h7], by simp, all_take hlt ha e1⟩⟩
    · simp -implicitDefEqProofs [h0, h1, h7, h8, hlt, e1]
      intro h
      exact absurd (h _ (List.getElem_mem hlt)) e1
  · rw [List.take_of_length_le (by omega)] at ha
    have hall : List.all s nameC = true := by simpa using ha
    by_cases e2 : s = []
    · simp -implicitDefEqProofs [h0, h1, h7, h8, hlt, e2]
    · simp -implicitDefEqProofs [h0, h1, h7, h8, hlt, e2, hall]
      all_goals omega

theorem fname_fn (s : Str) (hs : List.length s < 1000000) : Ctr Tryz.prog 20 [.d (.str s)] (.d (.bool (nameB s))) := by
  refine fn_of_vwp (fun _ => false) (by kernel_rfl) Tryz.func20 (by kernel_rfl) rfl rfl (Nat.le_of_ble_eq_true rfl) (by kernel_rfl) rfl rfl ?_
  simp -implicitDefEqProofs
  refine callK (made_fn s hs) ?_
  by_cases e : (s.all nameC && decide (s ≠ []) && decide (s.length ≤ 64)) = true
  · have e0 := e
    simp only [Bool.and_eq_true, decide_eq_true_eq] at e
    obtain ⟨⟨e1, e2⟩, e3⟩ := e
    obtain ⟨c, t, rfl⟩ := List.exists_cons_of_ne_nil e2
    simp only [e0]
    simp -implicitDefEqProofs
    refine callK (fletter_fn c) ?_
    have e4 : (List.length (c :: t)) ≤ 64 := e3
    simp -implicitDefEqProofs [nameB, e1, e4]
    intro _
    simpa using e4
  · rw [Bool.not_eq_true] at e
    simp only [e]
    simp -implicitDefEqProofs [nameB]
    intro h1 h2 _
    have hne : s ≠ [] := by
      rintro rfl
      simp at h1
    simpa [hne, h2] using e
end Go.Proofs.Tz

namespace Go.Proofs.Tz
open Go.Vw
set_option maxRecDepth 100000
set_option maxHeartbeats 4000000
set_option linter.unusedSimpArgs false

end Go.Proofs.Tz

namespace Go.Proofs.Tz
open Go.Vw
set_option maxRecDepth 100000
set_option maxHeartbeats 4000000
set_option linter.unusedSimpArgs false

end Go.Proofs.Tz

namespace Go.Proofs.Tz
open Go.Vw
set_option maxRecDepth 100000
set_option maxHeartbeats 4000000
set_option linter.unusedSimpArgs false

def wantB (ns : List Str) (x : Str) : Bool := ns.any fun n => decide (lower n = x)
def wanted (ns : List Str) (a : Att) : Bool := decide (ns = []) || wantB ns a.1
end Go.Proofs.Tz

namespace Go.Proofs.Tz
open Go.Vw
set_option maxRecDepth 100000
set_option maxHeartbeats 4000000
set_option linter.unusedSimpArgs false

/-- The number of the first element that has p, or -1. -/
def idxG {α : Type} (p : α → Bool) : Nat → List α → Int
  | _, [] => -1
  | k, x :: l => if p x = true then k else idxG p (k + 1) l
theorem idxG_drop {α : Type} {p : α → Bool} {l : List α} {k : Nat} (h : k < l.length) : idxG p k (l.drop k) = if p l[k] = true then (k : Int) else idxG p (k + 1) (l.drop (k + 1)) := by
  rw [List.drop_eq_getElem_cons h, idxG]

theorem index_fn (l : List Str) (s : Str) (hl : l.length < 1000000) : Ctr Tryz.prog 80 [.d (strs l), .d (.str s)] (.d (.int .i64 (idxG (fun x => decide (s = x)) 0 l))) := by
  refine fn_of_vwp (fun _ => false) (by kernel_rfl) Tryz.func80 (by kernel_rfl) rfl rfl (Nat.le_of_ble_eq_true rfl) (by kernel_rfl) rfl rfl ?_
  simp -implicitDefEqProofs [strs]
  refine loopN l.length (fun k τ => τ 0 = .d (strs l) ∧ τ 1 = .d (.str s) ∧ τ 7 = .d (.int .i64 l.length) ∧ τ 8 = .d (.int .i64 k) ∧ idxG (fun x => decide (s = x)) 0 l = idxG (fun x => decide (s = x)) k (l.drop k)) (by simp [strs]) ?_
  rintro k τ hk ⟨h0, h1, h7, h8, hi⟩
  by_cases hlt : k < l.length
  · rw [idxG_drop hlt] at hi
    by_cases he : s = l[k]
    · simp -implicitDefEqProofs [h0, h1, h7, h8, strs, hlt, ← he]
      rw [hi]; simp [← he]
    · simp -implicitDefEqProofs [h0, h1, h7, h8, strs, hlt, he]
      refine ⟨by omega, again hlt ⟨by simp [h0, strs], by simp [h1], by simp [h7], by simp, ?_⟩⟩
      rw [hi]; simp [he]
  · simp -implicitDefEqProofs [h0, h1, h7, h8, strs, hlt]
    rw [hi, List.drop_eq_nil_of_le (by omega)]
    simp -implicitDefEqProofs [idxG]

theorem eqS_fn (l m : List Str) (hl : l.length < 1000000) (hm : m.length < 1000000) : Ctr Tryz.prog 28 [.d (strs l), .d (strs m)] (.d (.bool (decide (l = m)))) := by
  refine fn_of_vwp (fun _ => false) (by kernel_rfl) Tryz.func28 (by kernel_rfl) rfl rfl (Nat.le_of_ble_eq_true rfl) (by kernel_rfl) rfl rfl ?_
  by_cases hlm : l.length = m.length
  · simp -implicitDefEqProofs [strs, hlm]
    refine loopN m.length (fun k τ => τ 0 = .d (strs l) ∧ τ 1 = .d (strs m) ∧ τ 12 = .d (.int .i64 m.length) ∧ τ 13 = .d (.int .i64 k) ∧ l.take k = m.take k) (by simp [strs, hlm]) ?_
    rintro k τ hk ⟨h0, h1, h12, h13, ht⟩
    by_cases hlt : k < m.length
    · have hlt' : k < l.length := by omega
      by_cases he : l[k] = m[k]
      · simp -implicitDefEqProofs [h0, h1, h12, h13, strs, hlm, hlt, hlt', he]
        refine ⟨by omega, again hlt ⟨by simp [h0, strs], by simp [h1, strs], by simp [h12], by simp, ?_⟩⟩
        rw [take_s hlt, take_s hlt', ht, he]
      · simp -implicitDefEqProofs [h0, h1, h12, h13, strs, hlm, hlt, hlt', he]
        rintro rfl
        exact he rfl
    · rw [List.take_of_length_le (by omega), List.take_of_length_le (by omega)] at ht
      simp -implicitDefEqProofs [h0, h1, h12, h13, strs, hlm, hlt, ht]
  · have hlm' : ¬ (l.length : Int) = m.length := by omega
    simp -implicitDefEqProofs [strs, hlm']
    rintro rfl
    exact hlm rfl
end Go.Proofs.Tz

namespace Go.Proofs.Tz
open Go.Vw
set_option maxRecDepth 100000
set_option maxHeartbeats 4000000
set_option linter.unusedSimpArgs false

theorem idxG_ge {α : Type} (p : α → Bool) : ∀ (l : List α) (k : Nat), (0 ≤ idxG p k l) = (∃ x ∈ l, p x = true)
  | [], k => by simp [idxG]
  | x :: l, k => by
    rw [idxG]
    by_cases h : p x = true
    · simp -implicitDefEqProofs [h]
    · rw [if_neg h, idxG_ge p l (k + 1)]; simp [h]

theorem contains_fn (l : List Str) (s : Str) (hl : l.length < 1000000) : Ctr Tryz.prog 62 [.d (strs l), .d (.str s)] (.d (.bool (decide (s ∈ l)))) := by
  refine fn_of_vwp (fun _ => false) (by kernel_rfl) Tryz.func62 (by kernel_rfl) rfl rfl (Nat.le_of_ble_eq_true rfl) (by kernel_rfl) rfl rfl ?_
  simp -implicitDefEqProofs
  refine callK (index_fn l s hl) ?_
  simp -implicitDefEqProofs [idxG_ge]

theorem indexA_fn (g : FuncId) (cs : List D) (hcs : (cs.all fun c => !c.isAgg) = true) (p : Att → Bool) (l : List Att) (hl : l.length < 1000000) (hp : ∀ a ∈ l, Ctr Tryz.prog g ([.d (att a)] ++ cs.map .d) (.d (.bool (p a)))) :
    Ctr Tryz.prog 52 [.d (atts l), .d (.clo g cs)] (.d (.int .i64 (idxG p 0 l))) := by
  refine fn_of_vwp (fun _ => false) (by kernel_rfl) Tryz.func52 (by kernel_rfl) rfl rfl (Nat.le_of_ble_eq_true rfl) (by kernel_rfl) rfl rfl ?_
  simp -implicitDefEqProofs [atts]
  refine loopN l.length (fun k τ => τ 0 = .d (atts l) ∧ τ 1 = .d (.clo g cs) ∧ τ 7 = .d (.int .i64 l.length) ∧ τ 8 = .d (.int .i64 k) ∧ idxG p 0 l = idxG p k (l.drop k)) (by simp [atts]) ?_
  rintro k τ hk ⟨h0, h1, h7, h8, hi⟩
  by_cases hlt : k < l.length
  · rw [idxG_drop hlt] at hi
    have hf := hp _ (List.getElem_mem hlt)
    simp only [att, strs, List.cons_append, List.nil_append] at hf
    simp -implicitDefEqProofs [h0, h1, h7, h8, atts, att, strs, hlt]
    refine ⟨by simpa using hcs, callK hf ?_⟩
    by_cases he : p l[k] = true
    · simp -implicitDefEqProofs [h0, h1, h7, h8, atts, att, strs, hlt, he]
      rw [hi, if_pos he]
    · simp -implicitDefEqProofs [h0, h1, h7, h8, atts, att, strs, hlt, he]
      refine ⟨by omega, again hlt ⟨by simp [h0, atts, att, strs], by simp [h1], by simp [h7], by simp, ?_⟩⟩
      rw [hi, if_neg he]
  · simp -implicitDefEqProofs [h0, h1, h7, h8, atts, hlt]
    rw [hi, List.drop_eq_nil_of_le (by omega)]
    simp -implicitDefEqProofs [idxG]

end Go.Proofs.Tz

namespace Go.Proofs.Tz
open Go.Vw
set_option maxRecDepth 100000
set_option maxHeartbeats 4000000
set_option linter.unusedSimpArgs false

/-- Every string is short enough for the walk. -/
def FitS (l : List Str) : Prop := l.length < 1000000 ∧ ∀ v ∈ l, List.length v < 1000000

theorem values_fn (l : List Str) (hl : FitS l) : Ctr Tryz.prog 51 [.d (strs l)] (.d (.int .i64 (chkV [] [] l))) := by
  refine fn_of_vwp (fun _ => false) (by kernel_rfl) Tryz.func51 (by kernel_rfl) rfl rfl (Nat.le_of_ble_eq_true rfl) (by kernel_rfl) rfl rfl ?_
  obtain ⟨hl, hv⟩ := hl
  simp -implicitDefEqProofs [strs]
  refine loopN l.length (fun k τ => τ 0 = .d (.sl (l.map .str)) ∧ τ 5 = .d (.sl (l.map .str)) ∧ τ 6 = .d (.int .i64 l.length) ∧ τ 7 = .d (.int .i64 k) ∧ chkV [] [] l = chkV [] (l.take k) (l.drop k)) (by simp) ?_
  rintro k τ hk ⟨h0, h5, h6, h7, hc⟩
  by_cases hlt : k < l.length
  · rw [chkV_drop hlt] at hc
    simp -implicitDefEqProofs [h0, h5, h6, h7, hlt]
    refine callK (fclean_fn l[k] (hv _ (List.getElem_mem hlt))) ?_
    rw [cleanF_eq]
    by_cases e1 : cleanB l[k] = true
    · simp -implicitDefEqProofs [h0, h5, h6, h7, hlt, e1]
      have hf := contains_fn (l.take k) l[k] (by rw [List.length_take]; omega)
      simp only [strs, List.map_take] at hf
      refine ⟨hk, callK hf ?_⟩
      by_cases e3 : l[k] ∈ l.take k
      · simp -implicitDefEqProofs [h0, h5, h6, h7, hlt, e1, e3]
        rw [hc]; simp [e1, e3]
      · simp -implicitDefEqProofs [h0, h5, h6, h7, hlt, e1, e3]
        refine ⟨by omega, again hlt ⟨by simp [h0], by simp [h5], by simp [h6], by simp, ?_⟩⟩
        rw [hc]; simp [e1, e3]
    · simp -implicitDefEqProofs [h0, h5, h6, h7, hlt, e1]
      rw [hc]; simp [e1]
  · simp -implicitDefEqProofs [h0, h5, h6, h7, hlt]
    rw [hc, List.drop_eq_nil_of_le (by omega)]
    simp [chkV]

/-- The strings of attributes are short enough, too. -/
def FitV (l : List Att) : Prop := ∀ a ∈ l, ∀ v ∈ a.2, List.length v < 1000000

theorem check_fn (l : List Att) (hl : Fits l) (hv : FitV l) : Ctr Tryz.prog 23 [.d (atts l)] (.d (.int .i64 (checkL l))) := by
  refine fn_of_vwp (fun _ => false) (by kernel_rfl) Tryz.func23 (by kernel_rfl) rfl rfl (Nat.le_of_ble_eq_true rfl) (by kernel_rfl) rfl rfl ?_
  have hl1 := hl.1
  by_cases h32 : 32 < (l.length : Int)
  · have : 32 < l.length := by omega
    simp -implicitDefEqProofs [atts, checkL, h32, this]
    all_goals (intro h; omega)
  have h32' : ¬ 32 < l.length := by omega
  simp -implicitDefEqProofs [atts, h32]
  refine loopN l.length (fun k τ => τ 0 = .d (atts l) ∧ τ 11 = .d (atts l) ∧ τ 12 = .d (.int .i64 l.length) ∧ τ 13 = .d (.int .i64 k) ∧ checkL l = chkA (l.take k) (l.drop k)) (by simp [atts, checkL, h32']) ?_
  rintro k τ hk ⟨h0, h11, h12, h13, hc⟩
  by_cases hlt : k < l.length
  · rw [chkA_drop hlt] at hc
    simp -implicitDefEqProofs [h0, h11, h12, h13, hlt, atts, att, strs]
    refine callK (fname_fn l[k].1 (hl.2 _ (List.getElem_mem hlt)).1) ?_
    by_cases e1 : nameB l[k].1 = true
    · simp -implicitDefEqProofs [h0, h11, h12, h13, hlt, atts, att, strs, e1]
      refine ⟨hk, by rintro y n v _ rfl; rfl, ?_⟩
      refine loopN k (fun j τ => τ 0 = .d (atts l) ∧ τ 3 = .d (.int .i64 k) ∧ τ 4 = .box (att l[k]) ∧ τ 11 = .d (atts l) ∧ τ 12 = .d (.int .i64 l.length) ∧ τ 13 = .d (.int .i64 k) ∧ τ 24 = .d (atts (l.take k)) ∧ τ 25 = .d (.int .i64 k) ∧ τ 26 = .d (.int .i64 j) ∧ (l.take j).any (fun c => decide (lower c.1 = lower l[k].1)) = false) ?_ ?_
      · refine ⟨?_, ?_, ?_, ?_, ?_, ?_, ?_, ?_, ?_, ?_⟩
        all_goals simp [h0, h11, h12, h13, atts, att, strs, List.map_take]
        all_goals omega
      clear h0 h11 h12 h13 τ
      rintro j τ hj ⟨h0, h3, h4, h11, h12, h13, h24, h25, h26, hn⟩
      by_cases hjk : j < k
      · have hjl : j < l.length := by omega
        simp -implicitDefEqProofs [h0, h3, h4, h11, h12, h13, h24, h25, h26, hjk, hjl, hlt, atts, att, strs]
        refine callP (foldLower_fn _ (hl.2 _ (List.getElem_mem hlt)).1) ?_
        simp -implicitDefEqProofs [h0, h3, h4, h11, h12, h13, h24, h25, h26, hjk, hjl, hlt, atts, att, strs]
        refine callP (foldLower_fn _ (hl.2 _ (List.getElem_mem hjl)).1) ?_
        by_cases he : lower l[j].1 = lower l[k].1
        · simp -implicitDefEqProofs [h0, h3, h4, h11, h12, h13, h24, h25, h26, hjk, hjl, hlt, atts, att, strs, he]
          have e2 : (l.take k).any (fun c => decide (lower c.1 = lower l[k].1)) = true := List.any_eq_true.2 ⟨l[j], List.mem_iff_getElem.2 ⟨j, by simp; omega, by simp⟩, by simpa using he⟩
          rw [hc, if_neg (by simp [e1]), if_pos e2]
        · have he' : ¬ lower l[k].1 = lower l[j].1 := fun e => he e.symm
          simp -implicitDefEqProofs [h0, h3, h4, h11, h12, h13, h24, h25, h26, hjk, hjl, hlt, atts, att, strs, he, he']
          refine ⟨by omega, again hjk ⟨?_, ?_, ?_, ?_, ?_, ?_, ?_, ?_, ?_, ?_⟩⟩
          all_goals first | (simp [h0, h3, h4, h11, h12, h13, h24, h25, h26, atts, att, strs]; done) | skip
          rw [take_s hjl]
          intro a b hab e
          rcases List.mem_append.1 hab with h | h
          · exact List.any_eq_false.1 hn _ h (by simpa using e)
          · have : l[j].1 = a := by rw [← List.mem_singleton.1 h]
            exact he (by rw [this]; exact e)
      · have hjk2 : j = k := by omega
        subst hjk2
        by_cases e3 : l[j].2 = []
        · simp -implicitDefEqProofs [h0, h3, h4, h11, h12, h13, h24, h25, h26, hlt, atts, att, strs, e3]
          rw [hc]; simp [e1, hn, e3]
        · by_cases e4 : 16 < (l[j].2.length : Int)
          · have e4' : 16 < l[j].2.length := by omega
            simp -implicitDefEqProofs [h0, h3, h4, h11, h12, h13, h24, h25, h26, hlt, atts, att, strs, e3, e4]
            rw [hc]; simp only [e1, hn, if_false, Bool.true_eq_false, Bool.false_eq_true, List.length_eq_zero_iff, e3, e4', if_true]
          · have e4' : ¬ 16 < l[j].2.length := by omega
            simp -implicitDefEqProofs [h0, h3, h4, h11, h12, h13, h24, h25, h26, hlt, atts, att, strs, e3, e4]
            have hf := values_fn l[j].2 ⟨(hl.2 _ (List.getElem_mem hlt)).2, hv _ (List.getElem_mem hlt)⟩
            simp only [strs] at hf
            refine callK hf ?_
            by_cases e5 : chkV [] [] l[j].2 = 0
            · simp -implicitDefEqProofs [h0, h3, h4, h11, h12, h13, h24, h25, h26, hlt, atts, att, strs, e3, e4, e5]
              refine ⟨by omega, again hlt ⟨by simp [h0, atts, att, strs], by simp [h11, atts, att, strs], by simp [h12], by simp, ?_⟩⟩
              rw [hc]; simp only [e1, hn, e3, e4', e5, if_false, Bool.true_eq_false, Bool.false_eq_true, List.length_eq_zero_iff, ne_eq, not_true_eq_false]
            · simp -implicitDefEqProofs [h0, h3, h4, h11, h12, h13, h24, h25, h26, hlt, atts, att, strs, e3, e4, e5]
              rw [hc]; simp only [e1, hn, e3, e4', e5, if_false, Bool.true_eq_false, Bool.false_eq_true, List.length_eq_zero_iff, ne_eq, not_false_eq_true, if_true]
    · simp -implicitDefEqProofs [h0, h11, h12, h13, hlt, atts, att, strs, e1]
      rw [hc]; simp [e1]
  · simp -implicitDefEqProofs [h0, h11, h12, h13, hlt, atts]
    rw [hc, List.drop_eq_nil_of_le (by omega)]
    first | exact ⟨by omega, by simp [chkA]⟩ | (simp [chkV, chkA]; done)
end Go.Proofs.Tz

namespace Go.Proofs.Tz
open Go.Vw
set_option maxRecDepth 100000
set_option maxHeartbeats 4000000
set_option linter.unusedSimpArgs false

/-- The head of a slice. -/
abbrev Sl := Option Addr × Nat × Nat

/-- A row of two cells, one of which bears a named slice. -/
def rw2 (x : Str × Sl) : D := .agg [.str x.1, .raw (.slice x.2.1 x.2.2.1 x.2.2.2)]

def idxR {α : Type} (p : α → Bool) : Nat → List α → Int
  | _, [] => -1
  | k, x :: l => if p x then k else idxR p (k + 1) l
theorem idxR_drop {α : Type} {p : α → Bool} {l : List α} {k : Nat} (h : k < l.length) : idxR p k (l.drop k) = if p l[k] then (k : Int) else idxR p (k + 1) (l.drop (k + 1)) := by
  rw [List.drop_eq_getElem_cons h, idxR]

/-- slices.IndexFunc of rows with named slices. -/
theorem indexR_fn (g : FuncId) (cs : List D) (hcs : (cs.all fun c => !c.isAgg) = true) (p : Str × Sl → Bool) (l : List (Str × Sl)) (hl : l.length < 1000000) (hp : ∀ a ∈ l, Ctr Tryz.prog g ([.d (rw2 a)] ++ cs.map .d) (.d (.bool (p a)))) :
    Ctr Tryz.prog 52 [.d (.sl (l.map rw2)), .d (.clo g cs)] (.d (.int .i64 (idxR p 0 l))) := by
  refine fn_of_vwp (fun _ => false) (by kernel_rfl) Tryz.func52 (by kernel_rfl) rfl rfl (Nat.le_of_ble_eq_true rfl) (by kernel_rfl) rfl rfl ?_
  simp -implicitDefEqProofs
  refine loopN l.length (fun k τ => τ 0 = .d (.sl (l.map rw2)) ∧ τ 1 = .d (.clo g cs) ∧ τ 7 = .d (.int .i64 l.length) ∧ τ 8 = .d (.int .i64 k) ∧ idxR p 0 l = idxR p k (l.drop k)) (by simp) ?_
  rintro k τ hk ⟨h0, h1, h7, h8, hi⟩
  by_cases hlt : k < l.length
  · rw [idxR_drop hlt] at hi
    have hf := hp _ (List.getElem_mem hlt)
    simp only [rw2, List.cons_append, List.nil_append] at hf
    simp -implicitDefEqProofs [h0, h1, h7, h8, rw2, hlt]
    refine ⟨by simpa using hcs, callK hf ?_⟩
    by_cases he : p l[k] = true
    · simp -implicitDefEqProofs [h0, h1, h7, h8, rw2, hlt, he]
      rw [hi, if_pos he]
    · simp -implicitDefEqProofs [h0, h1, h7, h8, rw2, hlt, he]
      refine ⟨by omega, again hlt ⟨by simp [h0, rw2], by simp [h1], by simp [h7], by simp, ?_⟩⟩
      rw [hi, if_neg he]
  · simp -implicitDefEqProofs [h0, h1, h7, h8, hlt]
    rw [hi, List.drop_eq_nil_of_le (by omega)]
    simp -implicitDefEqProofs [idxR]

theorem idxR_neg {α : Type} (p : α → Bool) : ∀ (l : List α) (k : Nat), idxR p k l = -1 → l.filter (fun x => !p x) = l
  | [], k, _ => rfl
  | x :: l, k, h => by
    rw [idxR] at h
    by_cases hx : p x = true
    · rw [if_pos hx] at h; omega
    · rw [if_neg hx] at h
      simp -implicitDefEqProofs [hx, idxR_neg p l (k + 1) h]
theorem idxR_pos {α : Type} (p : α → Bool) : ∀ (l : List α) (k : Nat), idxR p k l ≠ -1 → ∃ i : Nat, idxR p k l = ((k + i : Nat) : Int) ∧ i < l.length ∧ (l.take i).filter (fun x => !p x) = l.take i ∧ (l.take (i + 1)).filter (fun x => !p x) = l.take i
  | [], k, h => absurd rfl h
  | x :: l, k, h => by
    rw [idxR] at h ⊢
    by_cases hx : p x = true
    · rw [if_pos hx]
      exact ⟨0, by simp, by simp, by simp, by simp [hx]⟩
    · rw [if_neg hx] at h ⊢
      obtain ⟨i, h1, h2, h3, h4⟩ := idxR_pos p l (k + 1) h
      refine ⟨i + 1, by rw [h1]; omega, by simpa using h2, ?_, ?_⟩
      · simp -implicitDefEqProofs [hx, h3]
      · rw [List.take_succ_cons, List.filter_cons, if_pos (by simp [hx]), h4, List.take_succ_cons]

theorem deleteR_fn (g : FuncId) (cs : List D) (hcs : (cs.all fun c => !c.isAgg) = true) (p : Str × Sl → Bool) (l : List (Str × Sl)) (hl : l.length < 1000000) (hp : ∀ a ∈ l, Ctr Tryz.prog g ([.d (rw2 a)] ++ cs.map .d) (.d (.bool (p a)))) :
    Ctr Tryz.prog 54 [.own true 39 (l.map rw2), .d (.clo g cs)] (.own true 39 ((l.filter fun x => !p x).map rw2)) := by
  refine fn_of_vwp (fun i => i == 2000010) (by kernel_rfl) Tryz.func54 (by kernel_rfl) rfl rfl (Nat.le_of_ble_eq_true rfl) (by kernel_rfl) rfl rfl ?_
  simp -implicitDefEqProofs
  refine ⟨_, rfl, indexR_fn g cs hcs p l hl hp, ?_⟩
  by_cases hn : idxR p 0 l = -1
  · simp -implicitDefEqProofs [hn, idxR_neg p l 0 hn]
  · obtain ⟨i, h1, h2, h3, h4⟩ := idxR_pos p l 0 hn
    simp only [Nat.zero_add] at h1
    have e1 : ¬ ((i : Int) = -1) := by omega
    simp -implicitDefEqProofs [h1, e1]
    refine ⟨by omega, ?_⟩
    refine loopK (fun n τ => ∃ (j q : Nat) (m : List (Str × Sl)), n = l.length - j ∧ j ≤ l.length ∧ τ 0 = .own true 39 (m.map rw2) ∧ τ 1 = .d (.clo g cs) ∧ τ 5 = .d (.int .i64 q) ∧ τ 6 = .d (.int .i64 j) ∧ m.length = l.length ∧ q < j ∧ m.take q = (l.take j).filter (fun x => !p x) ∧ m.drop j = l.drop j)
      (l.length - (i + 1)) ⟨i + 1, i, l, rfl, by omega, by simp, by simp, by simp, by simp, rfl, by omega, h4.symm, rfl⟩ ?_
    rintro n τ ⟨j, q, m, rfl, hj, g0, g1, g5, g6, hm, hq, ht, hd⟩
    by_cases hlt : j < l.length
    · have hmj : m[j]'(by omega) = l[j] := by
        have := congrArg (fun x : List (Str × Sl) => x[0]?) hd
        simpa [hlt, hm] using this
      have hf := hp _ (List.getElem_mem hlt)
      simp only [rw2, List.cons_append, List.nil_append] at hf
      have hlt' : (j : Int) < l.length := by omega
      have hf' := hf
      simp -implicitDefEqProofs [g0, g1, g5, g6, hm, hlt', hlt, rw2, hmj]
      refine ⟨by simpa using hcs, callK hf ?_⟩
      by_cases he : p l[j] = true
      · simp -implicitDefEqProofs [g0, g1, g5, g6, hm, hlt', hlt, rw2, hmj, he]
        refine ⟨by omega, _, ?_, j + 1, rfl, by omega, q, m, rfl, rfl, by omega, hm, by omega, ?_, ?_⟩
        · omega
        · rw [take_s hlt, List.filter_append, ht]; simp [he]
        · rw [← List.drop_drop, hd, List.drop_drop]
      · have hq2 : q < m.length := by omega
        have hqq : m[q]? = some m[q] := List.getElem?_eq_getElem hq2
        simp -implicitDefEqProofs [g0, g1, g5, g6, hm, hlt', hlt, rw2, hmj, he, hqq]
        refine ⟨by omega, by omega, by omega, _, ?_, j + 1, rfl, by omega, q + 1, m.set q l[j], ?_, by simp, by simp, by simpa using hm, by omega, ?_, ?_⟩
        · omega
        · rw [List.map_set]; rfl
        · rw [List.take_set, take_s hq2, List.set_append_right _ _ (by simp; omega)]
          simp only [List.length_take, Nat.min_eq_left (Nat.le_of_lt hq2), Nat.sub_self, List.set_cons_zero]
          rw [take_s hlt, List.filter_append, ht]; simp [he]
        · rw [List.drop_set_of_lt (by omega), ← List.drop_drop, hd, List.drop_drop]
    · simp -implicitDefEqProofs [g0, g1, g5, g6, hm, hlt]
      have hjl : j = l.length := by omega
      subst hjl
      refine ⟨by omega, by omega, ?_⟩
      rw [List.take_append_of_le_length (by simp; omega), List.take_take, Nat.min_self, ← List.map_take, ht, List.take_length]
end Go.Proofs.Tz

/-
  DERIVED: THE SHELF's CONTRACTS AT THIS DUMP, IN PLAIN WORDS (tools/lay-plain.mjs out of 'RtShP.lean', which tools/lay-shelf.mjs wrote): THE SAME DECLARATIONS UNDER THE SAME NAMES: 'import', 'namespace', 'open', 'def', 'theorem' AND NOTHING ELSE: no command of the shelf's: FOR A HAND-IN. Each laying: the table of numbers ('.._ren') and one theorem, a field a fact of the dump's own or the kernel's comparison; each contract: ONE APPLICATION.
-/
namespace Go.Proofs
open Go.Shelf
def Tryz.layS_ren : Go.Shelf.Ren := ⟨fun | 6 => 56 | 8 => 76 | 9 => 75 | 19 => 106 | 20 => 107 | 21 => 97 | 22 => 98 | 23 => 99 | 24 => 100 | 25 => 101 | 26 => 102 | 27 => 103 | 28 => 104 | 29 => 105 | 36 => 126 | 31 => 127 | 32 => 128 | 37 => 129 | 38 => 130 | 39 => 131 | 41 => 140 | n => n, fun | 27 => 24 | 29 => 9 | 3 => 3 | 32 => 97 | 26 => 24 | 0 => 0 | 44 => 129 | 46 => 131 | 4 => 4 | 36 => 123 | 35 => 122 | 41 => 126 | 5 => 5 | 9 => 9 | 53 => 144 | 57 => 148 | 63 => 154 | 64 => 155 | n => n, fun | n => n⟩
theorem Tryz.layS : Go.Proofs.SlLaysM.n6 Tryz.prog Tryz.layS_ren := {
  mixed := by kernel_rfl
  f6 := ⟨Tryz.f56.name, by decide, Tryz.func56.trans (congrArg some (by kernel_rfl))⟩
  f8 := Tryz.func76.trans (congrArg some (by kernel_rfl))
  f9 := ⟨Tryz.f75.name, by decide, Tryz.func75.trans (congrArg some (by kernel_rfl))⟩
  f19 := Tryz.func106.trans (congrArg some (by kernel_rfl))
  f20 := Tryz.func107.trans (congrArg some (by kernel_rfl))
  f21 := ⟨Tryz.f97.name, by decide, Tryz.func97.trans (congrArg some (by kernel_rfl))⟩
  f22 := ⟨Tryz.f98.name, by decide, Tryz.func98.trans (congrArg some (by kernel_rfl))⟩
  f23 := ⟨Tryz.f99.name, by decide, Tryz.func99.trans (congrArg some (by kernel_rfl))⟩
  f24 := ⟨Tryz.f100.name, by decide, Tryz.func100.trans (congrArg some (by kernel_rfl))⟩
  f25 := ⟨Tryz.f101.name, by decide, Tryz.func101.trans (congrArg some (by kernel_rfl))⟩
  f26 := ⟨Tryz.f102.name, by decide, Tryz.func102.trans (congrArg some (by kernel_rfl))⟩
  f27 := ⟨Tryz.f103.name, by decide, Tryz.func103.trans (congrArg some (by kernel_rfl))⟩
  f28 := ⟨Tryz.f104.name, by decide, Tryz.func104.trans (congrArg some (by kernel_rfl))⟩
  f29 := ⟨Tryz.f105.name, by decide, Tryz.func105.trans (congrArg some (by kernel_rfl))⟩
  f31 := Tryz.func127.trans (congrArg some (by kernel_rfl))
  f32 := Tryz.func128.trans (congrArg some (by kernel_rfl))
  f36 := ⟨Tryz.f126.name, by decide, Tryz.func126.trans (congrArg some (by kernel_rfl))⟩
  f37 := ⟨Tryz.f129.name, by decide, Tryz.func129.trans (congrArg some (by kernel_rfl))⟩
  f38 := ⟨Tryz.f130.name, by decide, Tryz.func130.trans (congrArg some (by kernel_rfl))⟩
  f39 := ⟨Tryz.f131.name, by decide, Tryz.func131.trans (congrArg some (by kernel_rfl))⟩
  f41 := ⟨Tryz.f140.name, by decide, Tryz.func140.trans (congrArg some (by kernel_rfl))⟩
  t0 := Tryz.underlying0
  a0 := Tryz.isAgg0
  z0 := Tryz.sizeOf0
  v0 := Tryz.zeroValue0
  t3 := Tryz.underlying3
  a3 := Tryz.isAgg3
  z3 := Tryz.sizeOf3
  v3 := Tryz.zeroValue3
  t4 := Tryz.underlying4
  a4 := Tryz.isAgg4
  z4 := Tryz.sizeOf4
  v4 := Tryz.zeroValue4
  t5 := Tryz.underlying5
  a5 := Tryz.isAgg5
  z5 := Tryz.sizeOf5
  v5 := Tryz.zeroValue5
  t9 := Tryz.underlying9
  a9 := Tryz.isAgg9
  z9 := Tryz.sizeOf9
  v9 := Tryz.zeroValue9
  t26 := Tryz.underlying24
  a26 := Tryz.isAgg24
  z26 := Tryz.sizeOf24
  v26 := Tryz.zeroValue24
  t27 := Tryz.underlying24
  a27 := Tryz.isAgg24
  z27 := Tryz.sizeOf24
  v27 := Tryz.zeroValue24
  t29 := Tryz.underlying9
  a29 := Tryz.isAgg9
  z29 := Tryz.sizeOf9
  v29 := Tryz.zeroValue9
  t32 := Tryz.underlying97
  a32 := Tryz.isAgg97
  z32 := Tryz.sizeOf97
  v32 := Tryz.zeroValue97
  t35 := Tryz.underlying122
  a35 := Tryz.isAgg122
  z35 := Tryz.sizeOf122
  v35 := Tryz.zeroValue122
  t36 := Tryz.underlying123
  a36 := Tryz.isAgg123
  z36 := Tryz.sizeOf123
  v36 := Tryz.zeroValue123
  t41 := Tryz.underlying126
  a41 := Tryz.isAgg126
  z41 := Tryz.sizeOf126
  v41 := Tryz.zeroValue126
  t44 := Tryz.underlying129
  a44 := Tryz.isAgg129
  z44 := Tryz.sizeOf129
  v44 := Tryz.zeroValue129
  t46 := Tryz.underlying131
  a46 := Tryz.isAgg131
  z46 := Tryz.sizeOf131
  v46 := Tryz.zeroValue131
  t53 := Tryz.underlying144
  a53 := Tryz.isAgg144
  z53 := Tryz.sizeOf144
  v53 := Tryz.zeroValue144
  t57 := Tryz.underlying148
  a57 := Tryz.isAgg148
  z57 := Tryz.sizeOf148
  v57 := Tryz.zeroValue148
  t63 := Tryz.underlying154
  a63 := Tryz.isAgg154
  z63 := Tryz.sizeOf154
  v63 := Tryz.zeroValue154
  t64 := Tryz.underlying155
  a64 := Tryz.isAgg155
  z64 := Tryz.sizeOf155
  v64 := Tryz.zeroValue155 }
def Tryz.layF_ren : Go.Shelf.Ren := ⟨fun | 6 => 58 | 15 => 76 | 14 => 77 | 28 => 106 | 29 => 107 | 20 => 108 | 21 => 109 | 22 => 110 | 23 => 111 | 24 => 112 | 25 => 113 | 26 => 114 | 27 => 115 | 46 => 132 | 47 => 127 | 48 => 128 | 49 => 133 | 50 => 134 | 57 => 141 | n => n, fun | 22 => 22 | 24 => 39 | 25 => 89 | 3 => 3 | 39 => 97 | 0 => 0 | 53 => 129 | 55 => 131 | 4 => 4 | 46 => 123 | 45 => 122 | 50 => 126 | 5 => 5 | 9 => 9 | 66 => 144 | 70 => 148 | 76 => 154 | 77 => 155 | n => n, fun | n => n⟩
theorem Tryz.layF : Go.Proofs.SlLaysF0.n6 Tryz.prog Tryz.layF_ren := {
  mixed := by kernel_rfl
  f6 := ⟨Tryz.f58.name, by decide, Tryz.func58.trans (congrArg some (by kernel_rfl))⟩
  f14 := ⟨Tryz.f77.name, by decide, Tryz.func77.trans (congrArg some (by kernel_rfl))⟩
  f15 := Tryz.func76.trans (congrArg some (by kernel_rfl))
  f20 := ⟨Tryz.f108.name, by decide, Tryz.func108.trans (congrArg some (by kernel_rfl))⟩
  f21 := ⟨Tryz.f109.name, by decide, Tryz.func109.trans (congrArg some (by kernel_rfl))⟩
  f22 := ⟨Tryz.f110.name, by decide, Tryz.func110.trans (congrArg some (by kernel_rfl))⟩
  f23 := ⟨Tryz.f111.name, by decide, Tryz.func111.trans (congrArg some (by kernel_rfl))⟩
  f24 := ⟨Tryz.f112.name, by decide, Tryz.func112.trans (congrArg some (by kernel_rfl))⟩
  f25 := ⟨Tryz.f113.name, by decide, Tryz.func113.trans (congrArg some (by kernel_rfl))⟩
  f26 := ⟨Tryz.f114.name, by decide, Tryz.func114.trans (congrArg some (by kernel_rfl))⟩
  f27 := ⟨Tryz.f115.name, by decide, Tryz.func115.trans (congrArg some (by kernel_rfl))⟩
  f28 := Tryz.func106.trans (congrArg some (by kernel_rfl))
  f29 := Tryz.func107.trans (congrArg some (by kernel_rfl))
  f46 := ⟨Tryz.f132.name, by decide, Tryz.func132.trans (congrArg some (by kernel_rfl))⟩
  f47 := Tryz.func127.trans (congrArg some (by kernel_rfl))
  f48 := Tryz.func128.trans (congrArg some (by kernel_rfl))
  f49 := ⟨Tryz.f133.name, by decide, Tryz.func133.trans (congrArg some (by kernel_rfl))⟩
  f50 := ⟨Tryz.f134.name, by decide, Tryz.func134.trans (congrArg some (by kernel_rfl))⟩
  f57 := ⟨Tryz.f141.name, by decide, Tryz.func141.trans (congrArg some (by kernel_rfl))⟩
  t0 := Tryz.underlying0
  a0 := Tryz.isAgg0
  z0 := Tryz.sizeOf0
  v0 := Tryz.zeroValue0
  t3 := Tryz.underlying3
  a3 := Tryz.isAgg3
  z3 := Tryz.sizeOf3
  v3 := Tryz.zeroValue3
  t4 := Tryz.underlying4
  a4 := Tryz.isAgg4
  z4 := Tryz.sizeOf4
  v4 := Tryz.zeroValue4
  t5 := Tryz.underlying5
  a5 := Tryz.isAgg5
  z5 := Tryz.sizeOf5
  v5 := Tryz.zeroValue5
  t9 := Tryz.underlying9
  a9 := Tryz.isAgg9
  z9 := Tryz.sizeOf9
  v9 := Tryz.zeroValue9
  t22 := Tryz.underlying22
  a22 := Tryz.isAgg22
  z22 := Tryz.sizeOf22
  v22 := Tryz.zeroValue22
  t25 := Tryz.underlying89
  a25 := Tryz.isAgg89
  z25 := Tryz.sizeOf89
  v25 := Tryz.zeroValue89
  t39 := Tryz.underlying97
  a39 := Tryz.isAgg97
  z39 := Tryz.sizeOf97
  v39 := Tryz.zeroValue97
  t45 := Tryz.underlying122
  a45 := Tryz.isAgg122
  z45 := Tryz.sizeOf122
  v45 := Tryz.zeroValue122
  t46 := Tryz.underlying123
  a46 := Tryz.isAgg123
  z46 := Tryz.sizeOf123
  v46 := Tryz.zeroValue123
  t50 := Tryz.underlying126
  a50 := Tryz.isAgg126
  z50 := Tryz.sizeOf126
  v50 := Tryz.zeroValue126
  t53 := Tryz.underlying129
  a53 := Tryz.isAgg129
  z53 := Tryz.sizeOf129
  v53 := Tryz.zeroValue129
  t55 := Tryz.underlying131
  a55 := Tryz.isAgg131
  z55 := Tryz.sizeOf131
  v55 := Tryz.zeroValue131
  t66 := Tryz.underlying144
  a66 := Tryz.isAgg144
  z66 := Tryz.sizeOf144
  v66 := Tryz.zeroValue144
  t70 := Tryz.underlying148
  a70 := Tryz.isAgg148
  z70 := Tryz.sizeOf148
  v70 := Tryz.zeroValue148
  t76 := Tryz.underlying154
  a76 := Tryz.isAgg154
  z76 := Tryz.sizeOf154
  v76 := Tryz.zeroValue154
  t77 := Tryz.underlying155
  a77 := Tryz.isAgg155
  z77 := Tryz.sizeOf155
  v77 := Tryz.zeroValue155 }
def Tryz.layC_ren : Go.Shelf.Ren := ⟨fun | 44 => 57 | n => n, fun | 25 => 24 | 26 => 9 | 3 => 3 | 4 => 4 | 0 => 0 | n => n, fun | n => n⟩
theorem Tryz.layC : Go.Proofs.SlLaysN.n44 Tryz.prog Tryz.layC_ren := {
  mixed := by kernel_rfl
  f44 := ⟨Tryz.f57.name, by decide, Tryz.func57.trans (congrArg some (by kernel_rfl))⟩
  t0 := Tryz.underlying0
  a0 := Tryz.isAgg0
  z0 := Tryz.sizeOf0
  v0 := Tryz.zeroValue0
  t3 := Tryz.underlying3
  a3 := Tryz.isAgg3
  z3 := Tryz.sizeOf3
  v3 := Tryz.zeroValue3
  t4 := Tryz.underlying4
  a4 := Tryz.isAgg4
  z4 := Tryz.sizeOf4
  v4 := Tryz.zeroValue4
  t25 := Tryz.underlying24
  a25 := Tryz.isAgg24
  z25 := Tryz.sizeOf24
  v25 := Tryz.zeroValue24
  t26 := Tryz.underlying9
  a26 := Tryz.isAgg9
  z26 := Tryz.sizeOf9
  v26 := Tryz.zeroValue9
  i26 := by kernel_rfl }
end Go.Proofs

namespace Go.Proofs.Tz
open Go.Vw Go.Sort Go.RowKit
set_option maxRecDepth 100000
set_option maxHeartbeats 4000000
set_option linter.unusedSimpArgs false

theorem strs_rep (w : World) (L : Nat → Nat → Prop) : ∀ (l : List Str), RepL w L (l.map .str) (l.map fun s => [encStr s])
  | [] => by simp [RepL]
  | s :: l => by
    simp only [List.map_cons, RepL]
    exact ⟨_, _, rfl, by simp [Rep, encStr], strs_rep w L l⟩
theorem strs_flat : ∀ (l : List Str), (l.map fun s => [encStr s]).flatten = l.map encStr
  | [] => rfl
  | s :: l => by simp [strs_flat l]
theorem strs_only {w : World} {L : Nat → Nat → Prop} : ∀ {l : List Str} {css : List (List Value)}, RepL w L (l.map .str) css → css = l.map fun s => [encStr s]
  | [], css, h => by simpa [RepL] using h
  | s :: l, css, h => by
    simp only [List.map_cons, RepL] at h
    obtain ⟨c, cs, rfl, h1, h2⟩ := h
    rw [strs_only h2]
    simp only [Rep] at h1
    subst h1
    rfl

/-- The strings in order. -/
def sortS (l : List Str) : List Str := l.mergeSort fun x y => decide (x ≤ y)

theorem holds_strs {w : World} {g : Nat} {l : List Str} (h : Holds id w g 0 (l.map encStr).toArray) : Holds encStr w g 0 l.toArray := by
  intro j hj
  have hj' : j < l.length := by simpa using hj
  have := h j (by simpa using hj')
  simpa [hj'] using this

theorem sort_fn (l : List Str) (hl : l.length < 1000000) : CtrI Tryz.prog 56 9 (l.map .str) [] ((sortS l).map .str) := by
  refine ⟨enters_of Tryz.func56 (by kernel_rfl) rfl, fun w L og v vals hlok hgl hown hrc => ?_⟩
  simp only [RCs] at hrc
  subst hrc
  obtain ⟨css0, sz0, g1, g2, g3, g4, g5⟩ := id hown
  rcases g4.2 with ⟨hv, hn⟩ | ⟨g, cap, cur, hv, _⟩
  · have hl0 : l = [] := by simpa using hn
    subst hl0
    subst hv
    have h := AnyM.slices_Sort_string_none Tryz.layS none 0 w
    change Calls Tryz.prog 56 _ _ _ at h
    refine h.mono ?_
    rintro e w' ⟨rfl, rfl⟩
    exact ⟨L, rfl, GrownS.refl _ _, hlok, fun _ _ _ _ => Iff.rfl, by simpa [sortS] using hown⟩
  · subst hv
    obtain ⟨css, h1, h2, h3, h4, h5⟩ := hown.holds
    have hcss := strs_only h1
    subst hcss
    rw [strs_flat] at h3
    have h := AnyM.slices_Sort_string Tryz.layS g 0 cap l w (holds_strs h3) h4 (by omega)
    change Calls Tryz.prog 56 _ _ _ at h
    rw [List.length_map]
    refine h.mono ?_
    rintro e w' ⟨rfl, n, os, rfl⟩
    rw [putRow_map encStr]
    have hlen : (sortS l).length = l.length := by simp [sortS]
    have hog := (hown.blk (g := g) rfl).1
    have hs := hown.sorted hlok (strs_rep w L (sortS l)) (by simp [hlen]) (fun sz hsz c hc => by
      obtain ⟨s, _, rfl⟩ := List.mem_map.1 hc
      rw [show (Tryz.prog.info? (ety 9)).map (·.size) = some 1 from Tryz.sz_9] at hsz
      simpa using hsz) n os (F := ((sortS l).map encStr).toArray) (by rw [strs_flat])
    rw [List.length_map] at hs
    have e : (List.map encStr (sortS l)).toArray = Array.map encStr (l.mergeSort fun x y => decide (x ≤ y)).toArray := by simp [sortS]
    rw [sortedW, e] at hs
    refine ⟨L, rfl, ?_, hs.2.2, fun _ _ _ _ => Iff.rfl, hs.1⟩
    rw [hog]; exact hs.2.1

/-- Rows with named slices, as the sort sees them. -/
def encR (x : Str × Sl) : List Value := [encStr x.1, .slice x.2.1 x.2.2.1 x.2.2.2]
theorem rows_rep (w : World) (L : Nat → Nat → Prop) : ∀ (l : List (Str × Sl)), RepL w L (l.map rw2) (l.map encR)
  | [] => by simp [RepL]
  | s :: l => by
    simp only [List.map_cons, RepL]
    refine ⟨_, _, rfl, ?_, rows_rep w L l⟩
    simp only [rw2, Rep, RepL]
    exact ⟨[[encStr s.1], [.slice s.2.1 s.2.2.1 s.2.2.2]], ⟨_, _, rfl, by simp [encStr], _, _, rfl, ⟨rfl, by simp [Value.oneCell'], rfl⟩, rfl⟩, rfl⟩
theorem rows_only {w : World} {L : Nat → Nat → Prop} : ∀ {l : List (Str × Sl)} {css : List (List Value)}, RepL w L (l.map rw2) css → css = l.map encR
  | [], css, h => by simpa [RepL] using h
  | s :: l, css, h => by
    simp only [List.map_cons, RepL] at h
    obtain ⟨c, cs, rfl, h1, h2⟩ := h
    simp only [rw2, Rep, RepL] at h1
    obtain ⟨css, ⟨_, _, rfl, rfl, _, _, rfl, ⟨rfl, h3, h4⟩, rfl⟩, rfl⟩ := h1
    rw [rows_only h2]; rfl

/-- Sorted$3: by name. -/
def cmpR (x y : Str × Sl) : Int := if Op.bytesLess x.1 y.1 then -1 else 1
end Go.Proofs.Tz

namespace Go.Proofs.Tz
open Go.Vw Go.Sort Go.RowKit Go.Lib
set_option maxRecDepth 100000
set_option maxHeartbeats 4000000
set_option linter.unusedSimpArgs false

theorem ltR (x y : Str × Sl) : ltOf cmpR x y = Op.bytesLess x.1 y.1 := by
  unfold ltOf cmpR
  cases Op.bytesLess x.1 y.1 <;> simp
theorem swoR : SWO (ltOf cmpR) where
  irrefl x := by rw [ltR, bytesLess_eq]; simp
  trans x y z h1 h2 := by
    rw [ltR, bytesLess_eq] at *
    simp only [decide_eq_true_eq] at *
    exact List.lt_trans h1 h2
  ntrans x y z h1 h2 := by
    rw [ltR, bytesLess_eq] at *
    simp only [decide_eq_false_iff_not, List.not_lt] at *
    exact List.le_trans h2 h1

theorem cmp_calls (a b : ByteArray) (u v : Value) (W : World) : Calls Tryz.prog 59 #[.agg #[.string a, u], .agg #[.string b, v]] W fun e w' => e = .returned (.int .i64 (if Op.bytesLess a.toList b.toList then -1 else 1)) ∧ ∃ q os', w' = grow (W.drewN q) os' := by
  cases hb : Op.bytesLess a.toList b.toList
  · go_enter Tryz.func59, Tryz.ntmps59
    go_wp2
    go_ret
    exact ⟨rfl, 0, _, by rw [alloc_eq_grow, alloc_eq_grow, grow_grow]; rfl⟩
  · go_enter Tryz.func59, Tryz.ntmps59
    go_wp2
    go_ret
    exact ⟨rfl, 0, _, by rw [alloc_eq_grow, alloc_eq_grow, grow_grow]; rfl⟩

instance : Inhabited (Str × Sl) := ⟨([], none, 0, 0)⟩
/-- The rows by name. -/
def sortR (l : List (Str × Sl)) : List (Str × Sl) := (pdq (ltOf cmpR) l.toArray 0 l.length (Lib.bitLen l.length) true true).toList

theorem sortR_perm (l : List (Str × Sl)) : (sortR l).Perm l ∧ ∀ i j (hij : i < j) (hj : j < (sortR l).length), Op.bytesLess (sortR l)[j].1 ((sortR l)[i]'(by omega)).1 = false := by
  have h := pdq_sorts (ltOf cmpR) swoR l.toArray 0 l.length (Lib.bitLen l.length) true true (Nat.zero_le _) (by simp) (Or.inl rfl)
  obtain ⟨⟨h1, h2, h3⟩, h4⟩ := h
  have hs : (sortR l).length = l.length := by simpa [sortR] using h1
  refine ⟨?_, fun i j hij hj => ?_⟩
  · have e1 : (pdq (ltOf cmpR) l.toArray 0 l.length (Lib.bitLen l.length) true true).extract 0 l.length = pdq (ltOf cmpR) l.toArray 0 l.length (Lib.bitLen l.length) true true := by
      apply Array.extract_eq_self_of_le; rw [h1]; simp
    rw [e1] at h3
    simpa [sortR] using h3
  · have := h4 i j (Nat.zero_le _) hij (by omega)
    rw [ltR] at this
    have hj' : j < (pdq (ltOf cmpR) l.toArray 0 l.length (Lib.bitLen l.length) true true).size := by simpa [sortR] using hj
    rw [getElem!_pos _ j hj', getElem!_pos _ i (by omega)] at this
    simpa [sortR] using this

theorem flatK_eq {α : Type} [Inhabited α] (enc : α → List Value) (k : Nat) (l : List α) (hk : ∀ x, (enc x).length = k) (hp : 0 < k) : flatK enc k l.toArray = (l.map enc).flatten.toArray := by
  have hfl : (l.map enc).flatten.length = l.length * k := by rw [flatten_sized (fun c hc => by obtain ⟨x, _, rfl⟩ := List.mem_map.1 hc; exact hk x), List.length_map]
  apply Array.ext
  · simp [flatK, hfl]
  · intro t h1 h2
    have ht : t < l.length * k := by simpa [flatK] using h1
    have hq : t / k < l.length := Nat.div_lt_of_lt_mul (by rw [Nat.mul_comm]; exact ht)
    have hr : t % k < (enc l[t / k]).length := by rw [hk]; exact Nat.mod_lt _ hp
    have := flatten_get (css := l.map enc) (sz := k) (fun c hc => by obtain ⟨x, _, rfl⟩ := List.mem_map.1 hc; exact hk x) (i := t / k) (c := enc l[t / k]) (by simp [hq]) (t % k) ((enc l[t / k])[t % k]) (List.getElem?_eq_getElem hr)
    rw [show t / k * k + t % k = t by rw [Nat.mul_comm]; exact Nat.div_add_mod t k] at this
    have e2 := (List.getElem?_eq_some_iff.1 this).2
    simp only [flatK, List.size_toArray, Array.getElem_map, Array.getElem_range, List.getElem_toArray]
    rw [e2, show (l.toArray[t / k]! : α) = l[t / k] by rw [getElem!_pos l.toArray _ (by simpa using hq)]; simp]
    exact getElem!_pos (enc l[t / k]) (t % k) hr

theorem sortR_fn (l : List (Str × Sl)) (hl : l.length < 1000000) : CtrI Tryz.prog 58 39 (l.map rw2) [.d (.clo 59 [])] ((sortR l).map rw2) := by
  refine ⟨enters_of Tryz.func58 (by kernel_rfl) rfl, fun w L og v vals hlok hgl hown hrc => ?_⟩
  simp only [RCs] at hrc
  obtain ⟨cv, us, rfl, hc1, rfl⟩ := hrc
  simp only [RC] at hc1
  obtain ⟨ccs, hcc, rfl⟩ := clo_inv hc1
  simp only [RepL] at hcc
  subst hcc
  simp only [List.flatten_nil]
  obtain ⟨css0, sz0, g1, g2, g3, g4, g5⟩ := id hown
  rcases g4.2 with ⟨hv, hn⟩ | ⟨g, cap, cur, hv, _⟩
  · have hl0 : l = [] := by simpa using hn
    subst hl0
    subst hv
    have h := AnyF.slices_SortFunc_none Tryz.layF none 0 (.func (.func 59) #[] #[]) w
    change Calls Tryz.prog 58 _ _ _ at h
    refine h.mono ?_
    rintro e w' ⟨rfl, rfl⟩
    have hnil : sortR [] = [] := List.Perm.eq_nil (sortR_perm []).1
    exact ⟨L, rfl, GrownS.refl _ _, hlok, fun _ _ _ _ => Iff.rfl, by rw [hnil]; exact hown⟩
  · subst hv
    obtain ⟨css, h1, h2, h3, h4, h5⟩ := hown.holds
    have hcss := rows_only h1
    subst hcss
    have hK : HoldsK encR 2 w g 0 l.toArray := by
      unfold HoldsK
      rw [flatK_eq encR 2 l (fun _ => rfl) (by omega)]
      exact h3
    have eg : ∀ args w, (callFunc 59 args).run Tryz.prog w = .ok (.enter 59 args) w := enters_of Tryz.func59 (by kernel_rfl) rfl
    have hcmp : CmpLays Tryz.prog 59 #[] encR 2 cmpR g 0 l.toArray.size w := fun m os dk _ x y => by
      have := cmp_calls ⟨x.1.toArray⟩ ⟨y.1.toArray⟩ (.slice x.2.1 x.2.2.1 x.2.2.2) (.slice y.2.1 y.2.2.1 y.2.2.2) (sortWorldK encR 2 w g 0 m dk os)
      simp only [Lib.toList_data] at this
      exact this
    have h := AnyQ.slices_SortFunc_eq Tryz.layF 2 Tryz.isAgg39 Tryz.sizeOf39 encR (fun _ => rfl) (fun x v hv => ?_) cmpR swoR 59 #[] g 0 cap l.toArray w eg hcmp hK h4 (by simp; omega)
    · change Calls Tryz.prog 58 _ _ _ at h
      simp only [List.size_toArray] at h
      rw [List.length_map]
      refine h.mono ?_
      rintro e w' ⟨rfl, n, os, rfl⟩
      have hp := (sortR_perm l).1
      have hlen : (sortR l).length = l.length := hp.length_eq
      have hog := (hown.blk (g := g) rfl).1
      have hs := hown.sorted hlok (rows_rep w L (sortR l)) (by simp [hlen]) (fun sz hsz c hc => by
        obtain ⟨s, _, rfl⟩ := List.mem_map.1 hc
        rw [show (Tryz.prog.info? (ety 39)).map (·.size) = some 2 from Tryz.sz_39] at hsz
        simpa [encR] using hsz) n os (F := ((sortR l).map encR).flatten.toArray) rfl
      rw [List.length_map] at hs
      have e : sortedW w g n ((sortR l).map encR).flatten.toArray os = sortWorldK encR 2 w g 0 n (pdq (ltOf cmpR) l.toArray 0 l.length (Lib.bitLen l.length) true true) os := by
        unfold sortedW sortWorldK putRowK
        rw [← flatK_eq encR 2 (sortR l) (fun _ => rfl) (by omega)]
        rfl
      rw [e] at hs
      refine ⟨L, rfl, ?_, hs.2.2, fun _ _ _ _ => Iff.rfl, hs.1⟩
      rw [hog]; exact hs.2.1
    · simp only [encR, List.mem_cons, List.not_mem_nil, or_false] at hv
      rcases hv with rfl | rfl <;> rfl
end Go.Proofs.Tz

namespace Go.Proofs.Tz
open Go.Vw Go.Sort Go.RowKit Go.Lib
set_option maxRecDepth 100000
set_option maxHeartbeats 4000000
set_option linter.unusedSimpArgs false

theorem strs_put {w : World} {L : Nat → Nat → Prop} {og : Option Nat} {g cap : Nat} {l : List Str} (hown : OwnR Tryz.prog w L og true 9 (l.map .str) (.slice (some ⟨g, 0, none⟩) l.length cap)) (hlok : ∀ b q, L b q → b < w.heap.size) (l' : List Str) (hl : l'.length = l.length) (q : Nat) :
    OwnR Tryz.prog (putRow encStr (Sort.ahead w q) g 0 l'.toArray) L og true 9 (l'.map .str) (.slice (some ⟨g, 0, none⟩) l.length cap) ∧ GrownS w (putRow encStr (Sort.ahead w q) g 0 l'.toArray) (optB (some g)) ∧ ∀ b p, L b p → b < (putRow encStr (Sort.ahead w q) g 0 l'.toArray).heap.size := by
  have hown' : OwnR Tryz.prog w L og true 9 (l.map .str) (.slice (some ⟨g, 0, none⟩) (l.map D.str).length cap) := by rw [List.length_map]; exact hown
  have hs := hown'.sorted hlok (strs_rep w L l') (by simp [hl]) (fun sz hsz c hc => by
    obtain ⟨s, _, rfl⟩ := List.mem_map.1 hc
    rw [show (Tryz.prog.info? (ety 9)).map (·.size) = some 1 from Tryz.sz_9] at hsz
    simpa using hsz) q #[] (F := (l'.map encStr).toArray) (by rw [strs_flat])
  rw [List.length_map] at hs
  have e : sortedW w g q (l'.map encStr).toArray #[] = putRow encStr (Sort.ahead w q) g 0 l'.toArray := by
    unfold sortedW
    rw [grow_empty, putRow_map encStr]
    simp
  rw [e] at hs
  exact hs

theorem strs_own {w : World} {L : Nat → Nat → Prop} {og : Option Nat} {l : List Str} {v : Value} (h : OwnR Tryz.prog w L og true 9 (l.map .str) v) :
    (v = .slice none 0 0 ∧ l = []) ∨ ∃ g cap, v = .slice (some ⟨g, 0, none⟩) l.length cap ∧ l.length ≤ cap ∧ cap ≤ maxLen ∧ Holds encStr w g 0 l.toArray ∧ g < w.heap.size ∧ og = some g := by
  obtain ⟨css0, sz0, g1, g2, g3, g4, g5⟩ := id h
  rcases g4.2 with ⟨hv, hn⟩ | ⟨g, cap, cur, hv, hh, hnc, hcm, _⟩
  · exact .inl ⟨hv, by simpa using hn⟩
  · subst hv
    obtain ⟨css, h1, h2, h3, h4, h5⟩ := h.holds
    have hcss := strs_only h1
    subst hcss
    rw [strs_flat] at h3
    exact .inr ⟨g, cap, by rw [List.length_map], by simpa using hnc, hcm, holds_strs h3, h4, (h.blk (g := g) rfl).1⟩

theorem compact_fn (l : List Str) (hl : l.length < 1000000) : Ctr Tryz.prog 57 [.own true 9 (l.map .str)] (.own true 9 ((compact l).map .str)) := by
  refine ⟨enters_of Tryz.func57 (by kernel_rfl) rfl, fun w L og vals hlok hgl hog hrc => ?_⟩
  simp only [RCs] at hrc
  obtain ⟨v, us, rfl, hown, rfl⟩ := hrc
  simp only [RC] at hown
  rcases strs_own hown with ⟨rfl, rfl⟩ | ⟨g, cap, rfl, hcap, hcm, hH, hg, hgo⟩
  · have h := AnyG.slices_Compact_string_empty Tryz.layC none 0 w
    change Calls Tryz.prog 57 _ _ _ at h
    refine h.mono ?_
    rintro e w' ⟨rfl, rfl⟩
    exact ⟨_, L, og, rfl, GrownS.refl _ _, hlok, fun _ _ _ _ => Iff.rfl, fun g hg => ⟨(hog g hg).1, .inr hg⟩, hown⟩
  · have h := AnyG.slices_Compact_string Tryz.layC g 0 cap l w hH (by omega) hcap
    change Calls Tryz.prog 57 _ _ _ at h
    refine h.mono ?_
    rintro e w' ⟨rfl, q, rfl⟩
    have hle := compact_length_le l
    have hp := strs_put hown hlok (compact l ++ List.replicate (l.length - (compact l).length) []) (by simp; omega) q
    refine ⟨_, L, og, rfl, by rw [hgo]; exact hp.2.1, hp.2.2, fun _ _ _ _ => Iff.rfl, fun b hb => ?_, ?_⟩
    · refine ⟨Nat.lt_of_lt_of_le (hog b hb).1 hp.2.1.size, .inr hb⟩
    · simp only [RC]
      have := hp.1.cut (hi := (compact l).length) (m := cap) (by simp) (by omega) (Nat.le_refl _)
      rw [← List.map_take, List.take_left] at this
      exact this

end Go.Proofs.Tz

namespace Go.Proofs.Tz
open Go.Vw
set_option maxRecDepth 100000
set_option maxHeartbeats 8000000
set_option linter.unusedSimpArgs false

theorem sortedQ_fn (x : Str × Sl) (n : Str) : Ctr Tryz.prog 53 [.d (rw2 x), .d (.ref (.str n))] (.d (.bool (decide (x.1 = n)))) := by
  refine fn_of_vwp (fun _ => false) (by kernel_rfl) Tryz.func53 (by kernel_rfl) rfl rfl (Nat.le_of_ble_eq_true rfl) (by kernel_rfl) rfl rfl ?_
  simp -implicitDefEqProofs [rw2]
theorem emptyQ_fn (x : Str × Sl) : Ctr Tryz.prog 55 [.d (rw2 x)] (.d (.bool (decide (x.2.2.1 = 0)))) := by
  refine fn_of_vwp (fun _ => false) (by kernel_rfl) Tryz.func55 (by kernel_rfl) rfl rfl (Nat.le_of_ble_eq_true rfl) (by kernel_rfl) rfl rfl ?_
  simp -implicitDefEqProofs [rw2]

/-- A row: its name, the head of its slice, what the slice holds. -/
abbrev Row := Str × Sl × List Str
def pr (r : Row) : Str × Sl := (r.1, r.2.1)
def nv (r : Row) : Att := (r.1, r.2.2)
def hd (r : Row) : Value := .slice r.2.1.1 r.2.1.2.1 r.2.1.2.2
def rowD (r : Row) : D := rw2 (pr r)
def hnd (r : Row) : AV := .hs (hd r) 9 (r.2.2.map .str)

theorem idxR_map {α β : Type} (f : α → β) (p : β → Bool) : ∀ (l : List α) (k : Nat), idxR p k (l.map f) = idxR (fun x => p (f x)) k l
  | [], _ => rfl
  | x :: l, k => by simp only [List.map_cons, idxR, idxR_map f p l (k + 1)]

/-- One attribute more, in the program's grouping. -/
def addG (acc : List Att) (a : Att) : List Att :=
  if idxR (fun x : Att => decide (x.1 = lower a.1)) 0 acc = -1 then acc ++ [(lower a.1, a.2)] else acc.modify (idxR (fun x : Att => decide (x.1 = lower a.1)) 0 acc).toNat fun x => (x.1, x.2 ++ a.2)
def grp (l : List Att) : List Att := l.foldl addG []
theorem grp_take {l : List Att} {k : Nat} (h : k < l.length) : grp (l.take (k + 1)) = addG (grp (l.take k)) l[k] := by
  rw [take_s h]; simp only [grp, List.foldl_append, List.foldl_cons, List.foldl_nil]

theorem grp_len (l : List Att) : (grp l).length ≤ l.length := by
  have key : ∀ (l acc : List Att), (l.foldl addG acc).length ≤ acc.length + l.length := by
    intro l
    induction l with
    | nil => intro acc; simp
    | cons a l ih =>
      intro acc
      have := ih (addG acc a)
      have h2 : (addG acc a).length ≤ acc.length + 1 := by
        unfold addG; split <;> simp
      simp only [List.foldl_cons, List.length_cons]; omega
  simpa [grp] using key l []
theorem total_app (a b : List Att) : total (a ++ b) = total a + total b := by simp [total]
theorem total_modify (f : Att → Att) (n : Nat) : ∀ (acc : List Att) (i : Nat), (∀ x, (f x).2.length = x.2.length + n) → i < acc.length → total (acc.modify i f) = total acc + n
  | [], i, _, h => by simp at h
  | x :: acc, 0, hf, _ => by simp [total, List.modify_cons, hf]; omega
  | x :: acc, i + 1, hf, h => by
    have := total_modify f n acc i hf (by simpa using h)
    simp only [total, List.modify_succ_cons, List.map_cons, List.sum_cons] at this ⊢
    omega
theorem total_addG (acc : List Att) (a : Att) : total (addG acc a) = total acc + a.2.length := by
  unfold addG
  split
  · rw [total_app]; simp [total]
  · rename_i h
    obtain ⟨i, h1, h2, _⟩ := idxR_pos _ acc 0 h
    rw [h1]
    exact total_modify _ _ _ _ (fun x => by simp) (by simpa using h2)
theorem total_grp (l : List Att) : total (grp l) = total l := by
  have key : ∀ (l acc : List Att), total (l.foldl addG acc) = total acc + total l := by
    intro l
    induction l with
    | nil => intro acc; simp [total]
    | cons a l ih =>
      intro acc
      rw [List.foldl_cons, ih, total_addG]
      simp only [total, List.map_cons, List.sum_cons]; omega
  have := key l []
  simpa [grp, total] using this
theorem total_mem {l : List Att} {x : Att} (h : x ∈ l) : x.2.length ≤ total l := by
  induction l with
  | nil => simp at h
  | cons y l ih =>
    simp only [total, List.map_cons, List.sum_cons] at ih ⊢
    rcases List.mem_cons.1 h with rfl | h
    · omega
    · have := ih h; omega

theorem modify_set {α : Type} (f : α → α) : ∀ (l : List α) (i : Nat) (x : α), l[i]? = some x → l.modify i f = l.set i (f x)
  | [], i, x, h => by simp at h
  | y :: l, 0, x, h => by
    simp only [List.getElem?_cons_zero, Option.some.injEq] at h
    subst h; rfl
  | y :: l, i + 1, x, h => by
    simp only [List.getElem?_cons_succ] at h
    simp [List.modify_succ_cons, modify_set f l i x h]

theorem hh_ne (i d : Nat) (h : d < 1000000) : (1000000 + i = d) = False := by simp; omega

theorem hh_ne' (i d : Nat) (h : d < 1000000) : (d = 1000000 + i) = False := by simp; omega

theorem sd42 : structDX Tryz.prog true 39 = some [.str [], .raw (.slice none 0 0)] := by kernel_rfl

def okLen (rs : List Row) : Prop := ∀ r ∈ rs, r.2.1.2.1 = r.2.2.length

def slotsG : Nat → Bool := fun i => i == 3 || i == 44 || i == 1000027 || i == 2000020 || i == 3000055 || i == 4000063 || i == 3000068

/-- Rows with the numbers of their names. -/
abbrev QRow := Row × Nat
def q1 (q : QRow) : D := rowD q.1
def Named (qs : List QRow) (τ : St) : Prop := (qs.map (·.2)).Nodup ∧ ∀ q ∈ qs, τ (1000000 + q.2) = hnd q.1
def normA (a : Att) : Att := (a.1, Go.Lib.compact (sortS a.2))
def nonE (a : Att) : Bool := !decide (a.2 = [])

def ByName (m : List (Str × Sl)) : Prop := ∀ i j (_ : i < j) (hj : j < m.length), Op.bytesLess m[j].1 (m[i]'(by omega)).1 = false

theorem perm_lift {α β : Type} (f : α → β) {m m' : List β} (h : m.Perm m') : ∀ l : List α, l.map f = m' → ∃ l' : List α, l'.Perm l ∧ l'.map f = m := by
  induction h with
  | nil => intro l hl; exact ⟨l, .refl _, hl⟩
  | cons x p ih =>
    intro l hl
    cases l with
    | nil => simp at hl
    | cons a t =>
      simp only [List.map_cons, List.cons.injEq] at hl
      obtain ⟨t', h1, h2⟩ := ih t hl.2
      exact ⟨a :: t', h1.cons a, by simp [hl.1, h2]⟩
  | swap x y l0 =>
    intro l hl
    match l, hl with
    | a :: b :: t, hl =>
      simp only [List.map_cons, List.cons.injEq] at hl
      exact ⟨b :: a :: t, .swap _ _ _, by simp [hl.1, hl.2.1, hl.2.2]⟩
  | trans h1 h2 ih1 ih2 =>
    intro l hl
    obtain ⟨l2, p2, e2⟩ := ih2 l hl
    obtain ⟨l1, p1, e1⟩ := ih1 l2 e2
    exact ⟨l1, p1.trans p2, e1⟩

theorem zip_mem {rs : List Row} {q : QRow} (h : q ∈ rs.zipIdx) : ∃ hi : q.2 < rs.length, rs[q.2] = q.1 := by
  obtain ⟨r, i⟩ := q
  have := List.mem_zipIdx_iff_getElem?.1 h
  exact ⟨(List.getElem?_eq_some_iff.1 this).1, (List.getElem?_eq_some_iff.1 this).2⟩

theorem sortedG_fn (l : List Att) (hl : Fit2 l) : CtrG Tryz.prog 24 [.d (atts l)] [] (fun r hs => ∃ rs : List Row, r = .own true 39 (rs.map rowD) ∧ hs = rs.map hnd ∧ (rs.map nv).Perm (((grp l).filter nonE).map normA) ∧ ∀ i j (_ : i < j) (hj : j < rs.length), Op.bytesLess rs[j].1 (rs[i]'(by omega)).1 = false) := by
  refine fn_of_vwpG slotsG (by kernel_rfl) Tryz.func24 (by kernel_rfl) rfl rfl (Nat.le_of_ble_eq_true rfl) (by kernel_rfl) rfl ?_
  obtain ⟨⟨hl1, hl2⟩, hl3⟩ := hl
  simp -implicitDefEqProofs [slotsG, initG, atts]
  refine loopN l.length (fun k τ => τ 9 = .d (.sl (l.map att)) ∧ τ 10 = .d (.int .i64 l.length) ∧ τ 11 = .d (.int .i64 k) ∧ ∃ rs : List Row, τ 3 = .own true 39 (rs.map rowD) ∧ (∀ i (h : i < rs.length), τ (1000000 + i) = hnd rs[i]) ∧ (∀ i, rs.length ≤ i → τ (1000000 + i) = .undef) ∧ rs.map nv = grp (l.take k) ∧ okLen rs) ?_ ?_
  · refine ⟨by simp, by simp, by simp, [], by simp, by simp, fun i _ => ?_, by simp [grp], by simp [okLen]⟩
    simp [initG, hh_ne]
  rintro k τ hk ⟨h9, h10, h11, rs, h3, hH, hU, hg, hlen⟩
  by_cases hlt : k < l.length
  · simp -implicitDefEqProofs [slotsG, h9, h10, h11, h3, hlt, att, strs]
    refine callK (foldLower_fn _ (hl2 _ (List.getElem_mem hlt)).1) ?_
    simp -implicitDefEqProofs [slotsG, h9, h10, h11, h3, hlt, att, strs]
    have hrk : rs.length ≤ k := by
      have := grp_len (l.take k)
      rw [← hg] at this
      simpa [Nat.min_eq_left (Nat.le_of_lt hlt)] using this
    have htot := total_take l k hlt
    rw [← total_grp (l.take k), ← hg] at htot
    have hmr : rs.map rowD = (rs.map pr).map rw2 := by simp [rowD]
    rw [hmr]
    refine lendK (indexR_fn 53 [.ref (.str (lower l[k].1))] rfl (fun x => decide (x.1 = lower l[k].1)) (rs.map pr) (by simp; omega) (fun a _ => sortedQ_fn a _)) rfl ?_
    rw [← hmr]
    have hidx : idxR (fun x : Str × Sl => decide (x.1 = lower l[k].1)) 0 (rs.map pr) = idxR (fun x : Att => decide (x.1 = lower l[k].1)) 0 (grp (l.take k)) := by
      rw [← hg, idxR_map, idxR_map]; rfl
    rw [hidx]
    have hnew := grp_take (l := l) hlt
    by_cases hn : idxR (fun x : Att => decide (x.1 = lower l[k].1)) 0 (grp (l.take k)) = -1
    · simp -implicitDefEqProofs [slotsG, h9, h10, h11, h3, hlt, att, strs, hn, sd42]
      refine ⟨by omega, by omega, appK0 (1000000 + rs.length) (by simp [hh_ne, hU]) (by simp) (by simp; omega) (by simp; omega) (fun A c => ?_)⟩
      simp -implicitDefEqProofs [slotsG, h9, h10, h11, h3, hlt, att, strs, hn, sd42, hh_ne, hh_ne']
      refine ⟨by omega, again hlt ⟨by simp [h9, hh_ne, hh_ne'], by simp [h10, hh_ne, hh_ne'], by simp [hh_ne, hh_ne'], rs ++ [(lower l[k].1, (A, l[k].2.length, c), l[k].2)], ?_, fun i hi => ?_, fun i hi => ?_, ?_, ?_⟩⟩
      · simp [hh_ne, hh_ne', rowD, rw2, pr, List.set_append]
      · simp only [List.length_append, List.length_cons, List.length_nil] at hi
        by_cases hi2 : i < rs.length
        · have hne : ¬ (i = rs.length) := by omega
          simp [hh_ne, hh_ne', hH i hi2, hnd, hne, List.getElem_append_left hi2]
        · have hie : i = rs.length := by omega
          subst hie
          simp [hh_ne, hh_ne', hnd, hd]
      · simp only [List.length_append, List.length_cons, List.length_nil] at hi
        have hne : ¬ (i = rs.length) := by omega
        simp [hh_ne, hh_ne', hU i (by omega), hne]
      · rw [hnew, addG, if_pos hn, List.map_append, hg]; rfl
      · intro r hr
        rcases List.mem_append.1 hr with hr | hr
        · exact hlen r hr
        · rw [List.mem_singleton.1 hr]
    · obtain ⟨i, hi1, hi2, hi3, hi4⟩ := idxR_pos (fun x : Att => decide (x.1 = lower l[k].1)) (grp (l.take k)) 0 hn
      simp only [Nat.zero_add] at hi1
      have hir : i < rs.length := by rw [← hg] at hi2; simpa using hi2
      have hi0 : ¬ (i : Int) < 0 := by omega
      have hvl : rs[i].2.2.length + l[k].2.length ≤ 1000000 := by
        have := total_mem (l := rs.map nv) (x := nv rs[i]) (List.mem_map.2 ⟨_, List.getElem_mem hir, rfl⟩)
        simp only [nv] at this
        omega
      rw [hi1]
      simp -implicitDefEqProofs [slotsG, h9, h10, h11, h3, hlt, att, strs, hi0, hir, rowD, rw2, pr]
      refine appK (1000000 + i) (by simp [hh_ne, hH i hir, hnd, hd]; rfl) (by simp) (by simp; omega) (by simp; omega) (fun A c => ?_)
      simp -implicitDefEqProofs [slotsG, h9, h10, h11, h3, hlt, att, strs, hi0, hir, rowD, rw2, pr, hh_ne, hh_ne']
      have hset : (rs.set i (rs[i].1, (A, rs[i].2.2.length + l[k].2.length, c), rs[i].2.2 ++ l[k].2)).length = rs.length := by simp
      refine ⟨by omega, again hlt ⟨by simp [h9, hh_ne, hh_ne'], by simp [h10, hh_ne, hh_ne'], by simp [hh_ne, hh_ne'], rs.set i (rs[i].1, (A, rs[i].2.2.length + l[k].2.length, c), rs[i].2.2 ++ l[k].2), ?_, fun j hj => ?_, fun j hj => ?_, ?_, ?_⟩⟩
      · simp [hh_ne, hh_ne', rowD, rw2, pr, List.map_set]
      · rw [hset] at hj
        by_cases hji : j = i
        · subst hji
          simp [hh_ne, hh_ne', hnd, hd]
        · have hij : ¬ i = j := fun e => hji e.symm
          simp [hh_ne, hh_ne', hH j hj, hnd, hji, hij, List.getElem_set_ne]
      · rw [hset] at hj
        have hji : ¬ j = i := by omega
        simp [hh_ne, hh_ne', hU j hj, hji]
      · rw [hnew, addG, if_neg hn, hi1, List.map_set, ← hg]
        rw [Int.toNat_natCast]
        exact (modify_set (fun x : Att => (x.1, x.2 ++ l[k].2)) _ _ (nv rs[i]) (by rw [List.getElem?_map, List.getElem?_eq_getElem hir]; rfl)).symm
      · intro r hr
        rcases List.mem_or_eq_of_mem_set hr with hr | hr
        · exact hlen r hr
        · rw [hr]; simp
  · have hkl : k = l.length := by omega
    rw [hkl, List.take_length] at hg
    have hrk : rs.length ≤ l.length := by
      have := grp_len l
      rw [← hg] at this
      simpa using this
    have hmr : rs.map rowD = (rs.map pr).map rw2 := by simp [rowD]
    rw [hmr] at h3
    have hf := deleteR_fn 55 [] rfl (fun x => decide (x.2.2.1 = 0)) (rs.map pr) (by simp; omega) (fun a _ => emptyQ_fn a)
    simp -implicitDefEqProofs [slotsG, h9, h10, h11, h3, hlt, att, strs]
    simp only [rw2, List.map_map] at hf
    refine callK hf ?_
    obtain ⟨q0, hq0⟩ : ∃ q0 : List QRow, q0 = rs.zipIdx.filter fun q => !decide (q.1.2.1.2.1 = 0) := ⟨_, rfl⟩
    have e1 : ((rs.map pr).filter fun x => !decide (x.2.2.1 = 0)).map rw2 = q0.map q1 := by
      rw [hq0]
      have : rs = rs.zipIdx.map (·.1) := by simp
      conv => lhs; rw [this]
      rw [List.map_map, List.filter_map, List.map_map]
      rfl
    have e2 : q0.map (fun q => nv q.1) = (grp l).filter nonE := by
      rw [← hg, hq0]
      have : rs = rs.zipIdx.map (·.1) := by simp
      conv => rhs; rw [this]
      rw [List.map_map, List.filter_map]
      congr 1
      refine List.filter_congr (fun q hq => ?_)
      obtain ⟨hi, hr⟩ := zip_mem hq
      have := hlen q.1 (hr ▸ List.getElem_mem hi)
      simp [nonE, nv, this, List.length_eq_zero_iff]
      exact decide_eq_decide.2 Iff.rfl
    have e3 : (q0.map (·.2)).Nodup := by
      rw [hq0]
      have h1 : (rs.zipIdx.map (·.2)).Nodup := by rw [List.zipIdx_map_snd]; exact List.nodup_range'
      exact h1.sublist (List.filter_sublist.map _)
    have e4 : ∀ q ∈ q0, τ (1000000 + q.2) = hnd q.1 := by
      intro q hq
      rw [hq0] at hq
      obtain ⟨hi, hr⟩ := zip_mem (List.mem_filter.1 hq).1
      rw [hH _ hi, hr]
    have e5 : q0.length ≤ rs.length := by rw [hq0]; exact Nat.le_trans (List.length_filter_le _ _) (by simp)
    rw [e1]
    simp -implicitDefEqProofs [slotsG, h9, h10, h11, h3, hlt, att, strs]
    have e6 : ∀ a ∈ q0.map (fun q => nv q.1), a.2.length < 500000 := by
      intro a ha
      rw [e2] at ha
      have := total_mem (List.mem_filter.1 ha).1
      rw [total_grp] at this
      omega
    generalize hn0 : q0.map (fun q => nv q.1) = n0 at *
    have hn0l : n0.length = q0.length := by rw [← hn0]; simp
    refine loopN q0.length (fun k τ => τ 46 = .d (.int .i64 q0.length) ∧ τ 47 = .d (.int .i64 k) ∧ ∃ qs : List QRow, τ 3 = .own true 39 (qs.map q1) ∧ Named qs τ ∧ qs.map (fun q => nv q.1) = (n0.take k).map normA ++ n0.drop k) ?_ ?_
    · refine ⟨by simp, by simp, q0, by simp, ⟨e3, fun q hq => ?_⟩, by simp [hn0]⟩
      simp [hh_ne, hh_ne', e4 q hq, hnd]
    clear h9 h10 h11 h3 hH hU hk hlt hf e4 τ hkl
    rintro j τ hj ⟨h46, h47, qs, h3, ⟨hnd1, hnd2⟩, hqs⟩
    have hql : qs.length = q0.length := by
      have := congrArg List.length hqs
      simp at this
      omega
    by_cases hlt : j < q0.length
    · have hjq : j < qs.length := by omega
      have hjn : j < n0.length := by omega
      have hvj : nv qs[j].1 = n0[j] := by
        have h1 : (qs.map (fun q => nv q.1))[j]? = some (nv qs[j].1) := by simp [hjq]
        rw [hqs, List.getElem?_append_right (by simp; omega)] at h1
        simp [Nat.min_eq_left (Nat.le_of_lt hjn), hjn] at h1
        exact h1.symm
      have hvl : qs[j].1.2.2.length < 500000 := by
        have := e6 n0[j] (List.getElem_mem hjn)
        rw [← hvj] at this
        exact this
      have hnm := hnd2 qs[j] (List.getElem_mem hjq)
      simp -implicitDefEqProofs [slotsG, h46, h47, h3, hlt, hjq, q1, rowD, rw2, pr]
      refine inKr (1000000 + qs[j].2) (e := 9) (l := qs[j].1.2.2.map .str) (by simp [hh_ne, hh_ne', hnm, hnd, hd]) (sort_fn qs[j].1.2.2 (by omega)) ?_
      simp -implicitDefEqProofs [slotsG, h46, h47, h3, hlt, hjq, q1, rowD, rw2, pr, hh_ne, hh_ne']
      have hsl : (sortS qs[j].1.2.2).length = qs[j].1.2.2.length := by simp [sortS]
      refine nameK (1000000 + qs[j].2) (e := 9) (l := (sortS qs[j].1.2.2).map .str) (by simp [hh_ne, hh_ne']) (compact_fn (sortS qs[j].1.2.2) (by omega)) (fun A c => ?_)
      simp -implicitDefEqProofs [slotsG, h46, h47, h3, hlt, hjq, q1, rowD, rw2, pr, hh_ne, hh_ne']
      refine ⟨by omega, again hlt ⟨by simp [h46, hh_ne, hh_ne'], by simp [hh_ne, hh_ne'], qs.set j ((qs[j].1.1, (A, (Go.Lib.compact (sortS qs[j].1.2.2)).length, c), Go.Lib.compact (sortS qs[j].1.2.2)), qs[j].2), ?_, ⟨?_, fun q hq => ?_⟩, ?_⟩⟩
      · simp [hh_ne, hh_ne', q1, rowD, rw2, pr, List.map_set]
      · rw [List.map_set]
        have := List.set_getElem_self (i := j) (show j < (qs.map (·.2)).length by simpa using hjq)
        rw [List.getElem_map] at this
        rw [this]; exact hnd1
      · obtain ⟨i, hi, rfl⟩ := List.mem_iff_getElem.1 hq
        have hi' : i < qs.length := by simpa using hi
        by_cases hij : j = i
        · subst hij
          simp [hh_ne, hh_ne', hnd, hd]
        · rw [List.getElem_set_ne hij]
          have hne : ¬ qs[i].2 = qs[j].2 := fun e => by
            have h1 := List.pairwise_iff_getElem.1 hnd1
            rcases Nat.lt_or_gt_of_ne hij with h2 | h2
            · exact h1 j i (by simpa using hjq) (by simpa using hi') h2 (by simpa using e.symm)
            · exact h1 i j (by simpa using hi') (by simpa using hjq) h2 (by simpa using e)
          simp [hh_ne, hh_ne', hnd2 qs[i] (List.getElem_mem hi'), hne, hnd]
      · have hnn : nv ((qs[j].1.1, (A, (Go.Lib.compact (sortS qs[j].1.2.2)).length, c), Go.Lib.compact (sortS qs[j].1.2.2)) : Row) = normA n0[j] := by
          rw [← hvj]; rfl
        have hl1 : ((n0.take j).map normA).length = j := by simp; omega
        rw [List.map_set, hqs, List.set_append_right _ _ (by omega), hl1, Nat.sub_self, List.drop_eq_getElem_cons hjn, List.set_cons_zero, hnn, ← List.map_take, take_s hjn]
        simp only [List.map_append, List.map_cons, List.map_nil, List.append_assoc, List.singleton_append]
    · simp -implicitDefEqProofs [slotsG, h46, h47, h3, hlt]
      have hjl : j = n0.length := by omega
      subst hjl
      rw [List.take_length, List.drop_length, List.append_nil] at hqs
      have hmq : qs.map q1 = (qs.map fun q => pr q.1).map rw2 := by rw [List.map_map]; rfl
      rw [hmq]
      refine inKb (sortR_fn (qs.map fun q => pr q.1) (by simp; omega)) ?_
      obtain ⟨p1, p2⟩ := sortR_perm (qs.map fun q => pr q.1)
      replace p2 : ByName (sortR (qs.map fun q => pr q.1)) := p2
      generalize sortR (qs.map fun q => pr q.1) = ms at p1 p2 ⊢
      obtain ⟨qs', p3, rfl⟩ := perm_lift (fun q : QRow => pr q.1) p1 qs rfl
      have hlen' : qs'.length = qs.length := p3.length_eq
      have hT : ∀ (qs : List QRow) (τ' : St), (∀ q ∈ qs, τ' (1000000 + q.2) = hnd q.1) → (qs.map fun q => 1000000 + q.2).map τ' = (qs.map (·.1)).map hnd := by
        intro qs τ' h
        rw [List.map_map, List.map_map]
        exact List.map_congr_left h
      have hrow : (qs'.map fun q => pr q.1).map rw2 = qs'.map q1 := by rw [List.map_map]; rfl
      simp -implicitDefEqProofs [slotsG, h46, h47, h3, hlt]
      have hK : ∀ q ∈ qs', τ (1000000 + q.2) = hnd q.1 := fun q hq => hnd2 q (p3.mem_iff.1 hq)
      refine ⟨.own true 39 (qs'.map q1), qs'.map (fun q => 1000000 + q.2), ?_, fun k hk => ?_, ?_, qs'.map (·.1), ?_, ?_, ?_, ?_⟩
      · have h1 : (qs'.map (·.2)).Nodup := (p3.map _).nodup_iff.2 hnd1
        have h2 := List.Pairwise.map (R := fun a b : Nat => a ≠ b) (S := fun a b : Nat => a ≠ b) (fun x => 1000000 + x) (fun a b h => by omega) h1
        rw [List.map_map] at h2
        exact h2
      · obtain ⟨q, hq, rfl⟩ := List.mem_map.1 hk
        simp [hh_ne, hh_ne', hK q hq, hnd, isH]
      · simp [ResG, q1, rowD]
      · simp [q1]
      · rw [List.map_map, List.map_map]
        refine List.map_congr_left fun q hq => ?_
        simp [hh_ne, hh_ne', hK q hq, hnd]
      · rw [List.map_map]
        have h1 := p3.map (fun q : QRow => nv q.1)
        rw [hqs, e2] at h1
        exact h1
      · intro i j hij hj
        have := p2 i j hij (by simpa using hj)
        simpa [pr] using this
end Go.Proofs.Tz

namespace Go.Proofs.Tz
open Go.Vw Go.Lib
set_option linter.unusedSimpArgs false

/-- Strictly ascending. -/
def SS (l : List Str) : Prop := l.Pairwise (· < ·)
theorem SS.nodup {l : List Str} (h : SS l) : l.Nodup := List.Pairwise.imp (R := fun a b : Str => a < b) (S := fun a b : Str => a ≠ b) (fun hab e => by subst e; exact s_irr _ hab) h
theorem SS_ext {a b : List Str} (ha : SS a) (hb : SS b) (h : ∀ x, x ∈ a ↔ x ∈ b) : a = b := by
  have hp : a.Perm b := (List.perm_ext_iff_of_nodup ha.nodup hb.nodup).2 h
  exact hp.eq_of_pairwise (fun x y _ _ h1 h2 => absurd (s_trans h1 h2) (s_irr x)) ha hb

/-- Insert, by recursion. -/
def insR (s : Str) : List Str → List Str
  | [] => [s]
  | x :: l => if x < s then x :: insR s l else if x = s then x :: l else s :: x :: l
theorem ins_rest (s : Str) : ∀ (l out : List Str), (∀ x ∈ l, s < x) → l.foldl (insS s) (true, out) = (true, out ++ l)
  | [], out, _ => by simp
  | x :: l, out, h => by
    have hx := h x (by simp)
    have hne : ¬ x = s := fun e => s_irr s (e ▸ hx)
    have : insS s (true, out) x = (true, out ++ [x]) := by simp [insS, hne]
    rw [List.foldl_cons, this, ins_rest s l _ (fun y hy => h y (by simp [hy]))]
    simp
theorem ins_go (s : Str) : ∀ (l out : List Str), SS l → (l.foldl (insS s) (false, out)).2 ++ (if (l.foldl (insS s) (false, out)).1 then [] else [s]) = out ++ insR s l
  | [], out, _ => by simp [insR]
  | x :: l, out, h => by
    have hp := List.pairwise_cons.1 h
    rw [List.foldl_cons, insR]
    by_cases hx : x < s
    · have hne : ¬ x = s := fun e => s_irr s (e ▸ hx)
      have : insS s (false, out) x = (false, out ++ [x]) := by simp [insS, bl_t.2 hx, hne]
      rw [this, ins_go s l _ hp.2, if_pos hx]
      simp
    · rw [if_neg hx]
      by_cases he : x = s
      · subst he
        have : insS x (false, out) x = (true, out ++ [x]) := by simp [insS, bl_f.2 hx]
        rw [this, ins_rest x l _ hp.1, if_pos rfl]
        simp
      · have hs : s < x := Classical.byContradiction fun h2 => he (s_tri hx h2)
        have : insS s (false, out) x = (true, out ++ [s] ++ [x]) := by simp [insS, bl_f.2 hx, he]
        rw [this, ins_rest s l _ (fun y hy => s_trans hs (hp.1 y hy)), if_neg he]
        simp
theorem ins_eq {l : List Str} (h : SS l) (s : Str) : ins l s = insR s l := by
  have := ins_go s l [] h
  rw [List.nil_append] at this
  exact this
theorem insR_mem (s : Str) : ∀ (l : List Str) (x : Str), x ∈ insR s l ↔ x = s ∨ x ∈ l
  | [], x => by simp [insR]
  | y :: l, x => by
    rw [insR]
    split
    · simp only [List.mem_cons, insR_mem s l x]
      constructor
      · rintro (h | h | h) <;> simp [h]
      · rintro (h | h | h) <;> simp [h]
    · split
      · rename_i h; subst h; simp
      · simp
theorem insR_SS (s : Str) : ∀ (l : List Str), SS l → SS (insR s l)
  | [], _ => by simp [insR, SS]
  | y :: l, h => by
    have hp := List.pairwise_cons.1 h
    rw [insR]
    split
    · rename_i hy
      refine List.pairwise_cons.2 ⟨fun z hz => ?_, insR_SS s l hp.2⟩
      rcases (insR_mem s l z).1 hz with rfl | hz
      · exact hy
      · exact hp.1 z hz
    · rename_i hy
      split
      · exact h
      · rename_i he
        have hs : s < y := Classical.byContradiction fun h2 => he (s_tri hy h2)
        refine List.pairwise_cons.2 ⟨fun z hz => ?_, h⟩
        rcases List.mem_cons.1 hz with rfl | hz
        · exact hs
        · exact s_trans hs (hp.1 z hz)
theorem ins_mem {l : List Str} (h : SS l) (s x : Str) : x ∈ ins l s ↔ x = s ∨ x ∈ l := by rw [ins_eq h]; exact insR_mem s l x
theorem ins_SS {l : List Str} (h : SS l) (s : Str) : SS (ins l s) := by rw [ins_eq h]; exact insR_SS s l h

theorem insAll_spec : ∀ (vs l : List Str), SS l → SS (vs.foldl ins l) ∧ ∀ x, x ∈ vs.foldl ins l ↔ x ∈ l ∨ x ∈ vs
  | [], l, h => ⟨h, fun x => by simp⟩
  | v :: vs, l, h => by
    have := insAll_spec vs (ins l v) (ins_SS h v)
    refine ⟨this.1, fun x => ?_⟩
    rw [List.foldl_cons, this.2, ins_mem h]
    simp only [List.mem_cons]
    constructor
    · rintro ((h | h) | h) <;> simp [h]
    · rintro (h | h | h) <;> simp [h]

theorem namesF_spec : ∀ (l : List Att) (ns : List Str), SS ns → SS (l.foldl namesS ns) ∧ ∀ x, x ∈ l.foldl namesS ns ↔ x ∈ ns ∨ ∃ a ∈ l, a.2 ≠ [] ∧ lower a.1 = x
  | [], ns, h => ⟨h, fun x => by simp⟩
  | a :: l, ns, h => by
    rw [List.foldl_cons]
    by_cases ha : a.2 = []
    · rw [namesS, if_pos ha]
      have := namesF_spec l ns h
      refine ⟨this.1, fun x => ?_⟩
      rw [this.2]
      simp [ha]
    · rw [namesS, if_neg ha]
      have := namesF_spec l (ins ns (lower a.1)) (ins_SS h _)
      refine ⟨this.1, fun x => ?_⟩
      rw [this.2, ins_mem h]
      simp only [List.mem_cons, exists_eq_or_imp, ne_eq, ha, not_false_eq_true, true_and]
      constructor
      · rintro ((h | h) | h)
        · exact .inr (.inl h.symm)
        · exact .inl h
        · exact .inr (.inr h)
      · rintro (h | h | h)
        · exact .inl (.inr h)
        · exact .inl (.inl h.symm)
        · exact .inr h
theorem valsF_spec (n : Str) : ∀ (l : List Att) (vs : List Str), SS vs → SS (l.foldl (valsS n) vs) ∧ ∀ x, x ∈ l.foldl (valsS n) vs ↔ x ∈ vs ∨ ∃ a ∈ l, lower a.1 = n ∧ x ∈ a.2
  | [], vs, h => ⟨h, fun x => by simp⟩
  | a :: l, vs, h => by
    rw [List.foldl_cons]
    by_cases ha : lower a.1 = n
    · rw [valsS, if_pos ha]
      have h1 := insAll_spec a.2 vs h
      have := valsF_spec n l _ h1.1
      refine ⟨this.1, fun x => ?_⟩
      rw [this.2, h1.2]
      simp only [List.mem_cons, exists_eq_or_imp, ha, true_and]
      constructor
      · rintro ((h | h) | h) <;> simp [h]
      · rintro (h | h | h) <;> simp [h]
    · rw [valsS, if_neg ha]
      have := valsF_spec n l vs h
      refine ⟨this.1, fun x => ?_⟩
      rw [this.2]
      simp [ha]

/-! ### what the program's sort and compaction come to -/
theorem sortS_asc (l : List Str) : (sortS l).Pairwise fun x y => ¬ y < x := by
  have h := List.pairwise_mergeSort (le := fun x y : Str => decide (x ≤ y)) (fun a b c h1 h2 => by
    simp only [decide_eq_true_eq] at *
    exact List.le_trans h1 h2) (fun a b => by
    simp only [Bool.or_eq_true, decide_eq_true_eq]
    exact List.le_total a b) l
  exact h.imp fun h => by simpa using h
theorem sortS_mem (l : List Str) (x : Str) : x ∈ sortS l ↔ x ∈ l := by simp [sortS]

theorem compact_spec (zs : List Str) (h : zs.Pairwise fun x y => ¬ y < x) : ∀ m, m ≤ zs.length → SS (compactUpTo zs.toArray m) ∧ ∀ x, x ∈ compactUpTo zs.toArray m ↔ x ∈ zs.take m
  | 0, _ => by simp [compactUpTo, SS]
  | m + 1, hm => by
    obtain ⟨h1, h2⟩ := compact_spec zs h m (by omega)
    have hlt : m < zs.length := by omega
    have hg : zs.toArray[m]! = zs[m] := by rw [getElem!_pos _ m (by simpa using hlt)]; simp
    have asc : ∀ i (hi : i < m), ¬ zs[m] < zs[i]'(by omega) := fun i hi => List.pairwise_iff_getElem.1 h i m (by omega) hlt hi
    rw [compactUpTo_succ, hg, take_s hlt]
    by_cases hk : keeps zs.toArray m = true
    · rw [if_pos hk]
      refine ⟨List.pairwise_append.2 ⟨h1, by simp, fun x hx y hy => ?_⟩, fun x => by rw [List.mem_append, List.mem_append, h2 x]⟩
      rw [List.mem_singleton.1 hy]
      obtain ⟨i, hi, rfl⟩ := List.mem_iff_getElem.1 ((h2 x).1 hx)
      have him : i < m := by simp at hi; omega
      simp only [List.getElem_take]
      have hm0 : m ≠ 0 := by omega
      have hg1 : zs.toArray[m - 1]! = zs[m - 1] := by rw [getElem!_pos _ (m - 1) (by simp; omega)]; simp
      have hne : zs[m] ≠ zs[m - 1] := by simpa [keeps, hm0, hg, hg1] using hk
      have hlt2 : zs[m - 1] < zs[m] := Classical.byContradiction fun hc => hne (s_tri (asc (m - 1) (by omega)) hc)
      by_cases hc : zs[i] < zs[m - 1]
      · exact s_trans hc hlt2
      · by_cases hie : i = m - 1
        · subst hie; exact hlt2
        · have := List.pairwise_iff_getElem.1 h i (m - 1) (by omega) (by omega) (by omega)
          rw [s_tri hc this]; exact hlt2
    · rw [if_neg hk, List.append_nil]
      refine ⟨h1, fun x => ?_⟩
      rw [h2 x]
      have hk' : keeps zs.toArray m = false := by simpa using hk
      have hm0 : m ≠ 0 := fun e => by subst e; simp [keeps] at hk'
      have hg1 : zs.toArray[m - 1]! = zs[m - 1] := by rw [getElem!_pos _ (m - 1) (by simp; omega)]; simp
      have he : zs[m] = zs[m - 1] := by simpa [keeps, hm0, hg, hg1] using hk'
      have hin : zs[m] ∈ zs.take m := by
        rw [he]
        exact List.mem_iff_getElem.2 ⟨m - 1, by simp; omega, by simp⟩
      simp only [List.mem_append, List.mem_singleton]
      constructor
      · intro hx; exact .inl hx
      · rintro (hx | rfl)
        · exact hx
        · exact hin
theorem normV (vs : List Str) : SS (compact (sortS vs)) ∧ ∀ x, x ∈ compact (sortS vs) ↔ x ∈ vs := by
  have h := compact_spec (sortS vs) (sortS_asc vs) (sortS vs).length (Nat.le_refl _)
  refine ⟨h.1, fun x => ?_⟩
  rw [← sortS_mem vs x]
  have := h.2 x
  rw [List.take_length] at this
  exact this

/-! ### the grouping -/
theorem idxR_at {α : Type} (p : α → Bool) : ∀ (l : List α) (k : Nat), idxR p k l ≠ -1 → ∃ i : Nat, idxR p k l = ((k + i : Nat) : Int) ∧ ∃ h : i < l.length, p l[i] = true
  | [], k, h => absurd rfl h
  | x :: l, k, h => by
    rw [idxR] at h ⊢
    by_cases hx : p x = true
    · rw [if_pos hx]
      exact ⟨0, by simp, by simp, hx⟩
    · rw [if_neg hx] at h ⊢
      obtain ⟨i, h1, h2, h3⟩ := idxR_at p l (k + 1) h
      exact ⟨i + 1, by rw [h1]; omega, by simpa using h2, by simpa using h3⟩

/-- Name n has value v. -/
def Has (l : List Att) (n v : Str) : Prop := ∃ x ∈ l, x.1 = n ∧ v ∈ x.2

theorem addG_spec (acc : List Att) (a : Att) (hn : (acc.map (·.1)).Nodup) : ((addG acc a).map (·.1)).Nodup ∧ ∀ n v, Has (addG acc a) n v ↔ Has acc n v ∨ (lower a.1 = n ∧ v ∈ a.2) := by
  unfold addG
  split
  · rename_i h
    have hf := idxR_neg _ acc 0 h
    have hno : ∀ x ∈ acc, ¬ x.1 = lower a.1 := fun x hx => by
      have := List.filter_eq_self.1 hf x hx
      simpa using this
    refine ⟨?_, fun n v => ?_⟩
    · rw [List.map_append, List.nodup_append]
      refine ⟨hn, by simp, ?_⟩
      intro x hx y hy e
      simp at hy
      obtain ⟨z, hz, rfl⟩ := List.mem_map.1 hx
      exact hno z hz (e.trans hy)
    · simp only [Has, List.mem_append, List.mem_singleton]
      constructor
      · rintro ⟨x, hx | rfl, h1, h2⟩
        · exact .inl ⟨x, hx, h1, h2⟩
        · exact .inr ⟨h1, h2⟩
      · rintro (⟨x, hx, h1, h2⟩ | ⟨h1, h2⟩)
        · exact ⟨x, .inl hx, h1, h2⟩
        · exact ⟨_, .inr rfl, h1, h2⟩
  · rename_i h
    obtain ⟨i, h1, hi, h3⟩ := idxR_at _ acc 0 h
    simp only [Nat.zero_add] at h1
    simp only [decide_eq_true_eq] at h3
    rw [h1, Int.toNat_natCast, modify_set (fun x : Att => (x.1, x.2 ++ a.2)) acc i acc[i] (List.getElem?_eq_getElem hi)]
    refine ⟨?_, fun n v => ?_⟩
    · rw [List.map_set]
      have := List.set_getElem_self (i := i) (show i < (acc.map (·.1)).length by simpa using hi)
      rw [List.getElem_map] at this
      rw [this]; exact hn
    · simp only [Has]
      constructor
      · rintro ⟨x, hx, e1, e2⟩
        obtain ⟨j, hj, rfl⟩ := List.mem_iff_getElem.1 hx
        have hj' : j < acc.length := by simpa using hj
        by_cases hij : i = j
        · subst hij
          rw [List.getElem_set_self] at e1 e2
          simp only [List.mem_append] at e1 e2
          rcases e2 with e2 | e2
          · exact .inl ⟨_, List.getElem_mem hi, e1, e2⟩
          · exact .inr ⟨h3.symm.trans e1, e2⟩
        · rw [List.getElem_set_ne hij] at e1 e2
          exact .inl ⟨_, List.getElem_mem hj', e1, e2⟩
      · rintro (⟨x, hx, e1, e2⟩ | ⟨e1, e2⟩)
        · obtain ⟨j, hj, rfl⟩ := List.mem_iff_getElem.1 hx
          by_cases hij : i = j
          · subst hij
            refine ⟨_, List.mem_iff_getElem.2 ⟨i, by simpa using hi, List.getElem_set_self _⟩, e1, by simp [e2]⟩
          · exact ⟨_, List.mem_iff_getElem.2 ⟨j, by simpa using hj, List.getElem_set_ne hij _⟩, e1, e2⟩
        · exact ⟨_, List.mem_iff_getElem.2 ⟨i, by simpa using hi, List.getElem_set_self _⟩, h3.trans e1, by simp [e2]⟩

theorem grp_spec (l : List Att) : ((grp l).map (·.1)).Nodup ∧ ∀ n v, Has (grp l) n v ↔ ∃ a ∈ l, lower a.1 = n ∧ v ∈ a.2 := by
  have key : ∀ (l acc : List Att), (acc.map (·.1)).Nodup → ((l.foldl addG acc).map (·.1)).Nodup ∧ ∀ n v, Has (l.foldl addG acc) n v ↔ Has acc n v ∨ ∃ a ∈ l, lower a.1 = n ∧ v ∈ a.2 := by
    intro l
    induction l with
    | nil => intro acc h; exact ⟨h, fun n v => by simp⟩
    | cons a l ih =>
      intro acc h
      have h1 := addG_spec acc a h
      have h2 := ih _ h1.1
      refine ⟨h2.1, fun n v => ?_⟩
      rw [List.foldl_cons, h2.2, h1.2]
      simp only [List.mem_cons, exists_eq_or_imp, or_assoc]
  have := key l [] (by simp)
  exact ⟨this.1, fun n v => by rw [show grp l = l.foldl addG [] from rfl, this.2]; simp [Has]⟩

/-- What the program returns is the normal form of the specification. -/
theorem normal_eq (l out : List Att) (hp : out.Perm (((grp l).filter nonE).map normA)) (hs : ∀ i j (_ : i < j) (hj : j < out.length), Op.bytesLess out[j].1 (out[i]'(by omega)).1 = false) : out = sortedL l := by
  obtain ⟨g1, g2⟩ := grp_spec l
  have hnames : (out.map (·.1)).Perm (((grp l).filter nonE).map (·.1)) := by
    have := hp.map (·.1)
    rw [List.map_map] at this
    exact this
  have hnd : (out.map (·.1)).Nodup := hnames.nodup_iff.2 (g1.sublist (List.filter_sublist.map _))
  have hSS : SS (out.map (·.1)) := by
    refine List.pairwise_iff_getElem.2 fun i j hi hj hij => ?_
    have hj' : j < out.length := by simpa using hj
    have h1 := hs i j hij hj'
    rw [bl_f] at h1
    simp only [List.getElem_map]
    refine Classical.byContradiction fun hc => ?_
    have he := s_tri hc h1
    exact List.pairwise_iff_getElem.1 hnd i j hi hj hij (by simpa using he)
  have hN := namesF_spec l [] (by simp [SS])
  have e1 : out.map (·.1) = namesF l := by
    refine SS_ext hSS hN.1 fun n => ?_
    rw [hnames.mem_iff, show namesF l = l.foldl namesS [] from rfl, hN.2]
    simp only [List.mem_map, List.mem_filter, List.not_mem_nil, false_or]
    constructor
    · rintro ⟨x, ⟨hx, hne⟩, rfl⟩
      have hne' : x.2 ≠ [] := by simpa [nonE] using hne
      obtain ⟨v, hv⟩ := List.exists_mem_of_ne_nil _ hne'
      obtain ⟨a, ha, e, hav⟩ := (g2 x.1 v).1 ⟨x, hx, rfl, hv⟩
      exact ⟨a, ha, List.ne_nil_of_mem hav, e⟩
    · rintro ⟨a, ha, hne, e⟩
      obtain ⟨v, hv⟩ := List.exists_mem_of_ne_nil _ hne
      obtain ⟨x, hx, e2, hxv⟩ := (g2 n v).2 ⟨a, ha, e, hv⟩
      exact ⟨x, ⟨hx, by simp [nonE]; exact List.ne_nil_of_mem hxv⟩, e2⟩
  have e2 : ∀ x ∈ out, x.2 = valsF l x.1 := by
    intro x hx
    obtain ⟨y, hy, rfl⟩ := List.mem_map.1 (hp.mem_iff.1 hx)
    have hyg := (List.mem_filter.1 hy).1
    have hv := normV y.2
    have hV := valsF_spec y.1 l [] (by simp [SS])
    refine SS_ext hv.1 hV.1 fun v => ?_
    rw [show valsF l (normA y).1 = l.foldl (valsS y.1) [] from rfl, hV.2]
    refine (hv.2 v).trans ?_
    simp only [List.not_mem_nil, false_or]
    rw [← g2 y.1 v]
    constructor
    · intro h; exact ⟨y, hyg, rfl, h⟩
    · rintro ⟨z, hz, e, h⟩
      obtain ⟨i, hi, rfl⟩ := List.mem_iff_getElem.1 hz
      obtain ⟨j, hj, rfl⟩ := List.mem_iff_getElem.1 hyg
      have hij : i = j := by
        have h1 := List.pairwise_iff_getElem.1 g1
        rcases Nat.lt_trichotomy i j with h2 | h2 | h2
        · have h3 := h1 i j (by simpa using hi) (by simpa using hj) h2
          simp only [List.getElem_map] at h3
          exact absurd e h3
        · exact h2
        · have h3 := h1 j i (by simpa using hj) (by simpa using hi) h2
          simp only [List.getElem_map] at h3
          exact absurd e.symm h3
      subst hij; exact h
  have e3 : out = out.map fun x => (x.1, valsF l x.1) := by
    conv => lhs; rw [← List.map_id' out]
    refine List.map_congr_left fun x hx => ?_
    rw [← e2 x hx]
  rw [e3, sortedL, ← e1, List.map_map]
  rfl
end Go.Proofs.Tz

namespace Go.Proofs.Tz
open Go.Vw
set_option maxRecDepth 100000
set_option maxHeartbeats 8000000
set_option linter.unusedSimpArgs false

theorem fz_rows (H : List AV) : ∀ rs : List Row, (∀ r ∈ rs, hnd r ∈ H) → FzL H (rs.map rowD) ((rs.map nv).map att)
  | [], _ => .nil
  | r :: rs, h => .cons (.agg (.cons (.same _) (.cons (.sl (h r (by simp))) .nil))) (fz_rows H rs fun x hx => h x (by simp [hx]))

theorem sorted_fn (l : List Att) (hl : Fit2 l) : Ctr Tryz.prog 24 [.d (atts l)] (.own true 39 ((sortedL l).map att)) := by
  refine (sortedG_fn l hl).frozen (by simp) ?_
  rintro r hs ⟨rs, rfl, rfl, hp, ha⟩
  refine ⟨_, rfl, ?_⟩
  have := normal_eq l (rs.map nv) hp (fun i j hij hj => by
    have := ha i j hij (by simpa using hj)
    simpa [nv] using this)
  rw [← this]
  exact fz_rows _ rs fun r hr => List.mem_map.2 ⟨r, hr, rfl⟩
end Go.Proofs.Tz

namespace Go.Proofs.Tz
open Go.Vw
set_option maxRecDepth 100000
set_option maxHeartbeats 8000000
set_option linter.unusedSimpArgs false

theorem findQ_fn (x : Str × Sl) (n : Str) : Ctr Tryz.prog 85 [.d (rw2 x), .d (.ref (.str n))] (.d (.bool (decide (x.1 = n)))) := by
  refine fn_of_vwp (fun _ => false) (by kernel_rfl) Tryz.func85 (by kernel_rfl) rfl rfl (Nat.le_of_ble_eq_true rfl) (by kernel_rfl) rfl rfl ?_
  simp -implicitDefEqProofs [rw2]

theorem findRows_fn (rows : List (Str × Sl)) (name : Str) (hl : rows.length < 1000000) (hn : List.length name < 1000000) : Ctr Tryz.prog 69 [.d (.sl (rows.map rw2)), .d (.str name)] (.d (.int .i64 (idxR (fun x => decide (x.1 = lower name)) 0 rows))) := by
  refine fn_of_vwp (fun _ => false) (by kernel_rfl) Tryz.func69 (by kernel_rfl) rfl rfl (Nat.le_of_ble_eq_true rfl) (by kernel_rfl) rfl rfl ?_
  simp -implicitDefEqProofs
  refine callK (foldLower_fn _ hn) ?_
  simp -implicitDefEqProofs
  refine callK (indexR_fn 85 [.ref (.str (lower name))] rfl (fun x => decide (x.1 = lower name)) rows hl (fun a _ => findQ_fn a _)) ?_
  simp -implicitDefEqProofs

theorem findA_idx (n : Str) : ∀ (l : List Att) (k : Nat), (idxR (fun x : Att => decide (x.1 = n)) k l = -1 ∧ findA n l = []) ∨ ∃ i, ∃ h : i < l.length, idxR (fun x : Att => decide (x.1 = n)) k l = ((k + i : Nat) : Int) ∧ findA n l = l[i].2
  | [], k => .inl ⟨rfl, rfl⟩
  | x :: l, k => by
    rw [idxR, findA]
    by_cases hx : x.1 = n
    · exact .inr ⟨0, by simp, by simp [hx]⟩
    · simp only [hx, decide_false, Bool.false_eq_true, if_false]
      rcases findA_idx n l (k + 1) with h | ⟨i, h1, h2, h3⟩
      · exact .inl h
      · exact .inr ⟨i + 1, by simpa using h1, by rw [h2]; omega, by simpa using h3⟩

theorem get_fn (l : List Att) (name : Str) (hl : Fit2 l) (hn : List.length name < 1000000) : Ctr Tryz.prog 35 [.d (atts l), .d (.str name)] (.own true 9 ((getL l name).map .str)) := by
  refine fn_of_vwp (fun i => i == 4 || i == 5000009 || i == 2000012) (by kernel_rfl) Tryz.func35 (by kernel_rfl) rfl rfl (Nat.le_of_ble_eq_true rfl) (by kernel_rfl) rfl rfl ?_
  simp -implicitDefEqProofs
  refine givK0 (sortedG_fn l hl).shaped ?_ ?_
  · rintro r hs ⟨⟨rs, rfl, rfl, _⟩, _⟩ x hx
    obtain ⟨r, _, rfl⟩ := List.mem_map.1 hx
    rfl
  rintro r hs τ ⟨⟨rs, rfl, rfl, hp, ha⟩, hsh⟩ hhi hlo
  have h1 : τ 1 = .d (.str name) := (hlo 1 (by decide) (by simp [initG])).trans (by simp [initG])
  have h9 : τ 9 = .own true 39 (rs.map rowD) := (hlo 9 (by decide) (by simp)).trans (by simp)
  have hn2 : rs.map nv = sortedL l := normal_eq l (rs.map nv) hp (fun i j hij hj => by
    have := ha i j hij (by simpa using hj)
    simpa [nv] using this)
  have hrl : rs.length ≤ l.length := by
    have := sorted_len l
    rw [← hn2] at this
    simpa using this
  have hl1 := hl.1.1
  have hH : ∀ i (h : i < rs.length), τ (1000000 + i) = hnd rs[i] := fun i h => by rw [hhi i (by simpa using h)]; simp
  clear hhi hlo hp ha
  simp -implicitDefEqProofs [h1, h9]
  have hmr : rs.map rowD = (rs.map pr).map rw2 := by simp [rowD]
  rw [hmr]
  refine lendK (findRows_fn (rs.map pr) name (by simp; omega) hn) rfl ?_
  rw [← hmr]
  have hidx : idxR (fun x : Str × Sl => decide (x.1 = lower name)) 0 (rs.map pr) = idxR (fun x : Att => decide (x.1 = lower name)) 0 (sortedL l) := by
    rw [← hn2, idxR_map, idxR_map]; rfl
  rw [hidx]
  rcases findA_idx (lower name) (sortedL l) 0 with ⟨e1, e2⟩ | ⟨i, hi, e1, e2⟩
  · simp -implicitDefEqProofs [h1, h9, e1, getL, e2]
  · have hir : i < rs.length := by rw [← hn2] at hi; simpa using hi
    have hi0 : ¬ (i : Int) < 0 := by omega
    simp only [Nat.zero_add] at e1
    have e3 : (sortedL l)[i].2 = rs[i].2.2 := by
      have : (rs.map nv)[i]'(by simpa using hir) = nv rs[i] := by simp
      have h2 : (sortedL l)[i] = nv rs[i] := by rw [← this]; congr 1; exact hn2.symm
      rw [h2]; rfl
    obtain ⟨A, c, he⟩ := hsh (hd rs[i]) 9 (rs[i].2.2.map .str) (List.mem_map.2 ⟨rs[i], List.getElem_mem hir, rfl⟩)
    simp only [hd, Value.slice.injEq, List.length_map] at he
    simp -implicitDefEqProofs [h1, h9, e1, hi0, hir, rowD, rw2, pr, he.2.1]
    refine ⟨1000000 + i, 9, rs[i].2.2.map .str, ?_, rfl, by simp, ?_⟩
    · simp [hh_ne, hh_ne', hH i hir, hnd, hd, he.2.1]
    have e4 : (rs[i].2.2.map D.str).take rs[i].2.2.length = rs[i].2.2.map .str := List.take_of_length_le (by simp)
    simp -implicitDefEqProofs [getL, e2, e3, e4]
end Go.Proofs.Tz

namespace Go.Proofs.Tz
open Go.Vw
set_option maxRecDepth 100000
set_option maxHeartbeats 4000000
set_option linter.unusedSimpArgs false

theorem equalQ_fn (x y : Att) (hx : x.2.length < 1000000) (hy : y.2.length < 1000000) : Ctr Tryz.prog 27 [.d (att x), .d (att y)] (.d (.bool (decide (x = y)))) := by
  refine fn_of_vwp (fun _ => false) (by kernel_rfl) Tryz.func27 (by kernel_rfl) rfl rfl (Nat.le_of_ble_eq_true rfl) (by kernel_rfl) rfl rfl ?_
  obtain ⟨x1, x2⟩ := x
  obtain ⟨y1, y2⟩ := y
  by_cases h : x1 = y1
  · simp -implicitDefEqProofs [att, strs, h]
    refine callK (eqS_fn x2 y2 hx hy) ?_
    simp -implicitDefEqProofs [att, strs, h]
  · simp -implicitDefEqProofs [att, strs, h]

theorem eqFunc_fn (a b : List Att) (ha : Fits a) (hb : Fits b) : Ctr Tryz.prog 26 [.d (atts a), .d (atts b), .d (.clo 27 [])] (.d (.bool (decide (a = b)))) := by
  refine fn_of_vwp (fun _ => false) (by kernel_rfl) Tryz.func26 (by kernel_rfl) rfl rfl (Nat.le_of_ble_eq_true rfl) (by kernel_rfl) rfl rfl ?_
  have ha1 := ha.1
  have hb1 := hb.1
  by_cases hlm : a.length = b.length
  · simp -implicitDefEqProofs [atts, hlm]
    refine loopN b.length (fun k τ => τ 1 = .d (atts b) ∧ τ 2 = .d (.clo 27 []) ∧ τ 15 = .d (atts a) ∧ τ 16 = .d (.int .i64 b.length) ∧ τ 17 = .d (.int .i64 k) ∧ a.take k = b.take k) (by simp [atts]) ?_
    rintro k τ hk ⟨h1, h2, h15, h16, h17, ht⟩
    by_cases hlt : k < b.length
    · have hlt' : k < a.length := by omega
      simp -implicitDefEqProofs [h1, h2, h15, h16, h17, hlt, hlt', atts, att, strs]
      have hf := equalQ_fn a[k] b[k] (ha.2 _ (List.getElem_mem hlt')).2 (hb.2 _ (List.getElem_mem hlt)).2
      simp only [att, strs] at hf
      refine callK hf ?_
      by_cases he : a[k] = b[k]
      · simp -implicitDefEqProofs [h1, h2, h15, h16, h17, hlt, hlt', atts, att, strs, he]
        refine ⟨by omega, again hlt ⟨by simp [h1, atts, att, strs], by simp [h2], by simp [h15, atts, att, strs], by simp [h16], by simp, ?_⟩⟩
        rw [take_s hlt, take_s hlt', ht, he]
      · simp -implicitDefEqProofs [h1, h2, h15, h16, h17, hlt, hlt', atts, att, strs, he]
        rintro rfl
        exact he rfl
    · simp -implicitDefEqProofs [h1, h2, h15, h16, h17, hlt, hlm]
      rw [List.take_of_length_le (by omega), List.take_of_length_le (by omega)] at ht
      first | exact ⟨by omega, ht⟩ | exact ht
  · have hlm' : ¬ (a.length : Int) = b.length := by omega
    simp -implicitDefEqProofs [atts, hlm']
    rintro rfl
    exact hlm rfl
theorem equal_fn (a b : List Att) (ha : Fit2 a) (hb : Fit2 b) (ha' : Fits (sortedL a)) (hb' : Fits (sortedL b)) : Ctr Tryz.prog 10 [.d (atts a), .d (atts b)] (.d (.bool (decide (sortedL a = sortedL b)))) := by
  refine fn_of_vwp (fun _ => false) (by kernel_rfl) Tryz.func10 (by kernel_rfl) rfl rfl (Nat.le_of_ble_eq_true rfl) (by kernel_rfl) rfl rfl ?_
  simp -implicitDefEqProofs
  refine callK (sorted_fn a ha) ?_
  simp -implicitDefEqProofs
  refine callK (sorted_fn b hb) ?_
  simp -implicitDefEqProofs
  refine callK (eqFunc_fn _ _ ha' hb') ?_
  simp -implicitDefEqProofs

theorem names_fn (l : List Att) (hl : Fit2 l) : Ctr Tryz.prog 34 [.d (atts l)] (.own true 9 (firsts (sortedL l))) := by
  refine fn_of_vwp (fun i => i == 3) (by kernel_rfl) Tryz.func34 (by kernel_rfl) rfl rfl (Nat.le_of_ble_eq_true rfl) (by kernel_rfl) rfl rfl ?_
  simp -implicitDefEqProofs
  refine callK (sorted_fn l hl) ?_
  have hs := sorted_len l
  have hl1 := hl.1.1
  generalize sortedL l = s at *
  simp -implicitDefEqProofs
  refine loopN s.length (fun k τ => τ 7 = .own false 39 (s.map att) ∧ τ 8 = .d (.int .i64 s.length) ∧ τ 9 = .d (.int .i64 k) ∧ τ 3 = .own true 9 (firsts (s.take k))) (by simp [firsts]) ?_
  rintro k τ hk ⟨h7, h8, h9, h3⟩
  by_cases hlt : k < s.length
  · have e := firsts_take hlt
    have hlen := firsts_len (s.take k)
    rw [List.length_take] at hlen
    generalize firsts (s.take k) = out at *
    simp -implicitDefEqProofs [h7, h8, h9, h3, hlt, att, strs]
    refine ⟨by omega, by omega, by omega, again hlt ⟨by simp [h7], by simp [h8], by simp, by simp [e]⟩⟩
  · rw [List.take_of_length_le (by omega)] at h3
    simp -implicitDefEqProofs [h7, h8, h9, h3, hlt]
end Go.Proofs.Tz

namespace Go.Proofs.Tz
open Go.Vw
set_option maxRecDepth 100000
set_option maxHeartbeats 4000000
set_option linter.unusedSimpArgs false

/-! ### Pick -/
theorem indexS_fn (g : FuncId) (cs : List D) (hcs : (cs.all fun c => !c.isAgg) = true) (p : Str → Bool) (l : List Str) (hl : l.length < 1000000) (hp : ∀ a ∈ l, Ctr Tryz.prog g ([.d (.str a)] ++ cs.map .d) (.d (.bool (p a)))) :
    Ctr Tryz.prog 116 [.d (strs l), .d (.clo g cs)] (.d (.int .i64 (idxG p 0 l))) := by
  refine fn_of_vwp (fun _ => false) (by kernel_rfl) Tryz.func116 (by kernel_rfl) rfl rfl (Nat.le_of_ble_eq_true rfl) (by kernel_rfl) rfl rfl ?_
  simp -implicitDefEqProofs [strs]
  refine loopN l.length (fun k τ => τ 0 = .d (strs l) ∧ τ 1 = .d (.clo g cs) ∧ τ 7 = .d (.int .i64 l.length) ∧ τ 8 = .d (.int .i64 k) ∧ idxG p 0 l = idxG p k (l.drop k)) (by simp [strs]) ?_
  rintro k τ hk ⟨h0, h1, h7, h8, hi⟩
  by_cases hlt : k < l.length
  · rw [idxG_drop hlt] at hi
    have hf := hp _ (List.getElem_mem hlt)
    simp only [List.cons_append, List.nil_append] at hf
    simp -implicitDefEqProofs [h0, h1, h7, h8, strs, hlt]
    refine ⟨by simpa using hcs, callK hf ?_⟩
    by_cases he : p l[k] = true
    · simp -implicitDefEqProofs [h0, h1, h7, h8, strs, hlt, he]
      rw [hi, if_pos he]
    · simp -implicitDefEqProofs [h0, h1, h7, h8, strs, hlt, he]
      refine ⟨by omega, again hlt ⟨by simp [h0, strs], by simp [h1], by simp [h7], by simp, ?_⟩⟩
      rw [hi, if_neg he]
  · simp -implicitDefEqProofs [h0, h1, h7, h8, strs, hlt]
    rw [hi, List.drop_eq_nil_of_le (by omega)]
    simp -implicitDefEqProofs [idxG]
/-! ### set -/
theorem idxG_neg {α : Type} (p : α → Bool) : ∀ (l : List α) (k : Nat), idxG p k l = -1 → l.filter (fun x => !p x) = l
  | [], k, _ => rfl
  | x :: l, k, h => by
    rw [idxG] at h
    by_cases hx : p x = true
    · rw [if_pos hx] at h; omega
    · rw [if_neg hx] at h
      simp -implicitDefEqProofs [hx, idxG_neg p l (k + 1) h]
theorem idxG_pos {α : Type} (p : α → Bool) : ∀ (l : List α) (k : Nat), idxG p k l ≠ -1 → ∃ i : Nat, idxG p k l = ((k + i : Nat) : Int) ∧ i < l.length ∧ (l.take i).filter (fun x => !p x) = l.take i ∧ (l.take (i + 1)).filter (fun x => !p x) = l.take i
  | [], k, h => absurd rfl h
  | x :: l, k, h => by
    rw [idxG] at h ⊢
    by_cases hx : p x = true
    · rw [if_pos hx]
      exact ⟨0, by simp, by simp, by simp, by simp [hx]⟩
    · rw [if_neg hx] at h ⊢
      obtain ⟨i, h1, h2, h3, h4⟩ := idxG_pos p l (k + 1) h
      refine ⟨i + 1, by rw [h1]; omega, by simpa using h2, ?_, ?_⟩
      · simp -implicitDefEqProofs [hx, h3]
      · rw [List.take_succ_cons, List.filter_cons, if_pos (by simp [hx]), h4, List.take_succ_cons]

theorem deleteA_fn (g : FuncId) (cs : List D) (hcs : (cs.all fun c => !c.isAgg) = true) (p : Att → Bool) (l : List Att) (hl : l.length < 1000000) (hp : ∀ a ∈ l, Ctr Tryz.prog g ([.d (att a)] ++ cs.map .d) (.d (.bool (p a)))) :
    Ctr Tryz.prog 54 [.own true 39 (l.map att), .d (.clo g cs)] (.own true 39 ((l.filter fun x => !p x).map att)) := by
  refine fn_of_vwp (fun i => i == 2000010) (by kernel_rfl) Tryz.func54 (by kernel_rfl) rfl rfl (Nat.le_of_ble_eq_true rfl) (by kernel_rfl) rfl rfl ?_
  simp -implicitDefEqProofs
  refine lendK (indexA_fn g cs hcs p l hl hp) rfl ?_
  by_cases hn : idxG p 0 l = -1
  · simp -implicitDefEqProofs [hn, idxG_neg p l 0 hn]
  · obtain ⟨i, h1, h2, h3, h4⟩ := idxG_pos p l 0 hn
    simp only [Nat.zero_add] at h1
    have e1 : ¬ ((i : Int) = -1) := by omega
    simp -implicitDefEqProofs [h1, e1]
    refine ⟨by omega, ?_⟩
    refine loopK (fun n τ => ∃ (j q : Nat) (m : List Att), n = l.length - j ∧ j ≤ l.length ∧ τ 0 = .own true 39 (m.map att) ∧ τ 1 = .d (.clo g cs) ∧ τ 5 = .d (.int .i64 q) ∧ τ 6 = .d (.int .i64 j) ∧ m.length = l.length ∧ q < j ∧ m.take q = (l.take j).filter (fun x => !p x) ∧ m.drop j = l.drop j)
      (l.length - (i + 1)) ⟨i + 1, i, l, rfl, by omega, by simp, by simp, by simp, by simp, rfl, by omega, h4.symm, rfl⟩ ?_
    rintro n τ ⟨j, q, m, rfl, hj, g0, g1, g5, g6, hm, hq, ht, hd⟩
    by_cases hlt : j < l.length
    · have hmj : m[j]'(by omega) = l[j] := by
        have := congrArg (fun x : List Att => x[0]?) hd
        simpa [hlt, hm] using this
      have hf := hp _ (List.getElem_mem hlt)
      simp only [att, strs, List.cons_append, List.nil_append] at hf
      have hlt' : (j : Int) < l.length := by omega
      simp -implicitDefEqProofs [g0, g1, g5, g6, hm, hlt', hlt, att, strs, hmj]
      refine ⟨by simpa using hcs, callK hf ?_⟩
      by_cases he : p l[j] = true
      · simp -implicitDefEqProofs [g0, g1, g5, g6, hm, hlt', hlt, att, strs, hmj, he]
        refine ⟨by omega, _, ?_, j + 1, rfl, by omega, q, m, rfl, rfl, by omega, hm, by omega, ?_, ?_⟩
        · omega
        · rw [take_s hlt, List.filter_append, ht]; simp [he]
        · rw [← List.drop_drop, hd, List.drop_drop]
      · have hq2 : q < m.length := by omega
        have hqq : m[q]? = some m[q] := List.getElem?_eq_getElem hq2
        simp -implicitDefEqProofs [g0, g1, g5, g6, hm, hlt', hlt, att, strs, hmj, he, hqq]
        refine ⟨by omega, by omega, by omega, _, ?_, j + 1, rfl, by omega, q + 1, m.set q l[j], ?_, by simp, by simp, by simpa using hm, by omega, ?_, ?_⟩
        · omega
        · rw [List.map_set]; rfl
        · rw [List.take_set, take_s hq2, List.set_append_right _ _ (by simp; omega)]
          simp only [List.length_take, Nat.min_eq_left (Nat.le_of_lt hq2), Nat.sub_self, List.set_cons_zero]
          rw [take_s hlt, List.filter_append, ht]; simp [he]
        · rw [List.drop_set_of_lt (by omega), ← List.drop_drop, hd, List.drop_drop]
    · simp -implicitDefEqProofs [g0, g1, g5, g6, hm, hlt]
      have hjl : j = l.length := by omega
      subst hjl
      refine ⟨by omega, by omega, ?_⟩
      rw [List.take_append_of_le_length (by simp; omega), List.take_take, Nat.min_self, ← List.map_take, ht, List.take_length]
end Go.Proofs.Tz

namespace Go.Proofs.Tz
open Go.Vw
set_option maxRecDepth 100000
set_option maxHeartbeats 4000000
set_option linter.unusedSimpArgs false

def setL (l : List Att) (name : Str) (v : List Str) : List Att := sortedL ((l.filter fun x => !decide (x.1 = lower name)) ++ [(lower name, v)])
def limL (l : List Att) (name : Str) : List Att × Int := if 32 < l.length ∨ 16 < (getL l name).length then ([], 3) else (l, 0)
end Go.Proofs.Tz

namespace Go.Proofs.Tz
open Go.Vw
set_option maxRecDepth 100000
set_option maxHeartbeats 4000000
set_option linter.unusedSimpArgs false

theorem clone_fn (v : List Str) (hv : v.length < 1000000) : Ctr Tryz.prog 41 [.d (strs v)] (.own true 9 (v.map .str)) := by
  refine fn_of_vwp (fun i => i == 2 || i == 5) (by kernel_rfl) Tryz.func41 (by kernel_rfl) rfl rfl (Nat.le_of_ble_eq_true rfl) (by kernel_rfl) rfl rfl ?_
  by_cases h : v = []
  · subst h
    simp -implicitDefEqProofs [strs]
  · simp -implicitDefEqProofs [strs, h]
    all_goals omega

/-- The program's Replace. -/
def replP (l : List Att) (name : Str) (v : List Str) : List Att × Int :=
  if nameB name = false then ([], 5) else if chkV [] [] v ≠ 0 then ([], chkV [] [] v) else if 16 < v.length then ([], 3) else limL (setL (sortedL l) name v) name

/-- The program's Add. -/
def addP (l : List Att) (name : Str) (v : List Str) : List Att × Int :=
  if nameB name = false then ([], 5) else if v = [] then ([], 6) else if chkV (getL l name) [] v ≠ 0 then ([], chkV (getL l name) [] v) else limL (setL (sortedL l) name (getL l name ++ v)) name

end Go.Proofs.Tz

namespace Go.Proofs.Tz
open Go.Vw
set_option maxRecDepth 100000
set_option maxHeartbeats 4000000
set_option linter.unusedSimpArgs false

end Go.Proofs.Tz

namespace Go.Proofs.Tz
open Go.Vw
set_option maxRecDepth 100000
set_option maxHeartbeats 4000000
set_option linter.unusedSimpArgs false

/-- Every string is within the reach of the form. -/
def ReachS (l : List Str) : Prop := ∀ v ∈ l, List.length v ≤ 140737488351232
theorem ReachS.take {l : List Str} (h : ReachS l) (k : Nat) : ReachS (l.take k) := fun v hv => h v (List.mem_of_mem_take hv)
end Go.Proofs.Tz

namespace Go.Proofs.Tz
open Go.Vw
set_option maxRecDepth 100000
set_option maxHeartbeats 4000000
set_option linter.unusedSimpArgs false

end Go.Proofs.Tz

namespace Go.Proofs.Tz
open Go.Vw Go.Lib
set_option linter.unusedSimpArgs false

theorem sorted_name {l : List Att} {x : Att} (h : x ∈ sortedL l) : ∃ a ∈ l, a.2 ≠ [] ∧ lower a.1 = x.1 := by
  obtain ⟨n, hn, rfl⟩ := List.mem_map.1 h
  have hN := (namesF_spec l [] (by simp [SS])).2 n
  rw [show l.foldl namesS [] = namesF l from rfl] at hN
  rcases hN.1 hn with h | h
  · simp at h
  · exact h
theorem sorted_val {l : List Att} {x : Att} (h : x ∈ sortedL l) {v : Str} (hv : v ∈ x.2) : ∃ a ∈ l, lower a.1 = x.1 ∧ v ∈ a.2 := by
  obtain ⟨n, hn, rfl⟩ := List.mem_map.1 h
  have hV := (valsF_spec n l [] (by simp [SS])).2 v
  rw [show l.foldl (valsS n) [] = valsF l n from rfl] at hV
  rcases hV.1 hv with h | h
  · simp at h
  · exact h
end Go.Proofs.Tz

namespace Go.Proofs.Tz
open Go.Vw Go.Lib
set_option linter.unusedSimpArgs false

/-! ### normal forms as sets -/
def HasL (l : List Att) (n v : Str) : Prop := ∃ a ∈ l, lower a.1 = n ∧ v ∈ a.2
structure NF (s : List Att) : Prop where
  names : SS (s.map (·.1))
  vals : ∀ x ∈ s, SS x.2
  ne : ∀ x ∈ s, x.2 ≠ []

theorem lowc_lowc (c : UInt8) : lowc (lowc c) = lowc c := by
  unfold lowc
  by_cases h : 65 ≤ (c.toNat : Int) ∧ (c.toNat : Int) ≤ 90
  · rw [if_pos h, if_neg]
    rw [UInt8.toNat_add]
    have : (32 : UInt8).toNat = 32 := rfl
    omega
  · rw [if_neg h, if_neg h]
theorem lower_lower (s : Str) : lower (lower s) = lower s := by simp [lower, lowc_lowc]

theorem nf_sorted (l : List Att) : NF (sortedL l) := by
  have hN := namesF_spec l [] (by simp [SS])
  refine ⟨?_, fun x hx => ?_, fun x hx => ?_⟩
  · rw [sortedL, List.map_map]
    rw [show ((fun x : Att => x.1) ∘ fun n => (n, valsF l n)) = id from rfl, List.map_id]
    exact hN.1
  · obtain ⟨n, _, rfl⟩ := List.mem_map.1 hx
    exact (valsF_spec n l [] (by simp [SS])).1
  · obtain ⟨n, hn, rfl⟩ := List.mem_map.1 hx
    have hV := (valsF_spec n l [] (by simp [SS])).2
    rcases (hN.2 n).1 hn with h | ⟨a, ha, hne, e⟩
    · simp at h
    · obtain ⟨v, hv⟩ := List.exists_mem_of_ne_nil _ hne
      exact List.ne_nil_of_mem ((hV v).2 (.inr ⟨a, ha, e, hv⟩))
theorem sorted_has (l : List Att) (n v : Str) : Has (sortedL l) n v ↔ HasL l n v := by
  have hN := namesF_spec l [] (by simp [SS])
  constructor
  · rintro ⟨x, hx, rfl, hv⟩
    obtain ⟨a, ha, e, h⟩ := sorted_val hx hv
    exact ⟨a, ha, e, h⟩
  · rintro ⟨a, ha, e, hv⟩
    refine ⟨(n, valsF l n), List.mem_map.2 ⟨n, ?_, rfl⟩, rfl, ?_⟩
    · exact (hN.2 n).2 (.inr ⟨a, ha, List.ne_nil_of_mem hv, e⟩)
    · exact ((valsF_spec n l [] (by simp [SS])).2 v).2 (.inr ⟨a, ha, e, hv⟩)
theorem nodup_inj {α : Type} {l : List α} (h : l.Nodup) {i j : Nat} (hi : i < l.length) (hj : j < l.length) (e : l[i] = l[j]) : i = j := by
  have h1 := List.pairwise_iff_getElem.1 h
  rcases Nat.lt_trichotomy i j with h2 | h2 | h2
  · exact absurd e (h1 i j hi hj h2)
  · exact h2
  · exact absurd e.symm (h1 j i hj hi h2)
theorem nf_inj {s : List Att} (hs : NF s) {x y : Att} (hx : x ∈ s) (hy : y ∈ s) (h : x.1 = y.1) : x = y := by
  have hnd := hs.names.nodup
  obtain ⟨i, hi, rfl⟩ := List.mem_iff_getElem.1 hx
  obtain ⟨j, hj, rfl⟩ := List.mem_iff_getElem.1 hy
  have := nodup_inj hnd (i := i) (j := j) (by simpa using hi) (by simpa using hj) (by simpa using h)
  subst this; rfl
theorem nf_ext {s t : List Att} (hs : NF s) (ht : NF t) (h : ∀ n v, Has s n v ↔ Has t n v) : s = t := by
  have e1 : s.map (·.1) = t.map (·.1) := by
    refine SS_ext hs.names ht.names fun n => ?_
    constructor
    · intro hn
      obtain ⟨x, hx, rfl⟩ := List.mem_map.1 hn
      obtain ⟨v, hv⟩ := List.exists_mem_of_ne_nil _ (hs.ne x hx)
      obtain ⟨y, hy, e, _⟩ := (h x.1 v).1 ⟨x, hx, rfl, hv⟩
      exact List.mem_map.2 ⟨y, hy, e⟩
    · intro hn
      obtain ⟨x, hx, rfl⟩ := List.mem_map.1 hn
      obtain ⟨v, hv⟩ := List.exists_mem_of_ne_nil _ (ht.ne x hx)
      obtain ⟨y, hy, e, _⟩ := (h x.1 v).2 ⟨x, hx, rfl, hv⟩
      exact List.mem_map.2 ⟨y, hy, e⟩
  have hl : s.length = t.length := by simpa using congrArg List.length e1
  refine List.ext_getElem hl fun i h1 h2 => ?_
  have en : s[i].1 = t[i].1 := by
    have := List.getElem_of_eq e1 (i := i) (by simpa using h1)
    simpa using this
  refine Prod.ext en ?_
  refine SS_ext (hs.vals _ (List.getElem_mem h1)) (ht.vals _ (List.getElem_mem h2)) fun v => ?_
  constructor
  · intro hv
    obtain ⟨y, hy, e, hv⟩ := (h s[i].1 v).1 ⟨_, List.getElem_mem h1, rfl, hv⟩
    rw [← nf_inj ht hy (List.getElem_mem h2) (e.trans en)]
    exact hv
  · intro hv
    obtain ⟨y, hy, e, hv⟩ := (h t[i].1 v).2 ⟨_, List.getElem_mem h2, rfl, hv⟩
    rw [← nf_inj hs hy (List.getElem_mem h1) (e.trans en.symm)]
    exact hv
theorem sorted_ext {a b : List Att} (h : ∀ n v, HasL a n v ↔ HasL b n v) : sortedL a = sortedL b :=
  nf_ext (nf_sorted a) (nf_sorted b) fun n v => by rw [sorted_has, sorted_has, h]
theorem sorted_low {l : List Att} {x : Att} (h : x ∈ sortedL l) : lower x.1 = x.1 := by
  obtain ⟨a, _, _, e⟩ := sorted_name h
  rw [← e, lower_lower]
theorem hasL_sorted (l : List Att) (n v : Str) : HasL (sortedL l) n v ↔ HasL l n v := by
  rw [← sorted_has l n v]
  constructor
  · rintro ⟨x, hx, e, hv⟩; exact ⟨x, hx, (sorted_low hx).symm.trans e, hv⟩
  · rintro ⟨x, hx, e, hv⟩; exact ⟨x, hx, (sorted_low hx).trans e, hv⟩
theorem sorted_idem (l : List Att) : sortedL (sortedL l) = sortedL l := sorted_ext (hasL_sorted l)

theorem mem_findA {s : List Att} (hs : NF s) (n v : Str) : v ∈ findA n s ↔ Has s n v := by
  have key : ∀ (s : List Att), (∀ x ∈ s, ∀ y ∈ s, x.1 = y.1 → x = y) → (v ∈ findA n s ↔ Has s n v) := by
    intro s
    induction s with
    | nil => intro _; simp [findA, Has]
    | cons a s ih =>
      intro hi
      rw [findA]
      split
      · rename_i h
        constructor
        · intro hv; exact ⟨a, by simp, h, hv⟩
        · rintro ⟨y, hy, e, hv⟩
          rw [hi a (by simp) y hy (h.trans e.symm)]; exact hv
      · rename_i h
        rw [ih fun x hx y hy => hi x (by simp [hx]) y (by simp [hy])]
        constructor
        · rintro ⟨y, hy, e, hv⟩; exact ⟨y, by simp [hy], e, hv⟩
        · rintro ⟨y, hy, e, hv⟩
          rcases List.mem_cons.1 hy with rfl | hy
          · exact absurd e h
          · exact ⟨y, hy, e, hv⟩
  exact key s fun x hx y hy => nf_inj hs hx hy
theorem mem_getL (l : List Att) (name v : Str) : v ∈ getL l name ↔ HasL l (lower name) v := by
  rw [getL, mem_findA (nf_sorted l), sorted_has]
theorem findA_SS {s : List Att} (h : ∀ x ∈ s, SS x.2) (n : Str) : SS (findA n s) := by
  induction s with
  | nil => simp [findA, SS]
  | cons a s ih =>
    rw [findA]
    split
    · exact h a (by simp)
    · exact ih fun x hx => h x (by simp [hx])
theorem SS_getL (l : List Att) (name : Str) : SS (getL l name) := findA_SS (nf_sorted l).vals _
theorem getL_ext {a b : List Att} {n m : Str} (h : ∀ v, HasL a (lower n) v ↔ HasL b (lower m) v) : getL a n = getL b m :=
  SS_ext (SS_getL _ _) (SS_getL _ _) fun v => by rw [mem_getL, mem_getL, h]

/-! ### setting -/
theorem hasL_app (a b : List Att) (n v : Str) : HasL (a ++ b) n v ↔ HasL a n v ∨ HasL b n v := by
  simp only [HasL, List.mem_append]
  constructor
  · rintro ⟨x, h | h, h2⟩
    · exact .inl ⟨x, h, h2⟩
    · exact .inr ⟨x, h, h2⟩
  · rintro (⟨x, h, h2⟩ | ⟨x, h, h2⟩)
    · exact ⟨x, .inl h, h2⟩
    · exact ⟨x, .inr h, h2⟩
theorem hasL_one (m : Str) (w : List Str) (n v : Str) : HasL [(m, w)] n v ↔ lower m = n ∧ v ∈ w := by simp [HasL]
theorem hasL_fil (l : List Att) (m n v : Str) : HasL ((sortedL l).filter fun x => !decide (x.1 = m)) n v ↔ n ≠ m ∧ HasL l n v := by
  rw [← hasL_sorted l]
  constructor
  · rintro ⟨x, hx, e, hv⟩
    obtain ⟨h1, h2⟩ := List.mem_filter.1 hx
    rw [sorted_low h1] at e
    subst e
    exact ⟨by simpa using h2, x, h1, sorted_low h1, hv⟩
  · rintro ⟨hne, x, hx, e, hv⟩
    refine ⟨x, List.mem_filter.2 ⟨hx, ?_⟩, e, hv⟩
    rw [sorted_low hx] at e
    simp [e, hne]
theorem hasL_set (l : List Att) (name : Str) (w : List Str) (n v : Str) : HasL (setL (sortedL l) name w) n v ↔ (n ≠ lower name ∧ HasL l n v) ∨ (n = lower name ∧ v ∈ w) := by
  rw [setL, hasL_sorted, hasL_app, hasL_fil, hasL_one, lower_lower, eq_comm (a := lower name)]
theorem nodup_len {a b : List Str} (ha : a.Nodup) (hb : b.Nodup) (h : ∀ x, x ∈ a ↔ x ∈ b) : a.length = b.length :=
  ((List.perm_ext_iff_of_nodup ha hb).2 h).length_eq
theorem getL_set (l : List Att) (name : Str) (w : List Str) (v : Str) : v ∈ getL (setL (sortedL l) name w) name ↔ v ∈ w := by
  rw [mem_getL, hasL_set]; simp
theorem getL_set_len (l : List Att) (name : Str) {w : List Str} (h : w.Nodup) : (getL (setL (sortedL l) name w) name).length = w.length :=
  nodup_len (SS_getL _ _).nodup h (getL_set l name w)
theorem getL_other (l : List Att) {name other : Str} (w : List Str) (h : ¬ lower name = lower other) : getL (setL (sortedL l) name w) other = getL l other :=
  getL_ext fun v => by
    rw [hasL_set]
    have h' : ¬ lower other = lower name := fun e => h e.symm
    simp [h, h']

/-! ### errors of values -/
theorem chkV_zero (old : List Str) : ∀ (l b : List Str), chkV old b l = 0 ↔ (∀ v ∈ l, cleanB v = true ∧ v ∉ old ∧ v ∉ b) ∧ l.Nodup
  | [], b => by simp [chkV]
  | x :: l, b => by
    rw [chkV]
    by_cases h1 : cleanB x = false
    · simp [h1]
    · rw [if_neg h1]
      by_cases h2 : x ∈ old ∨ x ∈ b
      · rw [if_pos h2]
        simp only [List.mem_cons, forall_eq_or_imp]
        constructor
        · intro h; simp at h
        · rintro ⟨⟨⟨_, h3, h4⟩, _⟩, _⟩
          rcases h2 with h | h
          · exact absurd h h3
          · exact absurd h h4
      · rw [if_neg h2, chkV_zero old l (b ++ [x])]
        simp only [not_or] at h2
        simp only [List.mem_cons, forall_eq_or_imp, List.mem_append, List.nodup_cons, List.mem_nil_iff, or_false, not_or]
        have h1' : cleanB x = true := by simpa using h1
        constructor
        · rintro ⟨h3, h4⟩
          refine ⟨⟨⟨h1', h2⟩, fun v hv => ⟨(h3 v hv).1, (h3 v hv).2.1, (h3 v hv).2.2.1⟩⟩, fun hx => ?_, h4⟩
          exact (h3 x hx).2.2.2 rfl
        · rintro ⟨⟨_, h3⟩, h4, h5⟩
          exact ⟨fun v hv => ⟨(h3 v hv).1, (h3 v hv).2.1, (h3 v hv).2.2, fun e => h4 (e ▸ hv)⟩, h5⟩
/-! ### what the program's edits come to is what the specification's come to -/
end Go.Proofs.Tz
