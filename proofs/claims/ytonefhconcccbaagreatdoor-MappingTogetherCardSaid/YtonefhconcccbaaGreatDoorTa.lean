/-
  What the functions that the statements about layer 47 (mapping) reach compute, part 1 of 2: contracts and plain laws, for lists and strings of bounded size (each theorem states its bound).
-/
import Derived.Shelf.Strings.OnBuilder
import Derived.Ground.NamesProg
import Derived.Test.YtonefhconcccbaaGreatDoorProg
import Derived.Test.YtonefhconcccbaaGreatDoorWb
import Derived.KernelRfl
import Derived.WalkKit
import Derived.Lib.Builder
import Derived.Lib.UnsafeStr
import Derived.Laws.Externs
import Derived.RegionTactic
import Derived.Test.YtonefhconcccbaaGreatDoorWc
import Derived.Lib.Bytealg

set_option linter.unusedSimpArgs false
set_option linter.unusedVariables false

/-
  DERIVED: THE SHELF's CONTRACTS AT THIS DUMP, IN PLAIN WORDS (tools/lay-plain.mjs out of 'SxShP.lean', which tools/lay-shelf.mjs wrote): THE SAME DECLARATIONS UNDER THE SAME NAMES: 'import', 'namespace', 'open', 'def', 'theorem' AND NOTHING ELSE: no command of the shelf's: FOR A HAND-IN. Each laying: the table of numbers ('.._ren') and one theorem, a field a fact of the dump's own or the kernel's comparison; each contract: ONE APPLICATION.
-/
namespace Go.Proofs
open Go.Shelf
def Tryz.layJ_ren : Go.Shelf.Ren := ⟨fun | 156 => 93 | 165 => 129 | 166 => 31 | 169 => 34 | 240 => 62 | 241 => 151 | 276 => 87 | 277 => 158 | n => n, fun | 31 => 33 | 9 => 9 | 3 => 3 | 4 => 4 | 0 => 0 | 20 => 20 | 72 => 61 | 76 => 64 | 70 => 58 | 37 => 59 | 75 => 63 | 127 => 94 | 164 => 106 | 5 => 5 | 80 => 67 | n => n, fun | n => n⟩
theorem Tryz.layJ : Go.Proofs.Lays.n156 Tryz.prog Tryz.layJ_ren := {
  mixed := by kernel_rfl
  f156 := Tryz.func93.trans (congrArg some (by kernel_rfl))
  f165 := Tryz.func129.trans (congrArg some (by kernel_rfl))
  f166 := Tryz.func31.trans (congrArg some (by kernel_rfl))
  f169 := Tryz.func34.trans (congrArg some (by kernel_rfl))
  f240 := Tryz.func62.trans (congrArg some (by kernel_rfl))
  f241 := Tryz.func151.trans (congrArg some (by kernel_rfl))
  f276 := Tryz.func87.trans (congrArg some (by kernel_rfl))
  f277 := Tryz.func158.trans (congrArg some (by kernel_rfl))
  t0 := Tryz.underlying0
  a0 := Tryz.isAgg0
  z0 := Tryz.sizeOf0
  v0 := Tryz.zeroValue0
  t3 := Tryz.underlying3
  a3 := Tryz.isAgg3
  z3 := Tryz.sizeOf3
  v3 := Tryz.zeroValue3
  t4 := Tryz.underlying4
  a4 := Tryz.isAgg4
  z4 := Tryz.sizeOf4
  v4 := Tryz.zeroValue4
  t9 := Tryz.underlying9
  a9 := Tryz.isAgg9
  z9 := Tryz.sizeOf9
  v9 := Tryz.zeroValue9
  t20 := Tryz.underlying20
  a20 := Tryz.isAgg20
  z20 := Tryz.sizeOf20
  v20 := Tryz.zeroValue20
  t31 := Tryz.underlying33
  a31 := Tryz.isAgg33
  z31 := Tryz.sizeOf33
  v31 := Tryz.zeroValue33
  t37 := Tryz.underlying59
  a37 := Tryz.isAgg59
  z37 := Tryz.sizeOf59
  v37 := Tryz.zeroValue59
  t70 := Tryz.underlying58
  a70 := Tryz.isAgg58
  z70 := Tryz.sizeOf58
  v70 := Tryz.zeroValue58
  t72 := Tryz.underlying61
  a72 := Tryz.isAgg61
  z72 := Tryz.sizeOf61
  v72 := Tryz.zeroValue61
  t75 := Tryz.underlying63
  a75 := Tryz.isAgg63
  z75 := Tryz.sizeOf63
  v75 := Tryz.zeroValue63
  t76 := Tryz.underlying64
  a76 := Tryz.isAgg64
  z76 := Tryz.sizeOf64
  v76 := Tryz.zeroValue64
  t127 := Tryz.underlying94
  a127 := Tryz.isAgg94
  z127 := Tryz.sizeOf94
  v127 := Tryz.zeroValue94
  t164 := Tryz.underlying106
  a164 := Tryz.isAgg106
  z164 := Tryz.sizeOf106
  v164 := Tryz.zeroValue106 }
end Go.Proofs

/- Facts on the types of this translation, as rewrite rules of the abstract walk. -/
namespace Go.Proofs
open Go.Vw
@[simp] theorem Tryz.ez_1 : esz Tryz.prog 1 = some (1, 8) := by kernel_rfl
@[simp] theorem Tryz.sz_1 : szOf Tryz.prog 1 = some 1 := by kernel_rfl
@[simp] theorem Tryz.tk_1 : tyk Tryz.prog 1 = some (false, 1) := by kernel_rfl
@[simp] theorem Tryz.zd_1 : zeroD Tryz.prog 1 = some (.raw .nilFunc) := by kernel_rfl
@[simp] theorem Tryz.u_2 : Program.underlying Tryz.prog 2 = some (.int .i64) := by kernel_rfl
@[simp] theorem Tryz.se_2 : sliceE Tryz.prog 2 = none := by kernel_rfl
@[simp] theorem Tryz.ez_2 : esz Tryz.prog 2 = some (1, 8) := by kernel_rfl
@[simp] theorem Tryz.sz_2 : szOf Tryz.prog 2 = some 1 := by kernel_rfl
@[simp] theorem Tryz.tk_2 : tyk Tryz.prog 2 = some (false, 1) := by kernel_rfl
@[simp] theorem Tryz.zd_2 : zeroD Tryz.prog 2 = some (.int .i64 0) := by kernel_rfl
@[simp] theorem Tryz.u_3 : Program.underlying Tryz.prog 3 = some (.int .i64) := by kernel_rfl
@[simp] theorem Tryz.se_3 : sliceE Tryz.prog 3 = none := by kernel_rfl
@[simp] theorem Tryz.ez_3 : esz Tryz.prog 3 = some (1, 8) := by kernel_rfl
@[simp] theorem Tryz.sz_3 : szOf Tryz.prog 3 = some 1 := by kernel_rfl
@[simp] theorem Tryz.tk_3 : tyk Tryz.prog 3 = some (false, 1) := by kernel_rfl
@[simp] theorem Tryz.zd_3 : zeroD Tryz.prog 3 = some (.int .i64 0) := by kernel_rfl
@[simp] theorem Tryz.u_4 : Program.underlying Tryz.prog 4 = some .bool := by kernel_rfl
@[simp] theorem Tryz.se_4 : sliceE Tryz.prog 4 = none := by kernel_rfl
@[simp] theorem Tryz.ez_4 : esz Tryz.prog 4 = some (1, 1) := by kernel_rfl
@[simp] theorem Tryz.sz_4 : szOf Tryz.prog 4 = some 1 := by kernel_rfl
@[simp] theorem Tryz.tk_4 : tyk Tryz.prog 4 = some (false, 1) := by kernel_rfl
@[simp] theorem Tryz.zd_4 : zeroD Tryz.prog 4 = some (.bool false) := by kernel_rfl
@[simp] theorem Tryz.u_5 : Program.underlying Tryz.prog 5 = some (.int .u8) := by kernel_rfl
@[simp] theorem Tryz.se_5 : sliceE Tryz.prog 5 = none := by kernel_rfl
@[simp] theorem Tryz.ez_5 : esz Tryz.prog 5 = some (1, 1) := by kernel_rfl
@[simp] theorem Tryz.sz_5 : szOf Tryz.prog 5 = some 1 := by kernel_rfl
@[simp] theorem Tryz.tk_5 : tyk Tryz.prog 5 = some (false, 1) := by kernel_rfl
@[simp] theorem Tryz.zd_5 : zeroD Tryz.prog 5 = some (.int .u8 0) := by kernel_rfl
@[simp] theorem Tryz.u_9 : Program.underlying Tryz.prog 9 = some .string := by kernel_rfl
@[simp] theorem Tryz.se_9 : sliceE Tryz.prog 9 = none := by kernel_rfl
@[simp] theorem Tryz.ez_9 : esz Tryz.prog 9 = some (1, 16) := by kernel_rfl
@[simp] theorem Tryz.sz_9 : szOf Tryz.prog 9 = some 1 := by kernel_rfl
@[simp] theorem Tryz.tk_9 : tyk Tryz.prog 9 = some (false, 1) := by kernel_rfl
@[simp] theorem Tryz.zd_9 : zeroD Tryz.prog 9 = some (.str []) := by kernel_rfl
@[simp] theorem Tryz.u_12 : Program.underlying Tryz.prog 12 = some (.int .u64) := by kernel_rfl
@[simp] theorem Tryz.se_12 : sliceE Tryz.prog 12 = none := by kernel_rfl
@[simp] theorem Tryz.ez_12 : esz Tryz.prog 12 = some (1, 8) := by kernel_rfl
@[simp] theorem Tryz.sz_12 : szOf Tryz.prog 12 = some 1 := by kernel_rfl
@[simp] theorem Tryz.tk_12 : tyk Tryz.prog 12 = some (false, 1) := by kernel_rfl
@[simp] theorem Tryz.zd_12 : zeroD Tryz.prog 12 = some (.int .u64 0) := by kernel_rfl
@[simp] theorem Tryz.ez_13 : esz Tryz.prog 13 = some (2, 24) := by kernel_rfl
@[simp] theorem Tryz.sz_13 : szOf Tryz.prog 13 = some 2 := by kernel_rfl
@[simp] theorem Tryz.tk_13 : tyk Tryz.prog 13 = some (true, 2) := by kernel_rfl
@[simp] theorem Tryz.zd_13 : zeroD Tryz.prog 13 = some (.agg [.str [], .int .u64 0]) := by kernel_rfl
@[simp] theorem Tryz.sd_13 : structD Tryz.prog 13 = some [.str [], .int .u64 0] := by kernel_rfl
@[simp] theorem Tryz.fo_13_0 : fieldOff Tryz.prog 13 0 = some 0 := by kernel_rfl
@[simp] theorem Tryz.fo_13_1 : fieldOff Tryz.prog 13 1 = some 1 := by kernel_rfl
@[simp] theorem Tryz.u_21 : Program.underlying Tryz.prog 21 = some (.int .i32) := by kernel_rfl
@[simp] theorem Tryz.se_21 : sliceE Tryz.prog 21 = none := by kernel_rfl
@[simp] theorem Tryz.ez_21 : esz Tryz.prog 21 = some (1, 4) := by kernel_rfl
@[simp] theorem Tryz.sz_21 : szOf Tryz.prog 21 = some 1 := by kernel_rfl
@[simp] theorem Tryz.tk_21 : tyk Tryz.prog 21 = some (false, 1) := by kernel_rfl
@[simp] theorem Tryz.zd_21 : zeroD Tryz.prog 21 = some (.int .i32 0) := by kernel_rfl
@[simp] theorem Tryz.u_22 : Program.underlying Tryz.prog 22 = some (.slice 56) := by kernel_rfl
@[simp] theorem Tryz.se_22 : sliceE Tryz.prog 22 = some 56 := by kernel_rfl
@[simp] theorem Tryz.ez_22 : esz Tryz.prog 22 = some (1, 24) := by kernel_rfl
@[simp] theorem Tryz.sz_22 : szOf Tryz.prog 22 = some 1 := by kernel_rfl
@[simp] theorem Tryz.tk_22 : tyk Tryz.prog 22 = some (false, 1) := by kernel_rfl
@[simp] theorem Tryz.zd_22 : zeroD Tryz.prog 22 = some (.sl []) := by kernel_rfl
@[simp] theorem Tryz.ez_23 : esz Tryz.prog 23 = some (1, 8) := by kernel_rfl
@[simp] theorem Tryz.sz_23 : szOf Tryz.prog 23 = some 1 := by kernel_rfl
@[simp] theorem Tryz.tk_23 : tyk Tryz.prog 23 = some (false, 1) := by kernel_rfl
@[simp] theorem Tryz.zd_23 : zeroD Tryz.prog 23 = some (.raw .nilFunc) := by kernel_rfl
@[simp] theorem Tryz.ez_24 : esz Tryz.prog 24 = some (1, 8) := by kernel_rfl
@[simp] theorem Tryz.sz_24 : szOf Tryz.prog 24 = some 1 := by kernel_rfl
@[simp] theorem Tryz.tk_24 : tyk Tryz.prog 24 = some (false, 1) := by kernel_rfl
@[simp] theorem Tryz.zd_24 : zeroD Tryz.prog 24 = some (.raw .nilFunc) := by kernel_rfl
@[simp] theorem Tryz.u_25 : Program.underlying Tryz.prog 25 = some (.int .i64) := by kernel_rfl
@[simp] theorem Tryz.se_25 : sliceE Tryz.prog 25 = none := by kernel_rfl
@[simp] theorem Tryz.ez_25 : esz Tryz.prog 25 = some (1, 8) := by kernel_rfl
@[simp] theorem Tryz.sz_25 : szOf Tryz.prog 25 = some 1 := by kernel_rfl
@[simp] theorem Tryz.tk_25 : tyk Tryz.prog 25 = some (false, 1) := by kernel_rfl
@[simp] theorem Tryz.zd_25 : zeroD Tryz.prog 25 = some (.int .i64 0) := by kernel_rfl
@[simp] theorem Tryz.ez_27 : esz Tryz.prog 27 = some (1, 8) := by kernel_rfl
@[simp] theorem Tryz.sz_27 : szOf Tryz.prog 27 = some 1 := by kernel_rfl
@[simp] theorem Tryz.tk_27 : tyk Tryz.prog 27 = some (false, 1) := by kernel_rfl
@[simp] theorem Tryz.zd_27 : zeroD Tryz.prog 27 = some (.raw .nilFunc) := by kernel_rfl
@[simp] theorem Tryz.ez_29 : esz Tryz.prog 29 = some (1, 8) := by kernel_rfl
@[simp] theorem Tryz.sz_29 : szOf Tryz.prog 29 = some 1 := by kernel_rfl
@[simp] theorem Tryz.tk_29 : tyk Tryz.prog 29 = some (false, 1) := by kernel_rfl
@[simp] theorem Tryz.zd_29 : zeroD Tryz.prog 29 = some (.raw .nilFunc) := by kernel_rfl
@[simp] theorem Tryz.ez_30 : esz Tryz.prog 30 = some (1, 8) := by kernel_rfl
@[simp] theorem Tryz.sz_30 : szOf Tryz.prog 30 = some 1 := by kernel_rfl
@[simp] theorem Tryz.tk_30 : tyk Tryz.prog 30 = some (false, 1) := by kernel_rfl
@[simp] theorem Tryz.zd_30 : zeroD Tryz.prog 30 = some (.raw .nilFunc) := by kernel_rfl
@[simp] theorem Tryz.ez_31 : esz Tryz.prog 31 = some (1, 8) := by kernel_rfl
@[simp] theorem Tryz.sz_31 : szOf Tryz.prog 31 = some 1 := by kernel_rfl
@[simp] theorem Tryz.tk_31 : tyk Tryz.prog 31 = some (false, 1) := by kernel_rfl
@[simp] theorem Tryz.zd_31 : zeroD Tryz.prog 31 = some (.raw .nilFunc) := by kernel_rfl
@[simp] theorem Tryz.ez_32 : esz Tryz.prog 32 = some (1, 8) := by kernel_rfl
@[simp] theorem Tryz.sz_32 : szOf Tryz.prog 32 = some 1 := by kernel_rfl
@[simp] theorem Tryz.tk_32 : tyk Tryz.prog 32 = some (false, 1) := by kernel_rfl
@[simp] theorem Tryz.zd_32 : zeroD Tryz.prog 32 = some (.raw .nilFunc) := by kernel_rfl
@[simp] theorem Tryz.u_33 : Program.underlying Tryz.prog 33 = some (.slice 9) := by kernel_rfl
@[simp] theorem Tryz.se_33 : sliceE Tryz.prog 33 = some 9 := by kernel_rfl
@[simp] theorem Tryz.ez_33 : esz Tryz.prog 33 = some (1, 24) := by kernel_rfl
@[simp] theorem Tryz.sz_33 : szOf Tryz.prog 33 = some 1 := by kernel_rfl
@[simp] theorem Tryz.tk_33 : tyk Tryz.prog 33 = some (false, 1) := by kernel_rfl
@[simp] theorem Tryz.zd_33 : zeroD Tryz.prog 33 = some (.sl []) := by kernel_rfl
@[simp] theorem Tryz.ez_34 : esz Tryz.prog 34 = some (1, 8) := by kernel_rfl
@[simp] theorem Tryz.sz_34 : szOf Tryz.prog 34 = some 1 := by kernel_rfl
@[simp] theorem Tryz.tk_34 : tyk Tryz.prog 34 = some (false, 1) := by kernel_rfl
@[simp] theorem Tryz.zd_34 : zeroD Tryz.prog 34 = some (.raw .nilFunc) := by kernel_rfl
@[simp] theorem Tryz.ez_35 : esz Tryz.prog 35 = some (1, 8) := by kernel_rfl
@[simp] theorem Tryz.sz_35 : szOf Tryz.prog 35 = some 1 := by kernel_rfl
@[simp] theorem Tryz.tk_35 : tyk Tryz.prog 35 = some (false, 1) := by kernel_rfl
@[simp] theorem Tryz.zd_35 : zeroD Tryz.prog 35 = some (.raw .nilFunc) := by kernel_rfl
@[simp] theorem Tryz.u_36 : Program.underlying Tryz.prog 36 = some (.slice 50) := by kernel_rfl
@[simp] theorem Tryz.se_36 : sliceE Tryz.prog 36 = some 50 := by kernel_rfl
@[simp] theorem Tryz.ez_36 : esz Tryz.prog 36 = some (1, 24) := by kernel_rfl
@[simp] theorem Tryz.sz_36 : szOf Tryz.prog 36 = some 1 := by kernel_rfl
@[simp] theorem Tryz.tk_36 : tyk Tryz.prog 36 = some (false, 1) := by kernel_rfl
@[simp] theorem Tryz.zd_36 : zeroD Tryz.prog 36 = some (.sl []) := by kernel_rfl
@[simp] theorem Tryz.ez_37 : esz Tryz.prog 37 = some (1, 8) := by kernel_rfl
@[simp] theorem Tryz.sz_37 : szOf Tryz.prog 37 = some 1 := by kernel_rfl
@[simp] theorem Tryz.tk_37 : tyk Tryz.prog 37 = some (false, 1) := by kernel_rfl
@[simp] theorem Tryz.zd_37 : zeroD Tryz.prog 37 = some (.raw .nilFunc) := by kernel_rfl
@[simp] theorem Tryz.ez_39 : esz Tryz.prog 39 = some (1, 8) := by kernel_rfl
@[simp] theorem Tryz.sz_39 : szOf Tryz.prog 39 = some 1 := by kernel_rfl
@[simp] theorem Tryz.tk_39 : tyk Tryz.prog 39 = some (false, 1) := by kernel_rfl
@[simp] theorem Tryz.zd_39 : zeroD Tryz.prog 39 = some (.raw .nilFunc) := by kernel_rfl
@[simp] theorem Tryz.ez_40 : esz Tryz.prog 40 = some (3, 48) := by kernel_rfl
@[simp] theorem Tryz.sz_40 : szOf Tryz.prog 40 = some 3 := by kernel_rfl
@[simp] theorem Tryz.tk_40 : tyk Tryz.prog 40 = some (true, 3) := by kernel_rfl
@[simp] theorem Tryz.zd_40 : zeroD Tryz.prog 40 = some (.agg [.str [], .bool false, .sl []]) := by kernel_rfl
@[simp] theorem Tryz.sd_40 : structD Tryz.prog 40 = some [.str [], .bool false, .sl []] := by kernel_rfl
@[simp] theorem Tryz.fo_40_0 : fieldOff Tryz.prog 40 0 = some 0 := by kernel_rfl
@[simp] theorem Tryz.fo_40_1 : fieldOff Tryz.prog 40 1 = some 1 := by kernel_rfl
@[simp] theorem Tryz.fo_40_2 : fieldOff Tryz.prog 40 2 = some 2 := by kernel_rfl
@[simp] theorem Tryz.ez_41 : esz Tryz.prog 41 = some (3, 48) := by kernel_rfl
@[simp] theorem Tryz.sz_41 : szOf Tryz.prog 41 = some 3 := by kernel_rfl
@[simp] theorem Tryz.tk_41 : tyk Tryz.prog 41 = some (true, 3) := by kernel_rfl
@[simp] theorem Tryz.zd_41 : zeroD Tryz.prog 41 = some (.agg [.str [], .bool false, .sl []]) := by kernel_rfl
@[simp] theorem Tryz.sd_41 : structD Tryz.prog 41 = some [.str [], .bool false, .sl []] := by kernel_rfl
@[simp] theorem Tryz.fo_41_0 : fieldOff Tryz.prog 41 0 = some 0 := by kernel_rfl
@[simp] theorem Tryz.fo_41_1 : fieldOff Tryz.prog 41 1 = some 1 := by kernel_rfl
@[simp] theorem Tryz.fo_41_2 : fieldOff Tryz.prog 41 2 = some 2 := by kernel_rfl
@[simp] theorem Tryz.ez_43 : esz Tryz.prog 43 = some (1, 8) := by kernel_rfl
@[simp] theorem Tryz.sz_43 : szOf Tryz.prog 43 = some 1 := by kernel_rfl
@[simp] theorem Tryz.tk_43 : tyk Tryz.prog 43 = some (false, 1) := by kernel_rfl
@[simp] theorem Tryz.zd_43 : zeroD Tryz.prog 43 = some (.raw .nilFunc) := by kernel_rfl
@[simp] theorem Tryz.ez_44 : esz Tryz.prog 44 = some (2, 40) := by kernel_rfl
@[simp] theorem Tryz.sz_44 : szOf Tryz.prog 44 = some 2 := by kernel_rfl
@[simp] theorem Tryz.tk_44 : tyk Tryz.prog 44 = some (true, 2) := by kernel_rfl
@[simp] theorem Tryz.zd_44 : zeroD Tryz.prog 44 = some (.agg [.str [], .sl []]) := by kernel_rfl
@[simp] theorem Tryz.sd_44 : structD Tryz.prog 44 = some [.str [], .sl []] := by kernel_rfl
@[simp] theorem Tryz.fo_44_0 : fieldOff Tryz.prog 44 0 = some 0 := by kernel_rfl
@[simp] theorem Tryz.fo_44_1 : fieldOff Tryz.prog 44 1 = some 1 := by kernel_rfl
@[simp] theorem Tryz.ez_45 : esz Tryz.prog 45 = some (2, 40) := by kernel_rfl
@[simp] theorem Tryz.sz_45 : szOf Tryz.prog 45 = some 2 := by kernel_rfl
@[simp] theorem Tryz.tk_45 : tyk Tryz.prog 45 = some (true, 2) := by kernel_rfl
@[simp] theorem Tryz.zd_45 : zeroD Tryz.prog 45 = some (.agg [.str [], .sl []]) := by kernel_rfl
@[simp] theorem Tryz.sd_45 : structD Tryz.prog 45 = some [.str [], .sl []] := by kernel_rfl
@[simp] theorem Tryz.fo_45_0 : fieldOff Tryz.prog 45 0 = some 0 := by kernel_rfl
@[simp] theorem Tryz.fo_45_1 : fieldOff Tryz.prog 45 1 = some 1 := by kernel_rfl
@[simp] theorem Tryz.ez_46 : esz Tryz.prog 46 = some (1, 8) := by kernel_rfl
@[simp] theorem Tryz.sz_46 : szOf Tryz.prog 46 = some 1 := by kernel_rfl
@[simp] theorem Tryz.tk_46 : tyk Tryz.prog 46 = some (false, 1) := by kernel_rfl
@[simp] theorem Tryz.zd_46 : zeroD Tryz.prog 46 = some (.raw .nilFunc) := by kernel_rfl
@[simp] theorem Tryz.ez_47 : esz Tryz.prog 47 = some (1, 8) := by kernel_rfl
@[simp] theorem Tryz.sz_47 : szOf Tryz.prog 47 = some 1 := by kernel_rfl
@[simp] theorem Tryz.tk_47 : tyk Tryz.prog 47 = some (false, 1) := by kernel_rfl
@[simp] theorem Tryz.zd_47 : zeroD Tryz.prog 47 = some (.raw .nilFunc) := by kernel_rfl
@[simp] theorem Tryz.ez_48 : esz Tryz.prog 48 = some (1, 8) := by kernel_rfl
@[simp] theorem Tryz.sz_48 : szOf Tryz.prog 48 = some 1 := by kernel_rfl
@[simp] theorem Tryz.tk_48 : tyk Tryz.prog 48 = some (false, 1) := by kernel_rfl
@[simp] theorem Tryz.zd_48 : zeroD Tryz.prog 48 = some (.raw .nilFunc) := by kernel_rfl
@[simp] theorem Tryz.ez_49 : esz Tryz.prog 49 = some (2, 40) := by kernel_rfl
@[simp] theorem Tryz.sz_49 : szOf Tryz.prog 49 = some 2 := by kernel_rfl
@[simp] theorem Tryz.tk_49 : tyk Tryz.prog 49 = some (true, 2) := by kernel_rfl
@[simp] theorem Tryz.zd_49 : zeroD Tryz.prog 49 = some (.agg [.str [], .sl []]) := by kernel_rfl
@[simp] theorem Tryz.sd_49 : structD Tryz.prog 49 = some [.str [], .sl []] := by kernel_rfl
@[simp] theorem Tryz.fo_49_0 : fieldOff Tryz.prog 49 0 = some 0 := by kernel_rfl
@[simp] theorem Tryz.fo_49_1 : fieldOff Tryz.prog 49 1 = some 1 := by kernel_rfl
@[simp] theorem Tryz.ez_50 : esz Tryz.prog 50 = some (2, 40) := by kernel_rfl
@[simp] theorem Tryz.sz_50 : szOf Tryz.prog 50 = some 2 := by kernel_rfl
@[simp] theorem Tryz.tk_50 : tyk Tryz.prog 50 = some (true, 2) := by kernel_rfl
@[simp] theorem Tryz.zd_50 : zeroD Tryz.prog 50 = some (.agg [.str [], .sl []]) := by kernel_rfl
@[simp] theorem Tryz.sd_50 : structD Tryz.prog 50 = some [.str [], .sl []] := by kernel_rfl
@[simp] theorem Tryz.fo_50_0 : fieldOff Tryz.prog 50 0 = some 0 := by kernel_rfl
@[simp] theorem Tryz.fo_50_1 : fieldOff Tryz.prog 50 1 = some 1 := by kernel_rfl
@[simp] theorem Tryz.ez_51 : esz Tryz.prog 51 = some (1, 8) := by kernel_rfl
@[simp] theorem Tryz.sz_51 : szOf Tryz.prog 51 = some 1 := by kernel_rfl
@[simp] theorem Tryz.tk_51 : tyk Tryz.prog 51 = some (false, 1) := by kernel_rfl
@[simp] theorem Tryz.zd_51 : zeroD Tryz.prog 51 = some (.raw .nilFunc) := by kernel_rfl
@[simp] theorem Tryz.ez_52 : esz Tryz.prog 52 = some (1, 8) := by kernel_rfl
@[simp] theorem Tryz.sz_52 : szOf Tryz.prog 52 = some 1 := by kernel_rfl
@[simp] theorem Tryz.tk_52 : tyk Tryz.prog 52 = some (false, 1) := by kernel_rfl
@[simp] theorem Tryz.zd_52 : zeroD Tryz.prog 52 = some (.raw .nilFunc) := by kernel_rfl
@[simp] theorem Tryz.ez_53 : esz Tryz.prog 53 = some (1, 8) := by kernel_rfl
@[simp] theorem Tryz.sz_53 : szOf Tryz.prog 53 = some 1 := by kernel_rfl
@[simp] theorem Tryz.tk_53 : tyk Tryz.prog 53 = some (false, 1) := by kernel_rfl
@[simp] theorem Tryz.zd_53 : zeroD Tryz.prog 53 = some (.raw .nilFunc) := by kernel_rfl
@[simp] theorem Tryz.ez_54 : esz Tryz.prog 54 = some (1, 8) := by kernel_rfl
@[simp] theorem Tryz.sz_54 : szOf Tryz.prog 54 = some 1 := by kernel_rfl
@[simp] theorem Tryz.tk_54 : tyk Tryz.prog 54 = some (false, 1) := by kernel_rfl
@[simp] theorem Tryz.zd_54 : zeroD Tryz.prog 54 = some (.raw .nilFunc) := by kernel_rfl
@[simp] theorem Tryz.ez_55 : esz Tryz.prog 55 = some (3, 48) := by kernel_rfl
@[simp] theorem Tryz.sz_55 : szOf Tryz.prog 55 = some 3 := by kernel_rfl
@[simp] theorem Tryz.tk_55 : tyk Tryz.prog 55 = some (true, 3) := by kernel_rfl
@[simp] theorem Tryz.zd_55 : zeroD Tryz.prog 55 = some (.agg [.str [], .str [], .str []]) := by kernel_rfl
@[simp] theorem Tryz.sd_55 : structD Tryz.prog 55 = some [.str [], .str [], .str []] := by kernel_rfl
@[simp] theorem Tryz.fo_55_0 : fieldOff Tryz.prog 55 0 = some 0 := by kernel_rfl
@[simp] theorem Tryz.fo_55_1 : fieldOff Tryz.prog 55 1 = some 1 := by kernel_rfl
@[simp] theorem Tryz.fo_55_2 : fieldOff Tryz.prog 55 2 = some 2 := by kernel_rfl
@[simp] theorem Tryz.ez_56 : esz Tryz.prog 56 = some (3, 48) := by kernel_rfl
@[simp] theorem Tryz.sz_56 : szOf Tryz.prog 56 = some 3 := by kernel_rfl
@[simp] theorem Tryz.tk_56 : tyk Tryz.prog 56 = some (true, 3) := by kernel_rfl
@[simp] theorem Tryz.zd_56 : zeroD Tryz.prog 56 = some (.agg [.str [], .str [], .str []]) := by kernel_rfl
@[simp] theorem Tryz.sd_56 : structD Tryz.prog 56 = some [.str [], .str [], .str []] := by kernel_rfl
@[simp] theorem Tryz.fo_56_0 : fieldOff Tryz.prog 56 0 = some 0 := by kernel_rfl
@[simp] theorem Tryz.fo_56_1 : fieldOff Tryz.prog 56 1 = some 1 := by kernel_rfl
@[simp] theorem Tryz.fo_56_2 : fieldOff Tryz.prog 56 2 = some 2 := by kernel_rfl
@[simp] theorem Tryz.ez_57 : esz Tryz.prog 57 = some (1, 8) := by kernel_rfl
@[simp] theorem Tryz.sz_57 : szOf Tryz.prog 57 = some 1 := by kernel_rfl
@[simp] theorem Tryz.tk_57 : tyk Tryz.prog 57 = some (false, 1) := by kernel_rfl
@[simp] theorem Tryz.zd_57 : zeroD Tryz.prog 57 = some (.raw .nilFunc) := by kernel_rfl
@[simp] theorem Tryz.u_58 : Program.underlying Tryz.prog 58 = some (.pointer 61) := by kernel_rfl
@[simp] theorem Tryz.ez_58 : esz Tryz.prog 58 = some (1, 8) := by kernel_rfl
@[simp] theorem Tryz.sz_58 : szOf Tryz.prog 58 = some 1 := by kernel_rfl
@[simp] theorem Tryz.tk_58 : tyk Tryz.prog 58 = some (false, 1) := by kernel_rfl
@[simp] theorem Tryz.zd_58 : zeroD Tryz.prog 58 = some (.nilp) := by kernel_rfl
@[simp] theorem Tryz.u_59 : Program.underlying Tryz.prog 59 = some (.slice 5) := by kernel_rfl
@[simp] theorem Tryz.se_59 : sliceE Tryz.prog 59 = some 5 := by kernel_rfl
@[simp] theorem Tryz.ez_59 : esz Tryz.prog 59 = some (1, 24) := by kernel_rfl
@[simp] theorem Tryz.sz_59 : szOf Tryz.prog 59 = some 1 := by kernel_rfl
@[simp] theorem Tryz.tk_59 : tyk Tryz.prog 59 = some (false, 1) := by kernel_rfl
@[simp] theorem Tryz.zd_59 : zeroD Tryz.prog 59 = some (.sl []) := by kernel_rfl
@[simp] theorem Tryz.ez_60 : esz Tryz.prog 60 = some (2, 32) := by kernel_rfl
@[simp] theorem Tryz.sz_60 : szOf Tryz.prog 60 = some 2 := by kernel_rfl
@[simp] theorem Tryz.tk_60 : tyk Tryz.prog 60 = some (true, 2) := by kernel_rfl
@[simp] theorem Tryz.zd_60 : zeroD Tryz.prog 60 = some (.agg [.nilp, .sl []]) := by kernel_rfl
@[simp] theorem Tryz.sd_60 : structD Tryz.prog 60 = some [.nilp, .sl []] := by kernel_rfl
@[simp] theorem Tryz.fo_60_0 : fieldOff Tryz.prog 60 0 = some 0 := by kernel_rfl
@[simp] theorem Tryz.fo_60_1 : fieldOff Tryz.prog 60 1 = some 1 := by kernel_rfl
@[simp] theorem Tryz.ez_61 : esz Tryz.prog 61 = some (2, 32) := by kernel_rfl
@[simp] theorem Tryz.sz_61 : szOf Tryz.prog 61 = some 2 := by kernel_rfl
@[simp] theorem Tryz.tk_61 : tyk Tryz.prog 61 = some (true, 2) := by kernel_rfl
@[simp] theorem Tryz.zd_61 : zeroD Tryz.prog 61 = some (.agg [.nilp, .sl []]) := by kernel_rfl
@[simp] theorem Tryz.sd_61 : structD Tryz.prog 61 = some [.nilp, .sl []] := by kernel_rfl
@[simp] theorem Tryz.fo_61_0 : fieldOff Tryz.prog 61 0 = some 0 := by kernel_rfl
@[simp] theorem Tryz.fo_61_1 : fieldOff Tryz.prog 61 1 = some 1 := by kernel_rfl
@[simp] theorem Tryz.ez_65 : esz Tryz.prog 65 = some (1, 8) := by kernel_rfl
@[simp] theorem Tryz.sz_65 : szOf Tryz.prog 65 = some 1 := by kernel_rfl
@[simp] theorem Tryz.tk_65 : tyk Tryz.prog 65 = some (false, 1) := by kernel_rfl
@[simp] theorem Tryz.zd_65 : zeroD Tryz.prog 65 = some (.raw .nilFunc) := by kernel_rfl
@[simp] theorem Tryz.ez_66 : esz Tryz.prog 66 = some (1, 8) := by kernel_rfl
@[simp] theorem Tryz.sz_66 : szOf Tryz.prog 66 = some 1 := by kernel_rfl
@[simp] theorem Tryz.tk_66 : tyk Tryz.prog 66 = some (false, 1) := by kernel_rfl
@[simp] theorem Tryz.zd_66 : zeroD Tryz.prog 66 = some (.raw .nilFunc) := by kernel_rfl
@[simp] theorem Tryz.ez_67 : esz Tryz.prog 67 = some (1, 8) := by kernel_rfl
@[simp] theorem Tryz.sz_67 : szOf Tryz.prog 67 = some 1 := by kernel_rfl
@[simp] theorem Tryz.tk_67 : tyk Tryz.prog 67 = some (false, 1) := by kernel_rfl
@[simp] theorem Tryz.zd_67 : zeroD Tryz.prog 67 = some (.raw .nilFunc) := by kernel_rfl
@[simp] theorem Tryz.ez_69 : esz Tryz.prog 69 = some (1, 8) := by kernel_rfl
@[simp] theorem Tryz.sz_69 : szOf Tryz.prog 69 = some 1 := by kernel_rfl
@[simp] theorem Tryz.tk_69 : tyk Tryz.prog 69 = some (false, 1) := by kernel_rfl
@[simp] theorem Tryz.zd_69 : zeroD Tryz.prog 69 = some (.raw .nilFunc) := by kernel_rfl
@[simp] theorem Tryz.ez_71 : esz Tryz.prog 71 = some (1, 8) := by kernel_rfl
@[simp] theorem Tryz.sz_71 : szOf Tryz.prog 71 = some 1 := by kernel_rfl
@[simp] theorem Tryz.tk_71 : tyk Tryz.prog 71 = some (false, 1) := by kernel_rfl
@[simp] theorem Tryz.zd_71 : zeroD Tryz.prog 71 = some (.raw .nilFunc) := by kernel_rfl
@[simp] theorem Tryz.ez_73 : esz Tryz.prog 73 = some (1, 8) := by kernel_rfl
@[simp] theorem Tryz.sz_73 : szOf Tryz.prog 73 = some 1 := by kernel_rfl
@[simp] theorem Tryz.tk_73 : tyk Tryz.prog 73 = some (false, 1) := by kernel_rfl
@[simp] theorem Tryz.zd_73 : zeroD Tryz.prog 73 = some (.raw .nilFunc) := by kernel_rfl
@[simp] theorem Tryz.ez_74 : esz Tryz.prog 74 = some (1, 8) := by kernel_rfl
@[simp] theorem Tryz.sz_74 : szOf Tryz.prog 74 = some 1 := by kernel_rfl
@[simp] theorem Tryz.tk_74 : tyk Tryz.prog 74 = some (false, 1) := by kernel_rfl
@[simp] theorem Tryz.zd_74 : zeroD Tryz.prog 74 = some (.raw .nilFunc) := by kernel_rfl
@[simp] theorem Tryz.ez_75 : esz Tryz.prog 75 = some (3, 32) := by kernel_rfl
@[simp] theorem Tryz.sz_75 : szOf Tryz.prog 75 = some 3 := by kernel_rfl
@[simp] theorem Tryz.tk_75 : tyk Tryz.prog 75 = some (true, 3) := by kernel_rfl
@[simp] theorem Tryz.zd_75 : zeroD Tryz.prog 75 = some (.agg [.str [], .bool false, .raw .nilFunc]) := by kernel_rfl
@[simp] theorem Tryz.sd_75 : structD Tryz.prog 75 = some [.str [], .bool false, .raw .nilFunc] := by kernel_rfl
@[simp] theorem Tryz.fo_75_0 : fieldOff Tryz.prog 75 0 = some 0 := by kernel_rfl
@[simp] theorem Tryz.fo_75_1 : fieldOff Tryz.prog 75 1 = some 1 := by kernel_rfl
@[simp] theorem Tryz.fo_75_2 : fieldOff Tryz.prog 75 2 = some 2 := by kernel_rfl
@[simp] theorem Tryz.ez_76 : esz Tryz.prog 76 = some (3, 32) := by kernel_rfl
@[simp] theorem Tryz.sz_76 : szOf Tryz.prog 76 = some 3 := by kernel_rfl
@[simp] theorem Tryz.tk_76 : tyk Tryz.prog 76 = some (true, 3) := by kernel_rfl
@[simp] theorem Tryz.zd_76 : zeroD Tryz.prog 76 = some (.agg [.str [], .bool false, .raw .nilFunc]) := by kernel_rfl
@[simp] theorem Tryz.sd_76 : structD Tryz.prog 76 = some [.str [], .bool false, .raw .nilFunc] := by kernel_rfl
@[simp] theorem Tryz.fo_76_0 : fieldOff Tryz.prog 76 0 = some 0 := by kernel_rfl
@[simp] theorem Tryz.fo_76_1 : fieldOff Tryz.prog 76 1 = some 1 := by kernel_rfl
@[simp] theorem Tryz.fo_76_2 : fieldOff Tryz.prog 76 2 = some 2 := by kernel_rfl
@[simp] theorem Tryz.ez_78 : esz Tryz.prog 78 = some (1, 8) := by kernel_rfl
@[simp] theorem Tryz.sz_78 : szOf Tryz.prog 78 = some 1 := by kernel_rfl
@[simp] theorem Tryz.tk_78 : tyk Tryz.prog 78 = some (false, 1) := by kernel_rfl
@[simp] theorem Tryz.zd_78 : zeroD Tryz.prog 78 = some (.raw .nilFunc) := by kernel_rfl
@[simp] theorem Tryz.ez_79 : esz Tryz.prog 79 = some (1, 8) := by kernel_rfl
@[simp] theorem Tryz.sz_79 : szOf Tryz.prog 79 = some 1 := by kernel_rfl
@[simp] theorem Tryz.tk_79 : tyk Tryz.prog 79 = some (false, 1) := by kernel_rfl
@[simp] theorem Tryz.zd_79 : zeroD Tryz.prog 79 = some (.raw .nilFunc) := by kernel_rfl
@[simp] theorem Tryz.ez_80 : esz Tryz.prog 80 = some (1, 8) := by kernel_rfl
@[simp] theorem Tryz.sz_80 : szOf Tryz.prog 80 = some 1 := by kernel_rfl
@[simp] theorem Tryz.tk_80 : tyk Tryz.prog 80 = some (false, 1) := by kernel_rfl
@[simp] theorem Tryz.zd_80 : zeroD Tryz.prog 80 = some (.raw .nilFunc) := by kernel_rfl
@[simp] theorem Tryz.ez_81 : esz Tryz.prog 81 = some (1, 8) := by kernel_rfl
@[simp] theorem Tryz.sz_81 : szOf Tryz.prog 81 = some 1 := by kernel_rfl
@[simp] theorem Tryz.tk_81 : tyk Tryz.prog 81 = some (false, 1) := by kernel_rfl
@[simp] theorem Tryz.zd_81 : zeroD Tryz.prog 81 = some (.raw .nilFunc) := by kernel_rfl
@[simp] theorem Tryz.ez_82 : esz Tryz.prog 82 = some (1, 8) := by kernel_rfl
@[simp] theorem Tryz.sz_82 : szOf Tryz.prog 82 = some 1 := by kernel_rfl
@[simp] theorem Tryz.tk_82 : tyk Tryz.prog 82 = some (false, 1) := by kernel_rfl
@[simp] theorem Tryz.zd_82 : zeroD Tryz.prog 82 = some (.raw .nilFunc) := by kernel_rfl
@[simp] theorem Tryz.ez_83 : esz Tryz.prog 83 = some (1, 8) := by kernel_rfl
@[simp] theorem Tryz.sz_83 : szOf Tryz.prog 83 = some 1 := by kernel_rfl
@[simp] theorem Tryz.tk_83 : tyk Tryz.prog 83 = some (false, 1) := by kernel_rfl
@[simp] theorem Tryz.zd_83 : zeroD Tryz.prog 83 = some (.raw .nilFunc) := by kernel_rfl
@[simp] theorem Tryz.ez_84 : esz Tryz.prog 84 = some (1, 8) := by kernel_rfl
@[simp] theorem Tryz.sz_84 : szOf Tryz.prog 84 = some 1 := by kernel_rfl
@[simp] theorem Tryz.tk_84 : tyk Tryz.prog 84 = some (false, 1) := by kernel_rfl
@[simp] theorem Tryz.zd_84 : zeroD Tryz.prog 84 = some (.raw .nilFunc) := by kernel_rfl
@[simp] theorem Tryz.ez_85 : esz Tryz.prog 85 = some (1, 8) := by kernel_rfl
@[simp] theorem Tryz.sz_85 : szOf Tryz.prog 85 = some 1 := by kernel_rfl
@[simp] theorem Tryz.tk_85 : tyk Tryz.prog 85 = some (false, 1) := by kernel_rfl
@[simp] theorem Tryz.zd_85 : zeroD Tryz.prog 85 = some (.raw .nilFunc) := by kernel_rfl
@[simp] theorem Tryz.ez_86 : esz Tryz.prog 86 = some (1, 8) := by kernel_rfl
@[simp] theorem Tryz.sz_86 : szOf Tryz.prog 86 = some 1 := by kernel_rfl
@[simp] theorem Tryz.tk_86 : tyk Tryz.prog 86 = some (false, 1) := by kernel_rfl
@[simp] theorem Tryz.zd_86 : zeroD Tryz.prog 86 = some (.raw .nilFunc) := by kernel_rfl
@[simp] theorem Tryz.ez_87 : esz Tryz.prog 87 = some (1, 8) := by kernel_rfl
@[simp] theorem Tryz.sz_87 : szOf Tryz.prog 87 = some 1 := by kernel_rfl
@[simp] theorem Tryz.tk_87 : tyk Tryz.prog 87 = some (false, 1) := by kernel_rfl
@[simp] theorem Tryz.zd_87 : zeroD Tryz.prog 87 = some (.raw .nilFunc) := by kernel_rfl
@[simp] theorem Tryz.ez_88 : esz Tryz.prog 88 = some (1, 8) := by kernel_rfl
@[simp] theorem Tryz.sz_88 : szOf Tryz.prog 88 = some 1 := by kernel_rfl
@[simp] theorem Tryz.tk_88 : tyk Tryz.prog 88 = some (false, 1) := by kernel_rfl
@[simp] theorem Tryz.zd_88 : zeroD Tryz.prog 88 = some (.raw .nilFunc) := by kernel_rfl
@[simp] theorem Tryz.ez_89 : esz Tryz.prog 89 = some (1, 8) := by kernel_rfl
@[simp] theorem Tryz.sz_89 : szOf Tryz.prog 89 = some 1 := by kernel_rfl
@[simp] theorem Tryz.tk_89 : tyk Tryz.prog 89 = some (false, 1) := by kernel_rfl
@[simp] theorem Tryz.zd_89 : zeroD Tryz.prog 89 = some (.raw .nilFunc) := by kernel_rfl
@[simp] theorem Tryz.ez_90 : esz Tryz.prog 90 = some (1, 8) := by kernel_rfl
@[simp] theorem Tryz.sz_90 : szOf Tryz.prog 90 = some 1 := by kernel_rfl
@[simp] theorem Tryz.tk_90 : tyk Tryz.prog 90 = some (false, 1) := by kernel_rfl
@[simp] theorem Tryz.zd_90 : zeroD Tryz.prog 90 = some (.raw .nilFunc) := by kernel_rfl
@[simp] theorem Tryz.ez_91 : esz Tryz.prog 91 = some (1, 8) := by kernel_rfl
@[simp] theorem Tryz.sz_91 : szOf Tryz.prog 91 = some 1 := by kernel_rfl
@[simp] theorem Tryz.tk_91 : tyk Tryz.prog 91 = some (false, 1) := by kernel_rfl
@[simp] theorem Tryz.zd_91 : zeroD Tryz.prog 91 = some (.raw .nilFunc) := by kernel_rfl
@[simp] theorem Tryz.ez_92 : esz Tryz.prog 92 = some (1, 8) := by kernel_rfl
@[simp] theorem Tryz.sz_92 : szOf Tryz.prog 92 = some 1 := by kernel_rfl
@[simp] theorem Tryz.tk_92 : tyk Tryz.prog 92 = some (false, 1) := by kernel_rfl
@[simp] theorem Tryz.zd_92 : zeroD Tryz.prog 92 = some (.raw .nilFunc) := by kernel_rfl
@[simp] theorem Tryz.u_93 : Program.underlying Tryz.prog 93 = some (.int .u64) := by kernel_rfl
@[simp] theorem Tryz.se_93 : sliceE Tryz.prog 93 = none := by kernel_rfl
@[simp] theorem Tryz.ez_93 : esz Tryz.prog 93 = some (1, 8) := by kernel_rfl
@[simp] theorem Tryz.sz_93 : szOf Tryz.prog 93 = some 1 := by kernel_rfl
@[simp] theorem Tryz.tk_93 : tyk Tryz.prog 93 = some (false, 1) := by kernel_rfl
@[simp] theorem Tryz.zd_93 : zeroD Tryz.prog 93 = some (.int .u64 0) := by kernel_rfl
@[simp] theorem Tryz.u_94 : Program.underlying Tryz.prog 94 = some (.pointer 5) := by kernel_rfl
@[simp] theorem Tryz.ez_94 : esz Tryz.prog 94 = some (1, 8) := by kernel_rfl
@[simp] theorem Tryz.sz_94 : szOf Tryz.prog 94 = some 1 := by kernel_rfl
@[simp] theorem Tryz.tk_94 : tyk Tryz.prog 94 = some (false, 1) := by kernel_rfl
@[simp] theorem Tryz.zd_94 : zeroD Tryz.prog 94 = some (.nilp) := by kernel_rfl
@[simp] theorem Tryz.ez_95 : esz Tryz.prog 95 = some (1, 8) := by kernel_rfl
@[simp] theorem Tryz.sz_95 : szOf Tryz.prog 95 = some 1 := by kernel_rfl
@[simp] theorem Tryz.tk_95 : tyk Tryz.prog 95 = some (false, 1) := by kernel_rfl
@[simp] theorem Tryz.zd_95 : zeroD Tryz.prog 95 = some (.raw .nilFunc) := by kernel_rfl
@[simp] theorem Tryz.u_96 : Program.underlying Tryz.prog 96 = some (.array 3 9) := by kernel_rfl
@[simp] theorem Tryz.ez_96 : esz Tryz.prog 96 = some (3, 48) := by kernel_rfl
@[simp] theorem Tryz.sz_96 : szOf Tryz.prog 96 = some 3 := by kernel_rfl
@[simp] theorem Tryz.tk_96 : tyk Tryz.prog 96 = some (true, 3) := by kernel_rfl
@[simp] theorem Tryz.zd_96 : zeroD Tryz.prog 96 = some (.agg [.str [], .str [], .str []]) := by kernel_rfl
@[simp] theorem Tryz.ez_97 : esz Tryz.prog 97 = some (1, 8) := by kernel_rfl
@[simp] theorem Tryz.sz_97 : szOf Tryz.prog 97 = some 1 := by kernel_rfl
@[simp] theorem Tryz.tk_97 : tyk Tryz.prog 97 = some (false, 1) := by kernel_rfl
@[simp] theorem Tryz.zd_97 : zeroD Tryz.prog 97 = some (.raw .nilFunc) := by kernel_rfl
@[simp] theorem Tryz.u_98 : Program.underlying Tryz.prog 98 = some (.slice 76) := by kernel_rfl
@[simp] theorem Tryz.se_98 : sliceE Tryz.prog 98 = some 76 := by kernel_rfl
@[simp] theorem Tryz.ez_98 : esz Tryz.prog 98 = some (1, 24) := by kernel_rfl
@[simp] theorem Tryz.sz_98 : szOf Tryz.prog 98 = some 1 := by kernel_rfl
@[simp] theorem Tryz.tk_98 : tyk Tryz.prog 98 = some (false, 1) := by kernel_rfl
@[simp] theorem Tryz.zd_98 : zeroD Tryz.prog 98 = some (.sl []) := by kernel_rfl
@[simp] theorem Tryz.ez_99 : esz Tryz.prog 99 = some (1, 8) := by kernel_rfl
@[simp] theorem Tryz.sz_99 : szOf Tryz.prog 99 = some 1 := by kernel_rfl
@[simp] theorem Tryz.tk_99 : tyk Tryz.prog 99 = some (false, 1) := by kernel_rfl
@[simp] theorem Tryz.zd_99 : zeroD Tryz.prog 99 = some (.raw .nilFunc) := by kernel_rfl
@[simp] theorem Tryz.ez_100 : esz Tryz.prog 100 = some (1, 8) := by kernel_rfl
@[simp] theorem Tryz.sz_100 : szOf Tryz.prog 100 = some 1 := by kernel_rfl
@[simp] theorem Tryz.tk_100 : tyk Tryz.prog 100 = some (false, 1) := by kernel_rfl
@[simp] theorem Tryz.zd_100 : zeroD Tryz.prog 100 = some (.raw .nilFunc) := by kernel_rfl
@[simp] theorem Tryz.ez_101 : esz Tryz.prog 101 = some (1, 8) := by kernel_rfl
@[simp] theorem Tryz.sz_101 : szOf Tryz.prog 101 = some 1 := by kernel_rfl
@[simp] theorem Tryz.tk_101 : tyk Tryz.prog 101 = some (false, 1) := by kernel_rfl
@[simp] theorem Tryz.zd_101 : zeroD Tryz.prog 101 = some (.raw .nilFunc) := by kernel_rfl
@[simp] theorem Tryz.ez_102 : esz Tryz.prog 102 = some (1, 8) := by kernel_rfl
@[simp] theorem Tryz.sz_102 : szOf Tryz.prog 102 = some 1 := by kernel_rfl
@[simp] theorem Tryz.tk_102 : tyk Tryz.prog 102 = some (false, 1) := by kernel_rfl
@[simp] theorem Tryz.zd_102 : zeroD Tryz.prog 102 = some (.raw .nilFunc) := by kernel_rfl
@[simp] theorem Tryz.ez_103 : esz Tryz.prog 103 = some (1, 8) := by kernel_rfl
@[simp] theorem Tryz.sz_103 : szOf Tryz.prog 103 = some 1 := by kernel_rfl
@[simp] theorem Tryz.tk_103 : tyk Tryz.prog 103 = some (false, 1) := by kernel_rfl
@[simp] theorem Tryz.zd_103 : zeroD Tryz.prog 103 = some (.raw .nilFunc) := by kernel_rfl
@[simp] theorem Tryz.ez_104 : esz Tryz.prog 104 = some (1, 8) := by kernel_rfl
@[simp] theorem Tryz.sz_104 : szOf Tryz.prog 104 = some 1 := by kernel_rfl
@[simp] theorem Tryz.tk_104 : tyk Tryz.prog 104 = some (false, 1) := by kernel_rfl
@[simp] theorem Tryz.zd_104 : zeroD Tryz.prog 104 = some (.raw .nilFunc) := by kernel_rfl
@[simp] theorem Tryz.ez_105 : esz Tryz.prog 105 = some (1, 8) := by kernel_rfl
@[simp] theorem Tryz.sz_105 : szOf Tryz.prog 105 = some 1 := by kernel_rfl
@[simp] theorem Tryz.tk_105 : tyk Tryz.prog 105 = some (false, 1) := by kernel_rfl
@[simp] theorem Tryz.zd_105 : zeroD Tryz.prog 105 = some (.raw .nilFunc) := by kernel_rfl
@[simp] theorem Tryz.ez_107 : esz Tryz.prog 107 = some (1, 8) := by kernel_rfl
@[simp] theorem Tryz.sz_107 : szOf Tryz.prog 107 = some 1 := by kernel_rfl
@[simp] theorem Tryz.tk_107 : tyk Tryz.prog 107 = some (false, 1) := by kernel_rfl
@[simp] theorem Tryz.zd_107 : zeroD Tryz.prog 107 = some (.raw .nilFunc) := by kernel_rfl
@[simp] theorem Tryz.ez_108 : esz Tryz.prog 108 = some (1, 8) := by kernel_rfl
@[simp] theorem Tryz.sz_108 : szOf Tryz.prog 108 = some 1 := by kernel_rfl
@[simp] theorem Tryz.tk_108 : tyk Tryz.prog 108 = some (false, 1) := by kernel_rfl
@[simp] theorem Tryz.zd_108 : zeroD Tryz.prog 108 = some (.raw .nilFunc) := by kernel_rfl
@[simp] theorem Tryz.ez_109 : esz Tryz.prog 109 = some (1, 8) := by kernel_rfl
@[simp] theorem Tryz.sz_109 : szOf Tryz.prog 109 = some 1 := by kernel_rfl
@[simp] theorem Tryz.tk_109 : tyk Tryz.prog 109 = some (false, 1) := by kernel_rfl
@[simp] theorem Tryz.zd_109 : zeroD Tryz.prog 109 = some (.raw .nilFunc) := by kernel_rfl
@[simp] theorem Tryz.ez_110 : esz Tryz.prog 110 = some (1, 8) := by kernel_rfl
@[simp] theorem Tryz.sz_110 : szOf Tryz.prog 110 = some 1 := by kernel_rfl
@[simp] theorem Tryz.tk_110 : tyk Tryz.prog 110 = some (false, 1) := by kernel_rfl
@[simp] theorem Tryz.zd_110 : zeroD Tryz.prog 110 = some (.raw .nilFunc) := by kernel_rfl
@[simp] theorem Tryz.ez_111 : esz Tryz.prog 111 = some (1, 8) := by kernel_rfl
@[simp] theorem Tryz.sz_111 : szOf Tryz.prog 111 = some 1 := by kernel_rfl
@[simp] theorem Tryz.tk_111 : tyk Tryz.prog 111 = some (false, 1) := by kernel_rfl
@[simp] theorem Tryz.zd_111 : zeroD Tryz.prog 111 = some (.raw .nilFunc) := by kernel_rfl
@[simp] theorem Tryz.ez_112 : esz Tryz.prog 112 = some (1, 8) := by kernel_rfl
@[simp] theorem Tryz.sz_112 : szOf Tryz.prog 112 = some 1 := by kernel_rfl
@[simp] theorem Tryz.tk_112 : tyk Tryz.prog 112 = some (false, 1) := by kernel_rfl
@[simp] theorem Tryz.zd_112 : zeroD Tryz.prog 112 = some (.raw .nilFunc) := by kernel_rfl
@[simp] theorem Tryz.ez_113 : esz Tryz.prog 113 = some (1, 8) := by kernel_rfl
@[simp] theorem Tryz.sz_113 : szOf Tryz.prog 113 = some 1 := by kernel_rfl
@[simp] theorem Tryz.tk_113 : tyk Tryz.prog 113 = some (false, 1) := by kernel_rfl
@[simp] theorem Tryz.zd_113 : zeroD Tryz.prog 113 = some (.raw .nilFunc) := by kernel_rfl
@[simp] theorem Tryz.ez_114 : esz Tryz.prog 114 = some (1, 8) := by kernel_rfl
@[simp] theorem Tryz.sz_114 : szOf Tryz.prog 114 = some 1 := by kernel_rfl
@[simp] theorem Tryz.tk_114 : tyk Tryz.prog 114 = some (false, 1) := by kernel_rfl
@[simp] theorem Tryz.zd_114 : zeroD Tryz.prog 114 = some (.raw .nilFunc) := by kernel_rfl
@[simp] theorem Tryz.ez_117 : esz Tryz.prog 117 = some (1, 8) := by kernel_rfl
@[simp] theorem Tryz.sz_117 : szOf Tryz.prog 117 = some 1 := by kernel_rfl
@[simp] theorem Tryz.tk_117 : tyk Tryz.prog 117 = some (false, 1) := by kernel_rfl
@[simp] theorem Tryz.zd_117 : zeroD Tryz.prog 117 = some (.raw .nilFunc) := by kernel_rfl
@[simp] theorem Tryz.ez_118 : esz Tryz.prog 118 = some (1, 8) := by kernel_rfl
@[simp] theorem Tryz.sz_118 : szOf Tryz.prog 118 = some 1 := by kernel_rfl
@[simp] theorem Tryz.tk_118 : tyk Tryz.prog 118 = some (false, 1) := by kernel_rfl
@[simp] theorem Tryz.zd_118 : zeroD Tryz.prog 118 = some (.raw .nilFunc) := by kernel_rfl
@[simp] theorem Tryz.ez_119 : esz Tryz.prog 119 = some (1, 8) := by kernel_rfl
@[simp] theorem Tryz.sz_119 : szOf Tryz.prog 119 = some 1 := by kernel_rfl
@[simp] theorem Tryz.tk_119 : tyk Tryz.prog 119 = some (false, 1) := by kernel_rfl
@[simp] theorem Tryz.zd_119 : zeroD Tryz.prog 119 = some (.raw .nilFunc) := by kernel_rfl
@[simp] theorem Tryz.ez_121 : esz Tryz.prog 121 = some (1, 8) := by kernel_rfl
@[simp] theorem Tryz.sz_121 : szOf Tryz.prog 121 = some 1 := by kernel_rfl
@[simp] theorem Tryz.tk_121 : tyk Tryz.prog 121 = some (false, 1) := by kernel_rfl
@[simp] theorem Tryz.zd_121 : zeroD Tryz.prog 121 = some (.raw .nilFunc) := by kernel_rfl
@[simp] theorem Tryz.ez_122 : esz Tryz.prog 122 = some (1, 8) := by kernel_rfl
@[simp] theorem Tryz.sz_122 : szOf Tryz.prog 122 = some 1 := by kernel_rfl
@[simp] theorem Tryz.tk_122 : tyk Tryz.prog 122 = some (false, 1) := by kernel_rfl
@[simp] theorem Tryz.zd_122 : zeroD Tryz.prog 122 = some (.raw .nilFunc) := by kernel_rfl
@[simp] theorem Tryz.u_123 : Program.underlying Tryz.prog 123 = some (.int .u32) := by kernel_rfl
@[simp] theorem Tryz.se_123 : sliceE Tryz.prog 123 = none := by kernel_rfl
@[simp] theorem Tryz.ez_123 : esz Tryz.prog 123 = some (1, 4) := by kernel_rfl
@[simp] theorem Tryz.sz_123 : szOf Tryz.prog 123 = some 1 := by kernel_rfl
@[simp] theorem Tryz.tk_123 : tyk Tryz.prog 123 = some (false, 1) := by kernel_rfl
@[simp] theorem Tryz.zd_123 : zeroD Tryz.prog 123 = some (.int .u32 0) := by kernel_rfl
@[simp] theorem Tryz.ez_124 : esz Tryz.prog 124 = some (1, 8) := by kernel_rfl
@[simp] theorem Tryz.sz_124 : szOf Tryz.prog 124 = some 1 := by kernel_rfl
@[simp] theorem Tryz.tk_124 : tyk Tryz.prog 124 = some (false, 1) := by kernel_rfl
@[simp] theorem Tryz.zd_124 : zeroD Tryz.prog 124 = some (.raw .nilFunc) := by kernel_rfl
@[simp] theorem Tryz.u_125 : Program.underlying Tryz.prog 125 = some (.int .u64) := by kernel_rfl
@[simp] theorem Tryz.se_125 : sliceE Tryz.prog 125 = none := by kernel_rfl
@[simp] theorem Tryz.ez_125 : esz Tryz.prog 125 = some (1, 8) := by kernel_rfl
@[simp] theorem Tryz.sz_125 : szOf Tryz.prog 125 = some 1 := by kernel_rfl
@[simp] theorem Tryz.tk_125 : tyk Tryz.prog 125 = some (false, 1) := by kernel_rfl
@[simp] theorem Tryz.zd_125 : zeroD Tryz.prog 125 = some (.int .u64 0) := by kernel_rfl
@[simp] theorem Tryz.ez_126 : esz Tryz.prog 126 = some (1, 8) := by kernel_rfl
@[simp] theorem Tryz.sz_126 : szOf Tryz.prog 126 = some 1 := by kernel_rfl
@[simp] theorem Tryz.tk_126 : tyk Tryz.prog 126 = some (false, 1) := by kernel_rfl
@[simp] theorem Tryz.zd_126 : zeroD Tryz.prog 126 = some (.raw .nilFunc) := by kernel_rfl
@[simp] theorem Tryz.ez_127 : esz Tryz.prog 127 = some (1, 8) := by kernel_rfl
@[simp] theorem Tryz.sz_127 : szOf Tryz.prog 127 = some 1 := by kernel_rfl
@[simp] theorem Tryz.tk_127 : tyk Tryz.prog 127 = some (false, 1) := by kernel_rfl
@[simp] theorem Tryz.zd_127 : zeroD Tryz.prog 127 = some (.raw .nilFunc) := by kernel_rfl
@[simp] theorem Tryz.ez_128 : esz Tryz.prog 128 = some (1, 8) := by kernel_rfl
@[simp] theorem Tryz.sz_128 : szOf Tryz.prog 128 = some 1 := by kernel_rfl
@[simp] theorem Tryz.tk_128 : tyk Tryz.prog 128 = some (false, 1) := by kernel_rfl
@[simp] theorem Tryz.zd_128 : zeroD Tryz.prog 128 = some (.raw .nilFunc) := by kernel_rfl
@[simp] theorem Tryz.ez_129 : esz Tryz.prog 129 = some (1, 8) := by kernel_rfl
@[simp] theorem Tryz.sz_129 : szOf Tryz.prog 129 = some 1 := by kernel_rfl
@[simp] theorem Tryz.tk_129 : tyk Tryz.prog 129 = some (false, 1) := by kernel_rfl
@[simp] theorem Tryz.zd_129 : zeroD Tryz.prog 129 = some (.raw .nilFunc) := by kernel_rfl
@[simp] theorem Tryz.ez_130 : esz Tryz.prog 130 = some (1, 8) := by kernel_rfl
@[simp] theorem Tryz.sz_130 : szOf Tryz.prog 130 = some 1 := by kernel_rfl
@[simp] theorem Tryz.tk_130 : tyk Tryz.prog 130 = some (false, 1) := by kernel_rfl
@[simp] theorem Tryz.zd_130 : zeroD Tryz.prog 130 = some (.raw .nilFunc) := by kernel_rfl
@[simp] theorem Tryz.ez_131 : esz Tryz.prog 131 = some (1, 8) := by kernel_rfl
@[simp] theorem Tryz.sz_131 : szOf Tryz.prog 131 = some 1 := by kernel_rfl
@[simp] theorem Tryz.tk_131 : tyk Tryz.prog 131 = some (false, 1) := by kernel_rfl
@[simp] theorem Tryz.zd_131 : zeroD Tryz.prog 131 = some (.raw .nilFunc) := by kernel_rfl
@[simp] theorem Tryz.ez_132 : esz Tryz.prog 132 = some (1, 8) := by kernel_rfl
@[simp] theorem Tryz.sz_132 : szOf Tryz.prog 132 = some 1 := by kernel_rfl
@[simp] theorem Tryz.tk_132 : tyk Tryz.prog 132 = some (false, 1) := by kernel_rfl
@[simp] theorem Tryz.zd_132 : zeroD Tryz.prog 132 = some (.raw .nilFunc) := by kernel_rfl
@[simp] theorem Tryz.ez_133 : esz Tryz.prog 133 = some (1, 8) := by kernel_rfl
@[simp] theorem Tryz.sz_133 : szOf Tryz.prog 133 = some 1 := by kernel_rfl
@[simp] theorem Tryz.tk_133 : tyk Tryz.prog 133 = some (false, 1) := by kernel_rfl
@[simp] theorem Tryz.zd_133 : zeroD Tryz.prog 133 = some (.raw .nilFunc) := by kernel_rfl
@[simp] theorem Tryz.ez_134 : esz Tryz.prog 134 = some (1, 8) := by kernel_rfl
@[simp] theorem Tryz.sz_134 : szOf Tryz.prog 134 = some 1 := by kernel_rfl
@[simp] theorem Tryz.tk_134 : tyk Tryz.prog 134 = some (false, 1) := by kernel_rfl
@[simp] theorem Tryz.zd_134 : zeroD Tryz.prog 134 = some (.raw .nilFunc) := by kernel_rfl
@[simp] theorem Tryz.ez_135 : esz Tryz.prog 135 = some (1, 8) := by kernel_rfl
@[simp] theorem Tryz.sz_135 : szOf Tryz.prog 135 = some 1 := by kernel_rfl
@[simp] theorem Tryz.tk_135 : tyk Tryz.prog 135 = some (false, 1) := by kernel_rfl
@[simp] theorem Tryz.zd_135 : zeroD Tryz.prog 135 = some (.raw .nilFunc) := by kernel_rfl
@[simp] theorem Tryz.ez_137 : esz Tryz.prog 137 = some (1, 8) := by kernel_rfl
@[simp] theorem Tryz.sz_137 : szOf Tryz.prog 137 = some 1 := by kernel_rfl
@[simp] theorem Tryz.tk_137 : tyk Tryz.prog 137 = some (false, 1) := by kernel_rfl
@[simp] theorem Tryz.zd_137 : zeroD Tryz.prog 137 = some (.raw .nilFunc) := by kernel_rfl
@[simp] theorem Tryz.ez_138 : esz Tryz.prog 138 = some (1, 8) := by kernel_rfl
@[simp] theorem Tryz.sz_138 : szOf Tryz.prog 138 = some 1 := by kernel_rfl
@[simp] theorem Tryz.tk_138 : tyk Tryz.prog 138 = some (false, 1) := by kernel_rfl
@[simp] theorem Tryz.zd_138 : zeroD Tryz.prog 138 = some (.raw .nilFunc) := by kernel_rfl
@[simp] theorem Tryz.ez_139 : esz Tryz.prog 139 = some (1, 8) := by kernel_rfl
@[simp] theorem Tryz.sz_139 : szOf Tryz.prog 139 = some 1 := by kernel_rfl
@[simp] theorem Tryz.tk_139 : tyk Tryz.prog 139 = some (false, 1) := by kernel_rfl
@[simp] theorem Tryz.zd_139 : zeroD Tryz.prog 139 = some (.raw .nilFunc) := by kernel_rfl
@[simp] theorem Tryz.u_140 : Program.underlying Tryz.prog 140 = some (.pointer 3) := by kernel_rfl
@[simp] theorem Tryz.ez_140 : esz Tryz.prog 140 = some (1, 8) := by kernel_rfl
@[simp] theorem Tryz.sz_140 : szOf Tryz.prog 140 = some 1 := by kernel_rfl
@[simp] theorem Tryz.tk_140 : tyk Tryz.prog 140 = some (false, 1) := by kernel_rfl
@[simp] theorem Tryz.zd_140 : zeroD Tryz.prog 140 = some (.nilp) := by kernel_rfl
@[simp] theorem Tryz.ez_141 : esz Tryz.prog 141 = some (1, 8) := by kernel_rfl
@[simp] theorem Tryz.sz_141 : szOf Tryz.prog 141 = some 1 := by kernel_rfl
@[simp] theorem Tryz.tk_141 : tyk Tryz.prog 141 = some (false, 1) := by kernel_rfl
@[simp] theorem Tryz.zd_141 : zeroD Tryz.prog 141 = some (.raw .nilFunc) := by kernel_rfl
@[simp] theorem Tryz.ez_142 : esz Tryz.prog 142 = some (1, 8) := by kernel_rfl
@[simp] theorem Tryz.sz_142 : szOf Tryz.prog 142 = some 1 := by kernel_rfl
@[simp] theorem Tryz.tk_142 : tyk Tryz.prog 142 = some (false, 1) := by kernel_rfl
@[simp] theorem Tryz.zd_142 : zeroD Tryz.prog 142 = some (.raw .nilFunc) := by kernel_rfl
@[simp] theorem Tryz.u_143 : Program.underlying Tryz.prog 143 = some (.array 256 4) := by kernel_rfl
@[simp] theorem Tryz.ez_143 : esz Tryz.prog 143 = some (256, 256) := by kernel_rfl
@[simp] theorem Tryz.sz_143 : szOf Tryz.prog 143 = some 256 := by kernel_rfl
@[simp] theorem Tryz.tk_143 : tyk Tryz.prog 143 = some (true, 256) := by kernel_rfl
@[simp] theorem Tryz.ez_146 : esz Tryz.prog 146 = some (1, 8) := by kernel_rfl
@[simp] theorem Tryz.sz_146 : szOf Tryz.prog 146 = some 1 := by kernel_rfl
@[simp] theorem Tryz.tk_146 : tyk Tryz.prog 146 = some (false, 1) := by kernel_rfl
@[simp] theorem Tryz.zd_146 : zeroD Tryz.prog 146 = some (.raw .nilFunc) := by kernel_rfl
@[simp] theorem Tryz.ez_147 : esz Tryz.prog 147 = some (1, 8) := by kernel_rfl
@[simp] theorem Tryz.sz_147 : szOf Tryz.prog 147 = some 1 := by kernel_rfl
@[simp] theorem Tryz.tk_147 : tyk Tryz.prog 147 = some (false, 1) := by kernel_rfl
@[simp] theorem Tryz.zd_147 : zeroD Tryz.prog 147 = some (.raw .nilFunc) := by kernel_rfl
@[simp] theorem Tryz.ez_149 : esz Tryz.prog 149 = some (1, 8) := by kernel_rfl
@[simp] theorem Tryz.sz_149 : szOf Tryz.prog 149 = some 1 := by kernel_rfl
@[simp] theorem Tryz.tk_149 : tyk Tryz.prog 149 = some (false, 1) := by kernel_rfl
@[simp] theorem Tryz.zd_149 : zeroD Tryz.prog 149 = some (.raw .nilFunc) := by kernel_rfl
@[simp] theorem Tryz.ez_150 : esz Tryz.prog 150 = some (1, 8) := by kernel_rfl
@[simp] theorem Tryz.sz_150 : szOf Tryz.prog 150 = some 1 := by kernel_rfl
@[simp] theorem Tryz.tk_150 : tyk Tryz.prog 150 = some (false, 1) := by kernel_rfl
@[simp] theorem Tryz.zd_150 : zeroD Tryz.prog 150 = some (.raw .nilFunc) := by kernel_rfl
@[simp] theorem Tryz.ez_152 : esz Tryz.prog 152 = some (1, 8) := by kernel_rfl
@[simp] theorem Tryz.sz_152 : szOf Tryz.prog 152 = some 1 := by kernel_rfl
@[simp] theorem Tryz.tk_152 : tyk Tryz.prog 152 = some (false, 1) := by kernel_rfl
@[simp] theorem Tryz.zd_152 : zeroD Tryz.prog 152 = some (.raw .nilFunc) := by kernel_rfl
@[simp] theorem Tryz.ez_153 : esz Tryz.prog 153 = some (1, 8) := by kernel_rfl
@[simp] theorem Tryz.sz_153 : szOf Tryz.prog 153 = some 1 := by kernel_rfl
@[simp] theorem Tryz.tk_153 : tyk Tryz.prog 153 = some (false, 1) := by kernel_rfl
@[simp] theorem Tryz.zd_153 : zeroD Tryz.prog 153 = some (.raw .nilFunc) := by kernel_rfl
@[simp] theorem Tryz.ez_155 : esz Tryz.prog 155 = some (1, 8) := by kernel_rfl
@[simp] theorem Tryz.sz_155 : szOf Tryz.prog 155 = some 1 := by kernel_rfl
@[simp] theorem Tryz.tk_155 : tyk Tryz.prog 155 = some (false, 1) := by kernel_rfl
@[simp] theorem Tryz.zd_155 : zeroD Tryz.prog 155 = some (.raw .nilFunc) := by kernel_rfl
@[simp] theorem Tryz.ez_158 : esz Tryz.prog 158 = some (1, 8) := by kernel_rfl
@[simp] theorem Tryz.sz_158 : szOf Tryz.prog 158 = some 1 := by kernel_rfl
@[simp] theorem Tryz.tk_158 : tyk Tryz.prog 158 = some (false, 1) := by kernel_rfl
@[simp] theorem Tryz.zd_158 : zeroD Tryz.prog 158 = some (.raw .nilFunc) := by kernel_rfl
@[simp] theorem Tryz.ez_159 : esz Tryz.prog 159 = some (1, 8) := by kernel_rfl
@[simp] theorem Tryz.sz_159 : szOf Tryz.prog 159 = some 1 := by kernel_rfl
@[simp] theorem Tryz.tk_159 : tyk Tryz.prog 159 = some (false, 1) := by kernel_rfl
@[simp] theorem Tryz.zd_159 : zeroD Tryz.prog 159 = some (.raw .nilFunc) := by kernel_rfl
@[simp] theorem Tryz.ez_160 : esz Tryz.prog 160 = some (1, 8) := by kernel_rfl
@[simp] theorem Tryz.sz_160 : szOf Tryz.prog 160 = some 1 := by kernel_rfl
@[simp] theorem Tryz.tk_160 : tyk Tryz.prog 160 = some (false, 1) := by kernel_rfl
@[simp] theorem Tryz.zd_160 : zeroD Tryz.prog 160 = some (.raw .nilFunc) := by kernel_rfl
@[simp] theorem Tryz.ez_161 : esz Tryz.prog 161 = some (1, 8) := by kernel_rfl
@[simp] theorem Tryz.sz_161 : szOf Tryz.prog 161 = some 1 := by kernel_rfl
@[simp] theorem Tryz.tk_161 : tyk Tryz.prog 161 = some (false, 1) := by kernel_rfl
@[simp] theorem Tryz.zd_161 : zeroD Tryz.prog 161 = some (.raw .nilFunc) := by kernel_rfl
@[simp] theorem Tryz.ez_162 : esz Tryz.prog 162 = some (1, 8) := by kernel_rfl
@[simp] theorem Tryz.sz_162 : szOf Tryz.prog 162 = some 1 := by kernel_rfl
@[simp] theorem Tryz.tk_162 : tyk Tryz.prog 162 = some (false, 1) := by kernel_rfl
@[simp] theorem Tryz.zd_162 : zeroD Tryz.prog 162 = some (.raw .nilFunc) := by kernel_rfl
@[simp] theorem Tryz.u_163 : Program.underlying Tryz.prog 163 = some (.array 256 5) := by kernel_rfl
@[simp] theorem Tryz.ez_163 : esz Tryz.prog 163 = some (256, 256) := by kernel_rfl
@[simp] theorem Tryz.sz_163 : szOf Tryz.prog 163 = some 256 := by kernel_rfl
@[simp] theorem Tryz.tk_163 : tyk Tryz.prog 163 = some (true, 256) := by kernel_rfl
@[simp] theorem Tryz.ez_164 : esz Tryz.prog 164 = some (2, 2) := by kernel_rfl
@[simp] theorem Tryz.sz_164 : szOf Tryz.prog 164 = some 2 := by kernel_rfl
@[simp] theorem Tryz.tk_164 : tyk Tryz.prog 164 = some (true, 2) := by kernel_rfl
@[simp] theorem Tryz.zd_164 : zeroD Tryz.prog 164 = some (.agg [.int .u8 0, .int .u8 0]) := by kernel_rfl
@[simp] theorem Tryz.sd_164 : structD Tryz.prog 164 = some [.int .u8 0, .int .u8 0] := by kernel_rfl
@[simp] theorem Tryz.fo_164_0 : fieldOff Tryz.prog 164 0 = some 0 := by kernel_rfl
@[simp] theorem Tryz.fo_164_1 : fieldOff Tryz.prog 164 1 = some 1 := by kernel_rfl
@[simp] theorem Tryz.ez_167 : esz Tryz.prog 167 = some (1, 8) := by kernel_rfl
@[simp] theorem Tryz.sz_167 : szOf Tryz.prog 167 = some 1 := by kernel_rfl
@[simp] theorem Tryz.tk_167 : tyk Tryz.prog 167 = some (false, 1) := by kernel_rfl
@[simp] theorem Tryz.zd_167 : zeroD Tryz.prog 167 = some (.raw .nilFunc) := by kernel_rfl
@[simp] theorem Tryz.ez_175 : esz Tryz.prog 175 = some (1, 8) := by kernel_rfl
@[simp] theorem Tryz.sz_175 : szOf Tryz.prog 175 = some 1 := by kernel_rfl
@[simp] theorem Tryz.tk_175 : tyk Tryz.prog 175 = some (false, 1) := by kernel_rfl
@[simp] theorem Tryz.zd_175 : zeroD Tryz.prog 175 = some (.raw .nilFunc) := by kernel_rfl
@[simp] theorem Tryz.eqs_56 : eqsOk Tryz.prog 56 = true := by kernel_rfl
@[simp] theorem Tryz.lf_56 (a0 b0 : Str) (a1 b1 : Str) (a2 b2 : Str) : leafOk Tryz.prog (Program.fieldsOf Tryz.prog 56).toList 0 [.str a0, .str a1, .str a2] [.str b0, .str b1, .str b2] = true := by kernel_rfl
end Go.Proofs

/- strings.Builder: copyCheck. -/
set_option linter.unusedVariables false
namespace Go.Proofs.Tz
open Go.Vw Go.RowKit Go.Proofs

/-- strings.Builder's size. -/
theorem bld_size : (Tryz.prog.info? 61).map (·.size) = some 2 := by kernel_rfl
theorem bld_lies : liesAt Tryz.prog Tryz.prog.depth 61 (2 / Tryz.prog.cellsOf 61) 0 61 1 = true := by kernel_rfl

set_option maxRecDepth 100000 in
set_option maxHeartbeats 1000000 in
theorem cc_used (b : Nat) (w : World) (h0 : w.cell? ⟨b, 0, none⟩ = some (.pointer (some ⟨b, 0, none⟩))) :
    Calls Tryz.prog 62 #[.pointer (some ⟨b, 0, none⟩)] w fun e w' => e = .returned (.tuple #[]) ∧ w' = w := by
  obtain ⟨j, hj, _⟩ := Option.map_eq_some_iff.1 bld_size
  go_enter Tryz.func62, Tryz.ntmps62
  go_wp2
  rw [Lib.run_neq_ptr_same w _ Tryz.underlying58 hj]
  go_wp2
  go_end0
  exact ⟨rfl, rfl⟩

set_option maxRecDepth 100000 in
set_option maxHeartbeats 1000000 in
theorem cc_fresh (b : Nat) (w : World) (h0 : w.cell? ⟨b, 0, none⟩ = some (.pointer none)) (hsh : w.shape? b = some (61, 2)) (hfz : w.frozen? ⟨b, 0, none⟩ = false) :
    Calls Tryz.prog 62 #[.pointer (some ⟨b, 0, none⟩)] w fun e w' => e = .returned (.tuple #[]) ∧ w' = w.setCell ⟨b, 0, none⟩ (.pointer (some ⟨b, 0, none⟩)) := by
  obtain ⟨j, hj, hjs⟩ := Option.map_eq_some_iff.1 bld_size
  go_enter Tryz.func62, Tryz.ntmps62
  go_wp2
  rw [Lib.run_to_unsafe w ⟨b, 0, none⟩ Tryz.underlying58 Tryz.underlying106 hj (by rw [hjs]; decide) hsh (Nat.zero_lt_succ 1)]
  simp only [Result.andThen]
  rw [Oper.upon_value]
  go_wp2
  rw [run_callFunc_extern Tryz.func87 (by kernel_rfl) (by kernel_rfl) (by kernel_rfl) (e := Extern.AbiNoEscape.same) (by kernel_rfl)]
  rw [Lib.run_noEscape]
  simp only [Result.andThen]
  rw [Oper.upon_value]
  go_wp2
  rw [Lib.run_from_unsafe w ⟨b, 0, none⟩ Tryz.underlying106 Tryz.underlying58 hj hsh bld_lies]
  simp only [Result.andThen]
  rw [Oper.upon_value]
  go_wp2
  go_end0
  exact ⟨rfl, rfl⟩

/-- The address of a variable. -/
abbrev va (b : Nat) : Value := .pointer (some ⟨b, 0, none⟩)

/-- A builder's two cells in memory. -/
theorem bld_cells {w : World} {L : Nat → Nat → Prop} {b : Nat} {p : D} {hd : Value} (hp : p = .nilp ∨ p = .raw (va b))
    (h : BoxT w L (some b) 61 (.agg [p, .raw hd]) (va b)) : ∃ pv, w.heap[b]? = some (.cells #[pv, hd] 61 (0, 0)) ∧ (∀ o, ¬ L b o) ∧ hd.oneCell' = true ∧ vIsAgg hd = false ∧ ((p = .nilp ∧ pv = .pointer none) ∨ (p = .raw (va b) ∧ pv = va b)) := by
  obtain ⟨g, C, h1, h2, h3, h4, h5⟩ := h
  obtain rfl : b = g := by simpa using h1
  simp only [Rep, RepL] at h4
  obtain ⟨css, ⟨c, cs, rfl, hc, c2, cs2, rfl, ⟨rfl, h7, h8⟩, rfl⟩, h6⟩ := h4
  rcases hp with rfl | rfl
  · simp only [Rep] at hc
    subst hc
    have : C = #[.pointer none, hd] := by apply Array.ext'; simpa using h6
    subst this
    exact ⟨_, h3, h5, h7, h8, .inl ⟨rfl, rfl⟩⟩
  · simp only [Rep] at hc
    obtain ⟨rfl, _, _⟩ := hc
    have : C = #[va b, hd] := by apply Array.ext'; simpa using h6
    subst this
    exact ⟨_, h3, h5, h7, h8, .inr ⟨rfl, rfl⟩⟩
theorem bld_laid {w : World} {L : Nat → Nat → Prop} {b : Nat} {hd : Value} (h1 : w.heap[b]? = some (.cells #[va b, hd] 61 (0, 0))) (h2 : ∀ o, ¬ L b o) (h3 : hd.oneCell' = true) (h4 : vIsAgg hd = false) :
    RH Tryz.prog w L (.hb (va b) 61 (.agg [.raw (va b), .raw hd])) := by
  refine ⟨rfl, b, _, rfl, rfl, h1, ?_, h2⟩
  simp only [Rep, RepL]
  exact ⟨[[va b], [hd]], ⟨_, _, rfl, ⟨rfl, rfl, rfl⟩, _, _, rfl, ⟨rfl, h3, h4⟩, rfl⟩, rfl⟩

theorem copyCheck_fn {b : Nat} {p : D} (hp : p = .nilp ∨ p = .raw (va b)) {hd : Value} :
    CtrG Tryz.prog 62 [.d (.raw (va b))] [.hb (va b) 61 (.agg [p, .raw hd])] (fun r hs' => r = .tup [] ∧ hs' = [.hb (va b) 61 (.agg [.raw (va b), .raw hd])]) := by
  refine ⟨enters_of Tryz.func62 (by kernel_rfl) rfl, fun w L vals hlok hv hh _ => ?_⟩
  obtain ⟨v, us, rfl, hv1, hv2⟩ := hv
  obtain rfl : us = [] := hv2
  obtain rfl : v = va b := RepV.raw_inv hv1
  have hb : BoxT w L (some b) 61 (.agg [p, .raw hd]) (va b) := (hh (.hb (va b) 61 (.agg [p, .raw hd])) (by simp)).2
  obtain ⟨pv, e1, e2, e3, e4, e5⟩ := bld_cells hp hb
  have hlt : b < w.heap.size := (Array.getElem?_eq_some_iff.1 e1).1
  rcases e5 with ⟨rfl, rfl⟩ | ⟨rfl, rfl⟩
  · refine (cc_fresh b w (by rw [Lib.cell_of_heap e1]; rfl) (by simp [World.shape?, e1]) (Lib.frozen_of_heap e1 0)).mono ?_
    rintro e w' ⟨rfl, rfl⟩
    have hsz : (w.setCell ⟨b, 0, none⟩ (va b)).heap.size = w.heap.size := by simp [World.setCell]
    refine ⟨_, L, none, .tup [], _, rfl, ⟨rfl, rfl, rfl, Nat.le_of_eq hsz.symm, fun k hk hn => Below.heap_setCell w _ _ k (fun e => hn (by simp [hblk, e]))⟩, fun g q hq => by rw [hsz]; exact hlok g q hq, fun _ _ _ _ => Iff.rfl, fun g hg => ?_, ?_, ⟨[], rfl, rfl⟩, fun x hx => ?_, rfl, rfl⟩
    · simp [hblk] at hg; subst hg; exact ⟨by rw [hsz]; exact hlt, .inr (by simp [hblk])⟩
    · simp [apartB, hblk]
    · simp at hx; subst hx
      refine bld_laid ?_ e2 e3 e4
      simp [World.setCell, Array.getElem?_modify, e1]
  · refine (cc_used b w (by rw [Lib.cell_of_heap e1]; rfl)).mono ?_
    rintro e w' ⟨rfl, rfl⟩
    refine ⟨_, L, none, .tup [], _, rfl, GrownS.refl _ _, hlok, fun _ _ _ _ => Iff.rfl, fun g hg => ?_, ?_, ⟨[], rfl, rfl⟩, fun x hx => ?_, rfl, rfl⟩
    · simp [hblk] at hg; subst hg; exact ⟨hlt, .inr (by simp [hblk])⟩
    · simp [apartB, hblk]
    · simp at hx; subst hx
      exact bld_laid e1 e2 e3 e4
end Go.Proofs.Tz

/- strings.Builder: String. -/
set_option linter.unusedVariables false
namespace Go.Proofs.Tz
open Go.Vw Go.RowKit Go.Proofs

theorem byte_info : (Tryz.prog.info? 5).map (·.size) = some 1 := by kernel_rfl
theorem byte_cells : Tryz.prog.cellsOf 5 = 1 := by kernel_rfl

theorem bytes_cells {w : World} {L : Nat → Nat → Prop} : ∀ {s : Str} {css : List (List Value)}, RepL w L (bytesD s) css → css.flatten = s.map fun c => Value.int .u8 (c.toNat : Int)
  | [], css, h => by simp only [bytesD, List.map_nil, RepL] at h; subst h; rfl
  | c :: s, css, h => by
    simp only [bytesD, List.map_cons, RepL, Rep] at h
    obtain ⟨c1, cs, rfl, rfl, h2⟩ := h
    simp [bytes_cells (s := s) h2]

set_option maxRecDepth 100000 in
set_option maxHeartbeats 1000000 in
theorem bs_row {b g cap : Nat} {p : Value} {l : List UInt8} (w : World) (h0 : l ≠ []) (hbk : w.heap[b]? = some (.cells #[p, .slice (some ⟨g, 0, none⟩) l.length cap] 61 (0, 0))) {cur : Array Value} (hg : w.heap[g]? = some (.cells cur 5 (0, 0)))
    (hnc : l.length ≤ cap) (hcm : cap ≤ maxLen) (hcs : cap ≤ cur.size) (htk : ∀ j x, l[j]? = some x → w.cell? ((⟨g, 0, none⟩ : Addr).add j) = some (.int .u8 x.toNat)) :
    Calls Tryz.prog 34 #[.pointer (some ⟨b, 0, none⟩)] w fun e w' => e = .returned (.string ⟨l.toArray⟩) ∧ w' = w.drew.freeze ⟨g, 0, none⟩ l.length := by
  have hl0 : l.length ≠ 0 := by simpa using h0
  have c1 : w.drew.cell? ⟨b, 1, none⟩ = some (.slice (some ⟨g, 0, none⟩) l.length cap) := by
    have : w.drew.heap[b]? = some (.cells #[p, .slice (some ⟨g, 0, none⟩) l.length cap] 61 (0, 0)) := hbk
    rw [Lib.cell_of_heap this]; rfl
  have hSD : (Builtin.unsafeSliceData_ #[59] 94 #[.slice (some ⟨g, 0, none⟩) l.length cap]).run Tryz.prog w.drew = .ok (.pointer (some ⟨g, 0, none⟩)) w.drew :=
    Lib.run_unsafeSliceData_row _ _ _ _ _ _ (by omega)
  have hUS : (Builtin.unsafeString_ #[94, 3] 9 #[.pointer (some ⟨g, 0, none⟩), .int .i64 l.length]).run Tryz.prog w.drew = .ok (.string ⟨l.toArray⟩) (w.drew.freeze ⟨g, 0, none⟩ l.length) := by
    refine Lib.run_unsafeString_row w.drew 94 3 9 5 Tryz.underlying94 byte_cells g cur.size (by have hg' : w.drew.heap[g]? = some (.cells cur 5 (0, 0)) := hg; simp [World.shape?, hg']) l h0 (by omega) (by unfold maxLen at hcm; omega) ?_
    exact htk
  go_enter Tryz.func34, Tryz.ntmps34
  go_wp2
  go_region
  all_goals (go_wp2; go_ret; exact ⟨rfl, rfl⟩)

theorem bs_none (W : World) (q : Option Addr) : (Builtin.unsafeString_ #[94, 3] 9 #[.pointer q, .int .i64 0]).run Tryz.prog W = .ok (.string .empty) W := Lib.run_unsafeString_none W _ _ _ q

set_option maxRecDepth 100000 in
set_option maxHeartbeats 1000000 in
theorem bs_nil {b : Nat} {p : Value} (w : World) (hbk : w.heap[b]? = some (.cells #[p, .slice none 0 0] 61 (0, 0))) :
    Calls Tryz.prog 34 #[.pointer (some ⟨b, 0, none⟩)] w fun e w' => e = .returned (.string ⟨#[]⟩) ∧ w' = w.drew := by
  have hUS := bs_none
  have c1 : w.drew.cell? ⟨b, 1, none⟩ = some (.slice none 0 0) := by
    have : w.drew.heap[b]? = some (.cells #[p, .slice none 0 0] 61 (0, 0)) := hbk
    rw [Lib.cell_of_heap this]; rfl
  have hSD : (Builtin.unsafeSliceData_ #[59] 94 #[.slice none 0 0]).run Tryz.prog w.drew = .ok (.pointer none) w.drew := rfl
  go_enter Tryz.func34, Tryz.ntmps34
  go_wp2
  go_region
  all_goals (go_wp2; go_ret; exact ⟨rfl, rfl⟩)

set_option maxRecDepth 100000 in
set_option maxHeartbeats 1000000 in
theorem bs_room {b g cap : Nat} {p : Value} (w : World) (hc0 : cap ≠ 0) (hbk : w.heap[b]? = some (.cells #[p, .slice (some ⟨g, 0, none⟩) 0 cap] 61 (0, 0))) :
    Calls Tryz.prog 34 #[.pointer (some ⟨b, 0, none⟩)] w fun e w' => e = .returned (.string ⟨#[]⟩) ∧ w' = w.drew := by
  have hUS := bs_none
  have c1 : w.drew.cell? ⟨b, 1, none⟩ = some (.slice (some ⟨g, 0, none⟩) 0 cap) := by
    have : w.drew.heap[b]? = some (.cells #[p, .slice (some ⟨g, 0, none⟩) 0 cap] 61 (0, 0)) := hbk
    rw [Lib.cell_of_heap this]; rfl
  have hSD : (Builtin.unsafeSliceData_ #[59] 94 #[.slice (some ⟨g, 0, none⟩) 0 cap]).run Tryz.prog w.drew = .ok (.pointer (some ⟨g, 0, none⟩)) w.drew :=
    Lib.run_unsafeSliceData_row _ _ _ _ _ _ hc0
  clear hc0
  go_enter Tryz.func34, Tryz.ntmps34
  go_wp2
  go_region
  all_goals (go_wp2; go_ret; exact ⟨rfl, rfl⟩)

set_option maxRecDepth 100000 in
set_option maxHeartbeats 1000000 in
theorem bs_noroom {b g : Nat} {p : Value} {cur : Array Value} (w : World) (hbk : w.heap[b]? = some (.cells #[p, .slice (some ⟨g, 0, none⟩) 0 0] 61 (0, 0))) (hg : w.heap[g]? = some (.cells cur 5 (0, 0))) :
    Calls Tryz.prog 34 #[.pointer (some ⟨b, 0, none⟩)] w fun e w' => e = .returned (.string ⟨#[]⟩) ∧ (w' = w.drew.alloc (.view ⟨g, 0, none⟩ 5) ∨ w' = (w.alloc (.view ⟨g, 0, none⟩ 5)).drew) := by
  have hUS := bs_none
  have hlt : b < w.heap.size := (Array.getElem?_eq_some_iff.1 hbk).1
  have c1 : w.drew.cell? ⟨b, 1, none⟩ = some (.slice (some ⟨g, 0, none⟩) 0 0) := by
    have : w.drew.heap[b]? = some (.cells #[p, .slice (some ⟨g, 0, none⟩) 0 0] 61 (0, 0)) := hbk
    rw [Lib.cell_of_heap this]; rfl
  have hSD : (Builtin.unsafeSliceData_ #[59] 94 #[.slice (some ⟨g, 0, none⟩) 0 0]).run Tryz.prog w.drew = .ok (.pointer (some ⟨w.drew.heap.size, 0, none⟩)) (w.drew.alloc (.view ⟨g, 0, none⟩ 5)) :=
    Lib.run_unsafeSliceData_zero w.drew _ _ 5 Tryz.underlying94 ⟨g, 0, none⟩ 0 (5, cur.size) (by have hg' : w.drew.heap[g]? = some (.cells cur 5 (0, 0)) := hg; simp [World.shape?, hg'])
  have c2 : (w.drew.alloc (.view ⟨g, 0, none⟩ 5)).cell? ⟨b, 1, none⟩ = some (.slice (some ⟨g, 0, none⟩) 0 0) := by
    have : (w.drew.alloc (.view ⟨g, 0, none⟩ 5)).heap[b]? = _ := (Lib.alloc_old w.drew _ b hlt).trans hbk
    rw [Lib.cell_of_heap this]; rfl
  have c3 : (w.alloc (.view ⟨g, 0, none⟩ 5)).drew.cell? ⟨b, 1, none⟩ = some (.slice (some ⟨g, 0, none⟩) 0 0) := c2
  have c0 : w.cell? ⟨b, 1, none⟩ = some (.slice (some ⟨g, 0, none⟩) 0 0) := c1
  go_enter Tryz.func34, Tryz.ntmps34
  go_wp2
  go_region
  all_goals (go_wp2; go_ret; exact ⟨rfl, .inl rfl⟩)

/-- A builder: its variable's block, its copy-check's pointer, its bytes' head. -/
abbrev bld (b : Nat) (p : D) (hd : Value) (s : Str) : List AV := [.hb (va b) 61 (.agg [p, .raw hd]), .hs hd 5 (bytesD s)]

theorem bytesD_length (s : Str) : (bytesD s).length = s.length := by simp [bytesD]
theorem heap_freeze (w : World) (a : Addr) (n k : Nat) (h : k ≠ a.block) : (w.freeze a n).heap[k]? = w.heap[k]? := by
  unfold World.freeze
  split
  · rfl
  · simp only []
    rw [Array.getElem?_modify, if_neg (fun e => h e.symm)]
theorem size_freeze (w : World) (a : Addr) (n : Nat) : (w.freeze a n).heap.size = w.heap.size := by
  unfold World.freeze
  split
  · rfl
  · simp
theorem size_alloc (w : World) (o : Obj) : (w.alloc o).heap.size = w.heap.size + 1 := by unfold World.alloc; simp
theorem freeze_parts (w : World) (a : Addr) (n : Nat) : (w.freeze a n).os = w.os ∧ (w.freeze a n).tape = w.tape ∧ (w.freeze a n).output = w.output := by
  unfold World.freeze
  split <;> exact ⟨rfl, rfl, rfl⟩

theorem string_fn {b : Nat} {p : D} (hp : p = .nilp ∨ p = .raw (va b)) {hd : Value} {s : Str} :
    CtrG Tryz.prog 34 [.d (.raw (va b))] (bld b p hd s) (fun r hs' => r = .d (.str s) ∧ hs' = []) := by
  refine ⟨enters_of Tryz.func34 (by kernel_rfl) rfl, fun w L vals hlok hv hh hap => ?_⟩
  obtain ⟨v, us, rfl, hv1, hv2⟩ := hv
  obtain rfl : us = [] := hv2
  obtain rfl : v = va b := RepV.raw_inv hv1
  have hb : BoxT w L (some b) 61 (.agg [p, .raw hd]) (va b) := (hh (.hb (va b) 61 (.agg [p, .raw hd])) (by simp)).2
  obtain ⟨pv, e1, e2, e3, e4, e5⟩ := bld_cells hp hb
  have hs : OwnR Tryz.prog w L hd.ownBlock true 5 (bytesD s) hd := (hh (.hs hd 5 (bytesD s)) (by simp)).2
  obtain ⟨css, sz, f1, f2, f3, f4, f5⟩ := hs
  obtain rfl : sz = 1 := by
    have : ety 5 = 5 := rfl
    rw [this, byte_info] at f1; simpa using f1.symm
  have hcs := bytes_cells f2
  have done : ∀ (w' : World), GrownS w w' (fun k => some k ∈ (bld b p hd s).map hblk) → ∀ st : Str, st = s → Ending.returned (.string ⟨st.toArray⟩) = Ending.returned (.string ⟨s.toArray⟩) ∧
      ∃ v L' og r hs', Ending.returned (.string ⟨s.toArray⟩) = Ending.returned v ∧ GrownS w w' (fun k => some k ∈ (bld b p hd s).map hblk) ∧ (∀ b q, L' b q → b < w'.heap.size) ∧ (∀ b' q, b' < w.heap.size → some b' ∉ (bld b p hd s).map hblk → (L' b' q ↔ L b' q)) ∧
      (∀ g, some g ∈ og :: hs'.map hblk → g < w'.heap.size ∧ (w.heap.size ≤ g ∨ some g ∈ (bld b p hd s).map hblk)) ∧ apartB (og :: hs'.map hblk) ∧ RC Tryz.prog w' L' og r v ∧ (∀ x ∈ hs', RH Tryz.prog w' L' x) ∧ (r = .d (.str s) ∧ hs' = []) := by
    intro w' hg st hst
    refine ⟨by rw [hst], _, L, none, .d (.str s), [], rfl, hg, fun b q hq => Nat.lt_of_lt_of_le (hlok b q hq) hg.size, fun _ _ _ _ => Iff.rfl, fun g hgm => by simp at hgm, by simp [apartB], RepV.str, by simp, rfl, rfl⟩
  rcases f4.2 with ⟨rfl, hn⟩ | ⟨g, cap, cur, hv, hh', hnc, hcm, hsz, ht⟩
  · have hs0 : s = [] := by simpa [bytesD] using hn
    subst hs0
    refine (bs_nil w e1).mono ?_
    rintro e w' ⟨rfl, rfl⟩
    exact (done w.drew ⟨rfl, rfl, rfl, Nat.le_refl _, fun _ _ _ => rfl⟩ [] rfl).2
  · subst hv
    rw [bytesD_length] at *
    have hblk1 : (bld b p (.slice (some ⟨g, 0, none⟩) s.length cap) s).map hblk = [some b, some g] := by simp [hblk, Value.ownBlock]
    by_cases h0 : s = []
    · subst h0
      by_cases hc0 : cap = 0
      · subst hc0
        refine (bs_noroom w e1 hh').mono ?_
        rintro e w' ⟨rfl, hw⟩
        refine (done w' ?_ [] rfl).2
        rcases hw with rfl | rfl
        · exact ⟨rfl, rfl, rfl, by rw [size_alloc]; exact Nat.le_succ _, fun k hk _ => Lib.alloc_old w.drew _ k hk⟩
        · exact ⟨rfl, rfl, rfl, by show _ ≤ (w.alloc _).heap.size; rw [size_alloc]; exact Nat.le_succ _, fun k hk _ => Lib.alloc_old w _ k hk⟩
      · refine (bs_room w hc0 e1).mono ?_
        rintro e w' ⟨rfl, rfl⟩
        exact (done w.drew ⟨rfl, rfl, rfl, Nat.le_refl _, fun _ _ _ => rfl⟩ [] rfl).2
    · refine (bs_row w h0 e1 hh' hnc hcm (by omega) (fun j x hx => ?_)).mono ?_
      · have := rowOK.cells f4 (g := g) rfl j (.int .u8 x.toNat) (by rw [hcs, List.getElem?_map, hx]; rfl)
        exact this
      · rintro e w' ⟨rfl, rfl⟩
        refine (done (w.drew.freeze ⟨g, 0, none⟩ s.length) ⟨(freeze_parts _ _ _).1, (freeze_parts _ _ _).2.1, (freeze_parts _ _ _).2.2, by rw [size_freeze]; exact Nat.le_refl _, fun k hk hn => ?_⟩ s rfl).2
        rw [heap_freeze _ _ _ _ (fun e => hn (by rw [hblk1]; simp [e]))]
        rfl
end Go.Proofs.Tz

namespace Go.Proofs.Tz
open Go.Vw
set_option maxRecDepth 100000
set_option maxHeartbeats 4000000
set_option linter.unusedSimpArgs false

/-- One round is over: round k + 1 comes, of at most N. -/
def Again (N k : Nat) (I : Nat → St → Prop) (τ : St) : Prop := ∃ m', m' < N - k ∧ ∃ k', k' ≤ N ∧ m' = N - k' ∧ I k' τ
theorem again {N k : Nat} {I : Nat → St → Prop} {τ : St} (hk : k < N) (h : I (k + 1) τ) : Again N k I τ := ⟨N - (k + 1), by omega, k + 1, hk, rfl, h⟩
theorem loopN {body : (Exit → St → Prop) → St → Prop} {Q : Exit → St → Prop} {σ : St} (N : Nat) (I : Nat → St → Prop) (h0 : I 0 σ)
    (hr : ∀ k τ, k ≤ N → I k τ → body (thenV (Again N k I) Q) τ) : LoopK body Q σ :=
  ⟨fun m τ => ∃ k, k ≤ N ∧ m = N - k ∧ I k τ, N, ⟨0, Nat.zero_le _, rfl, h0⟩, by
    rintro m τ ⟨k, hk, rfl, hI⟩
    exact hr k τ hk hI⟩

theorem take_s {α : Type} {l : List α} {k : Nat} (h : k < l.length) : l.take (k + 1) = l.take k ++ [l[k]] := by
  rw [List.take_succ_eq_append_getElem h]

def strs (l : List Str) : D := .sl (l.map .str)
def u8 (c : UInt8) : D := .int .u8 c.toNat

def isLetter (c : UInt8) : Bool := decide (97 ≤ (c.toNat : Int)) && decide ((c.toNat : Int) ≤ 122) || decide (65 ≤ (c.toNat : Int)) && decide ((c.toNat : Int) ≤ 90)
def isDigit (c : UInt8) : Bool := decide (48 ≤ (c.toNat : Int)) && decide ((c.toNat : Int) ≤ 57)

theorem letter_fn (c : UInt8) : Ctr Tryz.prog 76 [.d (u8 c)] (.d (.bool (isLetter c))) := by
  refine fn_of_vwp (fun _ => false) (by kernel_rfl) Tryz.func76 (by kernel_rfl) rfl rfl (Nat.le_of_ble_eq_true rfl) (by kernel_rfl) rfl rfl ?_
  by_cases h1 : 97 ≤ (c.toNat : Int) <;> by_cases h2 : (c.toNat : Int) ≤ 122 <;> by_cases h3 : 65 ≤ (c.toNat : Int) <;> simp -implicitDefEqProofs [u8, isLetter, h1, h2, h3]
theorem digit_fn (c : UInt8) : Ctr Tryz.prog 77 [.d (u8 c)] (.d (.bool (isDigit c))) := by
  refine fn_of_vwp (fun _ => false) (by kernel_rfl) Tryz.func77 (by kernel_rfl) rfl rfl (Nat.le_of_ble_eq_true rfl) (by kernel_rfl) rfl rfl ?_
  by_cases h1 : 48 ≤ (c.toNat : Int) <;> simp [u8, isDigit, h1]
def lowc (c : UInt8) : UInt8 := if 65 ≤ (c.toNat : Int) ∧ (c.toNat : Int) ≤ 90 then c + 32 else c
def lower (s : Str) : Str := s.map lowc
theorem lowc_toNat (c : UInt8) (h1 : 65 ≤ (c.toNat : Int)) (h2 : (c.toNat : Int) ≤ 90) : ((lowc c).toNat : Int) = c.toNat + 97 - 65 := by
  rw [lowc, if_pos ⟨h1, h2⟩, UInt8.toNat_add]
  have : (32 : UInt8).toNat = 32 := rfl
  omega
theorem bytes_u8 (s : Str) : s.map u8 = bytesD s := rfl
theorem lower_len (s : Str) : (lower s).length = s.length := by simp [lower]
theorem lower_take {s : Str} {k : Nat} (h : k < List.length s) : (lower (s.take (k + 1))).map u8 = (lower (s.take k)).map u8 ++ [u8 (lowc s[k])] := by
  rw [take_s h]; simp only [lower, List.map_append, List.map_cons, List.map_nil]
theorem lower_fn (s : Str) (hs : List.length s < 1000000) : Ctr Tryz.prog 29 [.d (.str s)] (.d (.str (lower s))) := by
  refine fn_of_vwp (fun i => decide (i < 1000000)) (by kernel_rfl) Tryz.func29 (by kernel_rfl) rfl rfl (Nat.le_of_ble_eq_true rfl) (by kernel_rfl) rfl rfl ?_
  simp -implicitDefEqProofs
  refine loopN (List.length s) (fun k τ => τ 0 = .d (.str s) ∧ τ 4 = .d (.int .i64 k) ∧ τ 3 = .own true 5 ((lower (s.take k)).map u8)) (by simp [lower]) ?_
  rintro k τ hk ⟨h0, h4, h3⟩
  by_cases hlt : k < List.length s
  · by_cases h1 : 65 ≤ (s[k].toNat : Int)
    · by_cases h2 : (s[k].toNat : Int) ≤ 90
      · simp -implicitDefEqProofs [h0, h3, h4, hlt, h1, h2, lower_len]
        refine ⟨by omega, by omega, by omega, by omega, again hlt ⟨by simp [h0], by simp, ?_⟩⟩
        simp -implicitDefEqProofs [lower_take hlt, u8, lowc_toNat _ h1 h2]
      · simp -implicitDefEqProofs [h0, h3, h4, hlt, h1, h2, lower_len]
        refine ⟨by omega, by omega, again hlt ⟨by simp [h0], by simp, ?_⟩⟩
        simp -implicitDefEqProofs [lower_take hlt, u8, lowc, h2]
    · simp -implicitDefEqProofs [h0, h3, h4, hlt, h1, lower_len]
      refine ⟨by omega, by omega, again hlt ⟨by simp [h0], by simp, ?_⟩⟩
      simp -implicitDefEqProofs [lower_take hlt, u8, lowc, h1]
  · simp -implicitDefEqProofs [h0, h3, h4, hlt, bytes_u8]
    rw [List.take_of_length_le (by omega)]

def nameC (c : UInt8) : Bool := isLetter c || isDigit c || decide ((c.toNat : Int) = 45)
def nameB (s : Str) : Bool := decide (1 ≤ s.length) && decide (s.length ≤ 64) && (s.head?.any isLetter) && s.all nameC
def cleanC (c : UInt8) : Bool := decide (32 ≤ (c.toNat : Int)) && decide ((c.toNat : Int) ≤ 126)
def cleanB (s : Str) : Bool := decide (1 ≤ s.length) && decide (s.length ≤ 256) && s.head? != some 32 && s.getLast? != some 32 && s.all cleanC

theorem all_take {s : Str} {p : UInt8 → Bool} {k : Nat} (h : k < List.length s) (ha : ∀ x ∈ s.take k, p x = true) (hp : p s[k] = true) : ∀ x ∈ s.take (k + 1), p x = true := by
  rw [take_s h]
  intro x hx
  rcases List.mem_append.1 hx with hx | hx
  · exact ha x hx
  · rw [List.mem_singleton.1 hx]; exact hp
theorem all_not {s : Str} {p : UInt8 → Bool} {k : Nat} (h : k < List.length s) (hp : p s[k] = false) : s.all p = false := by
  rw [List.all_eq_false]; exact ⟨_, List.getElem_mem h, by simp [hp]⟩

theorem name_fn (s : Str) : Ctr Tryz.prog 41 [.d (.str s)] (.d (.bool (nameB s))) := by
  refine fn_of_vwp (fun _ => false) (by kernel_rfl) Tryz.func41 (by kernel_rfl) rfl rfl (Nat.le_of_ble_eq_true rfl) (by kernel_rfl) rfl rfl ?_
  by_cases hs : s = []
  · simp -implicitDefEqProofs [nameB, hs]
  obtain ⟨c, t, hct⟩ : ∃ c t, s = c :: t := List.exists_cons_of_ne_nil hs
  have hpos : 0 < List.length s := by rw [hct]; simp
  have h1 : ¬ ((List.length s : Int) < 1) := by omega
  have hc0 : s[0] = c := by simp [hct]
  have hh : s.head? = some c := by simp [hct]
  by_cases h2 : 64 < (List.length s : Int)
  · have : ¬ List.length s ≤ 64 := by omega
    simp -implicitDefEqProofs [nameB, h1, h2, this]
  have h2' : List.length s ≤ 64 := by omega
  have h1' : 1 ≤ List.length s := hpos
  simp -implicitDefEqProofs [h1, h2, hpos, hc0]
  refine callK (letter_fn c) ?_
  by_cases hc : isLetter c = true
  · simp -implicitDefEqProofs [hc]
    refine loopN (List.length s) (fun k τ => τ 0 = .d (.str s) ∧ τ 3 = .d (.int .i64 k) ∧ ∀ x ∈ s.take k, nameC x = true) (by simp) ?_
    rintro k τ hk ⟨h0, h3, ha⟩
    by_cases hlt : k < List.length s
    · simp -implicitDefEqProofs [h0, h3, hlt]
      refine callK (letter_fn s[k]) ?_
      by_cases e1 : isLetter s[k] = true
      · simp -implicitDefEqProofs [e1, h0, h3, hlt]
        refine ⟨by omega, again hlt ⟨by simp [h0], by simp, ?_⟩⟩
        exact all_take hlt ha (by simp [nameC, e1])
      · simp -implicitDefEqProofs [e1, h0, h3, hlt]
        refine callK (digit_fn s[k]) ?_
        by_cases e2 : isDigit s[k] = true
        · simp -implicitDefEqProofs [e2, h0, h3, hlt]
          refine ⟨by omega, again hlt ⟨by simp [h0], by simp, ?_⟩⟩
          exact all_take hlt ha (by simp [nameC, e2])
        · by_cases e3 : (s[k].toNat : Int) = 45
          · simp -implicitDefEqProofs [e2, e3, h0, h3, hlt]
            refine ⟨by omega, again hlt ⟨by simp [h0], by simp, ?_⟩⟩
            exact all_take hlt ha (by simp [nameC, e3])
          · simp -implicitDefEqProofs [e2, e3, h0, h3, hlt]
            simp -implicitDefEqProofs [nameB, all_not hlt (show nameC s[k] = false by simp [nameC, e1, e2, e3])]
    · simp -implicitDefEqProofs [h0, h3, hlt]
      rw [List.take_of_length_le (by omega)] at ha
      simp -implicitDefEqProofs [nameB, h1', h2', hh, hc]
      exact ha
  · simp -implicitDefEqProofs [hc, nameB, hh]
end Go.Proofs.Tz

/- strings.Builder: WriteByte, WriteString, Len. -/
set_option linter.unusedVariables false
set_option linter.unusedSimpArgs false
namespace Go.Proofs.Tz
open Go.Vw Go.RowKit Go.Proofs

/-- A call to which names are given, with its contract. -/
theorem givB {P : Program} {g : FuncId} {args : List AV} {σ : St} {d : Nat} {K : St → Prop} (ks : List Nat) (b : Nat) {hs : List AV} {Post : AV → List AV → Prop} (h : CtrG P g args hs Post) (h1 : ks.map σ = hs) (h2 : hs.all isH = true) (h3 : ks.Nodup)
    (hk : ∀ r hs', Post r hs' → K (putH (put (takeH σ ks) d r) ks b hs')) : GivK P g args σ d K :=
  ⟨ks, b, Post, fun k hk => by
    have : σ k ∈ hs := by rw [← h1]; exact List.mem_map.2 ⟨k, hk, rfl⟩
    exact List.all_eq_true.1 h2 _ this, h3, by rw [h1]; exact h, hk⟩

/-- The address of a named variable's field. -/
theorem rawFd {P : Program} {s f : Nat} {u : Value} {σ : St} {C : AV → Prop} (j : Nat) {e : TypeId} {ds : List D} (hj : σ j = .hb u e (.agg ds)) (h0 : 1000000 ≤ j) (h1 : f < ds.length) (h2 : fieldOff P s f = some (widths (ds.take f))) (h : C (.adr j [f])) : RawFd P s f u σ C :=
  ⟨j, e, ds, h0, hj, h1, h2, h⟩
theorem appSK {e : TypeId} {t : Str} {l : List D} {u : Value} {σ : St} {d : Nat} {K : St → Prop} (j : Nat) (hj : σ j = .hs u e l) (h2 : l.length + List.length t ≤ 140737488355328)
    (hk : ∀ A c, K (put (put σ j (.hs (.slice A (l ++ bytesD t).length c) e (l ++ bytesD t))) d (.d (.raw (.slice A (l ++ bytesD t).length c))))) : AppSK e t u σ d K := ⟨j, l, .inl hj, h2, hk⟩
@[simp] theorem cval_nilIface : cval Value.nilIface = .undef := rfl

theorem writeByte_fn {b : Nat} {p : D} (hp : p = .nilp ∨ p = .raw (va b)) {hd : Value} {s : Str} (c : UInt8) (hl : s.length + 1 ≤ 140737488355328) :
    CtrG Tryz.prog 64 [.d (.raw (va b)), .d (.int .u8 c.toNat)] (bld b p hd s) (fun r hs' => ∃ hd', hs' = bld b (.raw (va b)) hd' (s ++ [c])) := by
  refine fn_of_vwpGN (fun i => i == 5000006) (by kernel_rfl) (rs := [.tmp 4]) Tryz.func64 (by kernel_rfl) rfl rfl (by simp) (Nat.le_of_ble_eq_true rfl) (by kernel_rfl) rfl ?_
  simp -implicitDefEqProofs [initG]
  refine givB [1000000] 1000000 (copyCheck_fn (hd := hd) hp) (by simp [initG]) rfl (by simp) ?_
  rintro r hs' ⟨rfl, rfl⟩
  simp -implicitDefEqProofs [initG, takeH, putH]
  refine rawFd 1000000 (by simp; exact ⟨rfl, rfl⟩) (by omega) (by simp) (by kernel_rfl) ?_
  simp -implicitDefEqProofs [initG]
  refine appK (l := bytesD s) 1000001 (by simp [initG]) (by simp) (by simp [bytesD]; omega) (by simp [bytesD]; omega) (fun A c2 => ?_)
  simp -implicitDefEqProofs [initG]
  refine rawFd 1000000 (by simp; exact ⟨rfl, rfl⟩) (by omega) (by simp) (by kernel_rfl) ?_
  simp -implicitDefEqProofs [initG]
  refine ⟨[.undef], [1000000, 1000001], by simp, by simp [isH], by simp [resDs, resD], .slice A ((bytesD s).length + 1) c2, by simp [bytesD]⟩

theorem writeString_fn {b : Nat} {p : D} (hp : p = .nilp ∨ p = .raw (va b)) {hd : Value} {s : Str} (t : Str) (hl : s.length + t.length ≤ 140737488355328) :
    CtrG Tryz.prog 31 [.d (.raw (va b)), .d (.str t)] (bld b p hd s) (fun r hs' => ∃ hd', hs' = bld b (.raw (va b)) hd' (s ++ t)) := by
  refine fn_of_vwpGN (fun i => i == 5000007) (by kernel_rfl) (rs := [.tmp 4, .tmp 5]) Tryz.func31 (by kernel_rfl) rfl rfl (by simp) (Nat.le_of_ble_eq_true rfl) (by kernel_rfl) rfl ?_
  simp -implicitDefEqProofs [initG]
  refine givB [1000000] 1000000 (copyCheck_fn (hd := hd) hp) (by simp [initG]) rfl (by simp) ?_
  rintro r hs' ⟨rfl, rfl⟩
  simp -implicitDefEqProofs [initG, takeH, putH]
  refine rawFd 1000000 (by simp; exact ⟨rfl, rfl⟩) (by omega) (by simp) (by kernel_rfl) ?_
  simp -implicitDefEqProofs [initG]
  refine appSK (l := bytesD s) 1000001 (by simp [initG]) (by simp [bytesD]; omega) (fun A c2 => ?_)
  simp -implicitDefEqProofs [initG]
  refine rawFd 1000000 (by simp; exact ⟨rfl, rfl⟩) (by omega) (by simp) (by kernel_rfl) ?_
  simp -implicitDefEqProofs [initG]
  refine ⟨[.undef, .undef], [1000000, 1000001], by simp, by simp [isH], by simp [resDs, resD], .slice A ((bytesD s).length + (bytesD t).length) c2, by simp [bytesD]⟩

/-- A named slice's length is in its head. -/
theorem CtrG.head {P : Program} {f : FuncId} {args hs : List AV} {Post : AV → List AV → Prop} {u : Value} {e : TypeId} {l : List D} (hm : AV.hs u e l ∈ hs) (hE : Enters P f) (h : ∀ A c, u = .slice A l.length c → CtrG P f args hs Post) : CtrG P f args hs Post := by
  refine ⟨hE, fun w L vals hlok hv hh ha => ?_⟩
  obtain ⟨A, c, hu⟩ := OwnR.shape (show OwnR P w L u.ownBlock true e l u from (hh _ hm).2)
  exact (h A c hu).2 w L vals hlok hv hh ha

theorem bLen_fn {b : Nat} {p : D} (hp : p = .nilp ∨ p = .raw (va b)) {hd : Value} {s : Str} :
    CtrG Tryz.prog 33 [.d (.raw (va b))] (bld b p hd s) (fun r hs' => r = .d (.int .i64 s.length) ∧ hs' = bld b p hd s) := by
  refine CtrG.head (u := hd) (e := 5) (l := bytesD s) (by simp) (enters_of Tryz.func33 (by kernel_rfl) rfl) (fun A c hh => ?_)
  subst hh
  refine fn_of_vwpG (fun _ => false) (by kernel_rfl) Tryz.func33 (by kernel_rfl) rfl rfl (Nat.le_of_ble_eq_true rfl) (by kernel_rfl) rfl ?_
  simp -implicitDefEqProofs [initG]
  refine rawFd (e := 61) (ds := [p, .raw (.slice A (bytesD s).length c)]) 1000000 (by simp [initG]) (by omega) (by simp) (by rcases hp with rfl | rfl <;> kernel_rfl) ?_
  simp -implicitDefEqProofs [initG]
  refine ⟨.d (.int .i64 s.length), [1000000, 1000001], by simp, by simp [isH], by simp [ResG, bytesD], by simp [bytesD], by simp [bytesD, initG]⟩
end Go.Proofs.Tz

/- Library functions on bytes that change nothing: IndexByte, Count. -/
set_option linter.unusedVariables false
set_option linter.unusedSimpArgs false
namespace Go.Proofs.Tz
open Go.Vw Go.RowKit Go.Proofs

/-- A function that leaves the world as it was. -/
theorem Ctr.same {P : Program} {f : FuncId} {xs : List D} {r : D} {vs : List Value} {v : Value} (hE : Enters P f) (h : ∀ w, Calls P f vs.toArray w fun e w' => e = .returned v ∧ w' = w)
    (hx : ∀ w L og vals, RCs P w L og (xs.map .d) vals → vals = vs) (hr : ∀ w L, RepV w L r v) : Ctr P f (xs.map .d) (.d r) := by
  refine ⟨hE, fun w L og vals hlok hog hv => ?_⟩
  rw [hx w L og vals hv]
  refine (h w).mono ?_
  rintro e w' ⟨rfl, rfl⟩
  exact ⟨_, L, none, rfl, GrownS.refl _ _, hlok, fun _ _ _ _ => Iff.rfl, by simp, hr _ _⟩

/-- The place of the first byte c; or -1. -/
abbrev ixB (s : Str) (c : UInt8) : Int := Go.Lib.indexByte s c

set_option maxRecDepth 100000 in
set_option maxHeartbeats 1000000 in
theorem indexByteL_any (s : Str) (c : UInt8) (w : World) : Calls Tryz.prog 122 #[.string ⟨s.toArray⟩, .int .u8 c.toNat] w fun e w' => e = .returned (.int .i64 (ixB s c)) ∧ w' = w := by
  go_enter Tryz.func122, Tryz.ntmps122
  go_wp2
  rw [run_callFunc_extern Tryz.func146 (by kernel_rfl) (by kernel_rfl) (by kernel_rfl) (e := Extern.BytealgIndexByte.indexByte) (by kernel_rfl), Lib.run_indexByteString]
  simp only [Result.andThen]
  rw [Oper.upon_value]
  go_wp2
  go_ret
  simp [ixB]

theorem indexByteL_fn (s : Str) (c : UInt8) : Ctr Tryz.prog 122 [.d (.str s), .d (.int .u8 c.toNat)] (.d (.int .i64 (ixB s c))) := by
  refine Ctr.same (xs := [.str s, .int .u8 c.toNat]) (enters_of Tryz.func122 (by kernel_rfl) rfl) (indexByteL_any s c) (fun w L og vals h => ?_) (fun w L => RepV.int)
  obtain ⟨v, us, rfl, h1, v2, us2, rfl, h2, h3⟩ := h
  obtain rfl : us2 = [] := h3
  obtain rfl := RepV.str_inv h1
  obtain rfl := RepV.int_inv h2
  rfl

theorem indexByte_fn (s : Str) (c : UInt8) : Ctr Tryz.prog 88 [.d (.str s), .d (.int .u8 c.toNat)] (.d (.int .i64 (ixB s c))) := by
  refine fn_of_vwp (fun _ => false) (by kernel_rfl) Tryz.func88 (by kernel_rfl) rfl rfl (Nat.le_of_ble_eq_true rfl) (by kernel_rfl) rfl rfl ?_
  simp -implicitDefEqProofs
  refine callK (indexByteL_fn s c) ?_
  simp -implicitDefEqProofs

set_option maxRecDepth 100000 in
set_option maxHeartbeats 1000000 in
theorem count_any (s : Str) (c : UInt8) (hl : s.length ≤ 140737488355328) (w : World) : Calls Tryz.prog 127 #[.string ⟨s.toArray⟩, .string ⟨#[c]⟩] w fun e w' => e = .returned (.int .i64 (s.count c)) ∧ w' = w := by
  go_enter Tryz.func127, Tryz.ntmps127
  go_wp2
  rw [run_callFunc_extern Tryz.func150 (by kernel_rfl) (by kernel_rfl) (by kernel_rfl) (e := Extern.BytealgCount.count) (by kernel_rfl), Lib.run_countString]
  simp only [Result.andThen]
  rw [Oper.upon_value]
  go_wp2
  go_ret
  simp [Lib.countByte]
  rfl

theorem count_fn (s : Str) (c : UInt8) (hl : s.length ≤ 140737488355328) : Ctr Tryz.prog 127 [.d (.str s), .d (.str [c])] (.d (.int .i64 (s.count c))) := by
  refine Ctr.same (xs := [.str s, .str [c]]) (enters_of Tryz.func127 (by kernel_rfl) rfl) (count_any s c hl) (fun w L og vals h => ?_) (fun w L => RepV.int)
  obtain ⟨v, us, rfl, h1, v2, us2, rfl, h2, h3⟩ := h
  obtain rfl : us2 = [] := h3
  obtain rfl := RepV.str_inv h1
  obtain rfl := RepV.str_inv h2
  rfl

theorem ixB_lt {s : Str} {c : UInt8} (h : 0 ≤ ixB s c) : (ixB s c).toNat < s.length := by
  induction s with
  | nil => simp [ixB, Go.Lib.indexByte] at h
  | cons x s ih =>
    simp only [ixB, Go.Lib.indexByte] at h ih ⊢
    split
    · simp
    · split
      · rename_i h1 h2; simp [h1, h2] at h
      · rename_i h1 h2
        simp only [h1, h2] at h
        have h3 : Go.Lib.indexByte s c ≠ -1 := by simpa using h2
        have h4 := Go.Lib.indexByte_ge s c
        have := ih (by omega)
        simp only [List.length_cons]
        omega
theorem ixB_ge (s : Str) (c : UInt8) : -1 ≤ ixB s c := Go.Lib.indexByte_ge s c

theorem indexL_fn (s : Str) (c : UInt8) (hl : s.length ≤ 140737488355328) : Ctr Tryz.prog 89 [.d (.str s), .d (.str [c])] (.d (.int .i64 (ixB s c))) := by
  refine fn_of_vwp (fun _ => false) (by kernel_rfl) Tryz.func89 (by kernel_rfl) rfl rfl (Nat.le_of_ble_eq_true rfl) (by kernel_rfl) rfl rfl ?_
  simp -implicitDefEqProofs
  by_cases hs : [c] = s
  · subst hs
    simp [ixB, Go.Lib.indexByte]
  · simp only [hs, if_false]
    refine callK (indexByteL_fn s c) ?_
    simp -implicitDefEqProofs

/-- strings.Cut at a byte. -/
def cutB (s : Str) (c : UInt8) : Str × Str × Bool := if 0 ≤ ixB s c then (s.take (ixB s c).toNat, s.drop ((ixB s c).toNat + 1), true) else (s, [], false)

theorem cutL_fn (s : Str) (c : UInt8) (hl : s.length ≤ 140737488355328) : Ctr Tryz.prog 66 [.d (.str s), .d (.str [c])] (.tup [.d (.str (cutB s c).1), .d (.str (cutB s c).2.1), .d (.bool (cutB s c).2.2)]) := by
  refine fn_of_vwpN (rv := .tmp 4) (rs := [.tmp 5, .tmp 6]) (r := .d (.str (cutB s c).1)) (ys := [.d (.str (cutB s c).2.1), .d (.bool (cutB s c).2.2)]) (fun _ => false) (by kernel_rfl) Tryz.func66 (by kernel_rfl) rfl rfl (by simp) (Nat.le_of_ble_eq_true rfl) (by kernel_rfl) rfl rfl ?_
  simp -implicitDefEqProofs
  refine callK (indexL_fn s c hl) ?_
  by_cases h : 0 ≤ ixB s c
  · have hlt := ixB_lt h
    obtain ⟨k, hk⟩ := Int.eq_ofNat_of_zero_le h
    rw [hk] at hlt
    have h2 : (0 : Int) ≤ (k : Int) + 1 := by omega
    have h3 : ((k : Int) + 1).toNat = k + 1 := by omega
    simp -implicitDefEqProofs [hk, h2, h3, cutB]
    simp only [Int.toNat_natCast] at hlt
    refine ⟨by omega, by omega, by omega, ?_⟩
    rw [List.take_of_length_le (by simp)]
  · simp -implicitDefEqProofs [h, cutB]

theorem cut_fn (s : Str) (c : UInt8) (hl : s.length ≤ 140737488355328) : Ctr Tryz.prog 36 [.d (.str s), .d (.str [c])] (.tup [.d (.str (cutB s c).1), .d (.str (cutB s c).2.1), .d (.bool (cutB s c).2.2)]) := by
  refine fn_of_vwpN (rv := .tmp 4) (rs := [.tmp 5, .tmp 6]) (r := .d (.str (cutB s c).1)) (ys := [.d (.str (cutB s c).2.1), .d (.bool (cutB s c).2.2)]) (fun _ => false) (by kernel_rfl) Tryz.func36 (by kernel_rfl) rfl rfl (by simp) (Nat.le_of_ble_eq_true rfl) (by kernel_rfl) rfl rfl ?_
  simp -implicitDefEqProofs
  refine callK (cutL_fn s c hl) ?_
  simp -implicitDefEqProofs
end Go.Proofs.Tz

/- codec.plain, identityref02.plain. -/
set_option linter.unusedVariables false
set_option linter.unusedSimpArgs false
namespace Go.Proofs.Tz
open Go.Vw Go.RowKit Go.Proofs

/-- A byte that is written as it is. -/
def plainB (c : UInt8) : Bool := decide ((33 : Int) ≤ c.toNat ∧ (c.toNat : Int) ≤ 126 ∧ ¬ (c.toNat : Int) = 37 ∧ ¬ (c.toNat : Int) = 124 ∧ ¬ (c.toNat : Int) = 44 ∧ ¬ (c.toNat : Int) = 61 ∧ ¬ (c.toNat : Int) = 59 ∧ ¬ (c.toNat : Int) = 34)

theorem plainR_fn (c : UInt8) : Ctr Tryz.prog 65 [.d (.int .u8 c.toNat)] (.d (.bool (plainB c))) := by
  refine fn_of_vwp (fun _ => false) (by kernel_rfl) Tryz.func65 (by kernel_rfl) rfl rfl (Nat.le_of_ble_eq_true rfl) (by kernel_rfl) rfl rfl ?_
  by_cases h1 : (33 : Int) ≤ c.toNat
  · by_cases h2 : (c.toNat : Int) ≤ 126
    · by_cases h3 : (c.toNat : Int) = 37
      · simp -implicitDefEqProofs [h1, h2, h3, plainB]
      by_cases h4 : (c.toNat : Int) = 124
      · simp -implicitDefEqProofs [h1, h2, h3, h4, plainB]
      by_cases h5 : (c.toNat : Int) = 44
      · simp -implicitDefEqProofs [h1, h2, h3, h4, h5, plainB]
      by_cases h6 : (c.toNat : Int) = 61
      · simp -implicitDefEqProofs [h1, h2, h3, h4, h5, h6, plainB]
      by_cases h7 : (c.toNat : Int) = 59
      · simp -implicitDefEqProofs [h1, h2, h3, h4, h5, h6, h7, plainB]
      · simp -implicitDefEqProofs [h1, h2, h3, h4, h5, h6, h7, plainB]
    · simp -implicitDefEqProofs [h1, h2, plainB]
  · simp -implicitDefEqProofs [h1, plainB]

theorem ixB_neg (s : Str) (c : UInt8) : ixB s c < 0 ↔ c ∉ s := by
  induction s with
  | nil => simp [ixB, Go.Lib.indexByte]
  | cons x s ih =>
    have h4 := Go.Lib.indexByte_ge s c
    simp only [ixB, Go.Lib.indexByte] at ih ⊢
    by_cases hx : x = c
    · simp [hx]
    · have hx' : (x == c) = false := by simpa using hx
      simp only [hx', Bool.false_eq_true, if_false, List.mem_cons, not_or]
      by_cases h : Go.Lib.indexByte s c = -1
      · simp [h] at ih ⊢
        exact ⟨fun e => hx e.symm, ih⟩
      · have hn : ¬ Go.Lib.indexByte s c < 0 := by omega
        have h0 : (Go.Lib.indexByte s c == -1) = false := by simpa using h
        simp only [h0, Bool.false_eq_true, if_false]
        constructor
        · intro h5; omega
        · intro h5; exact absurd (ih.2 h5.2) hn

theorem u8_int (c : UInt8) (k : Nat) (hk : k < 256) : ((c.toNat : Int) = k) ↔ c = UInt8.ofNat k := by
  constructor
  · intro h
    have : c.toNat = k := by omega
    rw [← this, UInt8.ofNat_toNat]
  · rintro rfl
    simp [UInt8.toNat_ofNat', Nat.mod_eq_of_lt hk]

theorem ixB_plain (c : UInt8) : decide (ixB [37, 124, 44, 61, 59, 34] c < 0) = decide (¬ (c.toNat : Int) = 37 ∧ ¬ (c.toNat : Int) = 124 ∧ ¬ (c.toNat : Int) = 44 ∧ ¬ (c.toNat : Int) = 61 ∧ ¬ (c.toNat : Int) = 59 ∧ ¬ (c.toNat : Int) = 34) := by
  have h1 : ((c.toNat : Int) = 37) ↔ c = 37 := u8_int c 37 (by omega)
  have h2 : ((c.toNat : Int) = 124) ↔ c = 124 := u8_int c 124 (by omega)
  have h3 : ((c.toNat : Int) = 44) ↔ c = 44 := u8_int c 44 (by omega)
  have h4 : ((c.toNat : Int) = 61) ↔ c = 61 := u8_int c 61 (by omega)
  have h5 : ((c.toNat : Int) = 59) ↔ c = 59 := u8_int c 59 (by omega)
  have h6 : ((c.toNat : Int) = 34) ↔ c = 34 := u8_int c 34 (by omega)
  rw [decide_eq_decide, ixB_neg, h1, h2, h3, h4, h5, h6]
  simp

theorem plain_fn (c : UInt8) : Ctr Tryz.prog 63 [.d (.int .u8 c.toNat)] (.d (.bool (plainB c))) := by
  refine fn_of_vwp (fun _ => false) (by kernel_rfl) Tryz.func63 (by kernel_rfl) rfl rfl (Nat.le_of_ble_eq_true rfl) (by kernel_rfl) rfl rfl ?_
  by_cases h1 : (33 : Int) ≤ c.toNat
  · by_cases h2 : (c.toNat : Int) ≤ 126
    · simp -implicitDefEqProofs [h1, h2]
      refine callK (indexByte_fn _ c) ?_
      simp -implicitDefEqProofs [h1, h2, plainB]
      rw [ixB_plain]
      simp
    · simp -implicitDefEqProofs [h1, h2, plainB]
  · simp -implicitDefEqProofs [h1, plainB]
end Go.Proofs.Tz

/- Escape. -/
set_option maxRecDepth 100000
set_option maxHeartbeats 4000000
set_option linter.unusedVariables false
set_option linter.unusedSimpArgs false
namespace Go.Proofs.Tz
open Go.Vw Go.RowKit Go.Proofs

abbrev hexDs : Str := [48, 49, 50, 51, 52, 53, 54, 55, 56, 57, 65, 66, 67, 68, 69, 70]
def hexC (n : Nat) : UInt8 := hexDs.getD n 0
def escB (c : UInt8) : Str := if plainB c then [c] else [37, hexC (c.toNat / 16), hexC (c.toNat % 16)]
def escS (s : Str) : Str := s.flatMap escB

theorem escB_len (c : UInt8) : (escB c).length ≤ 3 := by unfold escB; split <;> simp
theorem escS_len (s : Str) : (escS s).length ≤ 3 * s.length := by
  induction s with
  | nil => simp [escS]
  | cons c s ih =>
    have := escB_len c
    simp only [escS, List.flatMap_cons, List.length_append, List.length_cons] at ih ⊢
    omega
theorem escS_take {s : Str} {k : Nat} (h : k < List.length s) : escS (s.take (k + 1)) = escS (s.take k) ++ escB s[k] := by
  rw [take_s h]; simp only [escS, List.flatMap_append, List.flatMap_cons, List.flatMap_nil, List.append_nil]
theorem u8_lt (c : UInt8) : c.toNat < 256 := c.toNat_lt

theorem hex_at {n : Nat} (h : n < 16) : hexDs[n]? = some (hexC n) := by
  simp only [hexC, List.getD_eq_getElem?_getD]
  rw [List.getElem?_eq_getElem (by simpa using h)]
  rfl
theorem hexQ (c : UInt8) : (0 : Int) ≤ (c.toNat : Int) / 16 ∧ (c.toNat : Int) / 16 ≤ 255 ∧ ((c.toNat : Int) / 16).toNat = c.toNat / 16 ∧ [48, 49, 50, 51, 52, 53, 54, 55, 56, 57, 65, 66, 67, 68, 69, 70][c.toNat / 16]? = some (hexC (c.toNat / 16)) ∧ c.toNat / 16 < 16 := by
  have := c.toNat_lt
  exact ⟨by omega, by omega, by omega, hex_at (by omega), by omega⟩
theorem hexR (c : UInt8) : (0 : Int) ≤ (c.toNat : Int) % 16 ∧ ((c.toNat : Int) % 16).toNat = c.toNat % 16 ∧ [48, 49, 50, 51, 52, 53, 54, 55, 56, 57, 65, 66, 67, 68, 69, 70][c.toNat % 16]? = some (hexC (c.toNat % 16)) := by
  have := c.toNat_lt
  exact ⟨by omega, by omega, hex_at (by omega)⟩

theorem escapeR_fn (s : Str) (hs : List.length s < 1000000) : Ctr Tryz.prog 35 [.d (.str s)] (.d (.str (escS s))) := by
  refine fn_of_vwp (fun i => decide (i < 1000000)) (by kernel_rfl) Tryz.func35 (by kernel_rfl) rfl rfl (Nat.le_of_ble_eq_true rfl) (by kernel_rfl) rfl rfl ?_
  simp -implicitDefEqProofs
  refine loopN (List.length s) (fun k τ => τ 0 = .d (.str s) ∧ τ 4 = .d (.int .i64 k) ∧ τ 3 = .own true 5 (bytesD (escS (s.take k)))) (by simp [escS, bytesD]) ?_
  rintro k τ hk ⟨h0, h4, h3⟩
  by_cases hlt : k < List.length s
  · simp -implicitDefEqProofs [h0, h3, h4, hlt]
    refine callK (plainR_fn s[k]) ?_
    have h5 := escS_len (s.take k)
    rw [List.length_take, Nat.min_eq_left (by omega)] at h5
    have h6 := escS_take hlt
    have h7 : (escB s[k]).length ≤ 3 := escB_len _
    by_cases hp : plainB s[k] = true
    · simp -implicitDefEqProofs [h0, h3, h4, hlt, hp, bytesD_length]
      refine ⟨by omega, by omega, again hlt ⟨by simp [h0], by simp, ?_⟩⟩
      simp [h6, escB, hp, bytesD]
    · obtain ⟨q1, q2, q3, q4, q5⟩ := hexQ s[k]
      obtain ⟨r1, r2, r3⟩ := hexR s[k]
      simp -implicitDefEqProofs [h0, h3, h4, hlt, hp, bytesD_length, q1, q2, q3, q4, r1, r2, r3]
      refine ⟨by decide, by omega, by omega, again hlt ⟨by simp [h0], by simp, ?_⟩⟩
      simp [h6, escB, hp, bytesD]
  · simp -implicitDefEqProofs [h0, h3, h4, hlt]
    rw [List.take_of_length_le (by omega)]

/-- A new variable gets a name, and so does a nil slice in it. -/
theorem newK2 {P : Program} {e : TypeId} {z : D} {σ : St} {d : Nat} {K : St → Prop} (j k : Nat) (e' : TypeId) (h1 : σ k = .undef) (h2 : (P.info? (ety e')).isSome = true) (h3 : σ j = .undef) (hjk : j ≠ k)
    (hK : ∀ g, K (put (put (put σ k (.hs (.slice none 0 0) e' [])) j (.hb (va g) e z)) d (.d (.raw (va g))))) : NewK P e z σ d K :=
  ⟨j, some (k, e'), ⟨h1, h2⟩, by simp [nilN, hjk, h3], hK⟩

theorem zTX61 : zeroTX Tryz.prog true 8 61 = .agg [.nilp, .raw (.slice none 0 0)] := by kernel_rfl

def BldAt (τ : St) (b : Nat) (s : Str) : Prop := ∃ p hd, (p = .nilp ∨ p = .raw (va b)) ∧ τ 1000000 = .hb (va b) 61 (.agg [p, .raw hd]) ∧ τ 1000001 = .hs hd 5 (bytesD s)

theorem escape_fn (s : Str) (hs : List.length s < 1000000) : Ctr Tryz.prog 32 [.d (.str s)] (.d (.str (escS s))) := by
  refine fn_of_vwp (fun i => i == 1000003 || i == 5000017 || i == 5000018 || i == 5000022 || i == 5000026 || i == 5000028) (by kernel_rfl) Tryz.func32 (by kernel_rfl) rfl rfl (Nat.le_of_ble_eq_true rfl) (by kernel_rfl) rfl rfl ?_
  simp -implicitDefEqProofs
  refine newK2 1000000 1000001 5 (by simp) (by kernel_rfl) (by simp) (by simp) (fun b => ?_)
  simp -implicitDefEqProofs
  refine loopN (List.length s) (fun k τ => τ 0 = .d (.str s) ∧ τ 8 = .d (.int .i64 k) ∧ τ 7 = .d (.int .i64 s.length) ∧ τ 3 = .d (.raw (va b)) ∧ BldAt τ b (escS (s.take k))) ?_ ?_
  · exact ⟨by simp, by simp, by simp, by simp, .nilp, .slice none 0 0, .inl rfl, by simp [zTX61], by simp [escS, bytesD]⟩
  rintro k τ hk ⟨h0, h8, h7, h3, p, hd, hp, hb, hh⟩
  by_cases hlt : k < List.length s
  · have h5 := escS_len (s.take k)
    rw [List.length_take, Nat.min_eq_left (by omega)] at h5
    have h6 := escS_take hlt
    simp -implicitDefEqProofs [h0, h3, h7, h8, hlt]
    refine callK (plain_fn s[k]) ?_
    by_cases hpl : plainB s[k] = true
    · simp -implicitDefEqProofs [h0, h3, h7, h8, hlt, hpl]
      refine givB [1000000, 1000001] 1000000 (writeByte_fn (s := escS (s.take k)) (hd := hd) hp s[k] (by omega)) (by simp [hb, hh]) rfl (by simp) ?_
      rintro r hs' ⟨hd1, rfl⟩
      simp -implicitDefEqProofs [h0, h3, h7, h8, hlt, takeH, putH]
      refine ⟨by omega, again hlt ⟨by simp [h0], by simp, by simp [h7], by simp [h3], .raw (va b), hd1, .inr rfl, by simp, by simp [h6, escB, hpl]⟩⟩
    · obtain ⟨q1, q2, q3, q4, q5⟩ := hexQ s[k]
      obtain ⟨r1, r2, r3⟩ := hexR s[k]
      simp -implicitDefEqProofs [h0, h3, h7, h8, hlt, hpl]
      refine givB [1000000, 1000001] 1000000 (writeByte_fn (s := escS (s.take k)) (hd := hd) hp 37 (by omega)) (by simp [hb, hh]) rfl (by simp) ?_
      rintro r hs' ⟨hd1, rfl⟩
      have hand : s[k].toNat &&& 15 = s[k].toNat % 16 := Nat.and_two_pow_sub_one_eq_mod s[k].toNat 4
      have hlt8 : s[k].toNat ≤ 255 := by have := s[k].toNat_lt; omega
      simp -implicitDefEqProofs [h0, h3, h7, h8, hlt, takeH, putH, q1, q2, q3, q4]
      refine givB [1000000, 1000001] 1000000 (writeByte_fn (b := b) (s := escS (s.take k) ++ [37]) (hd := hd1) (.inr rfl) (hexC (s[k].toNat / 16)) (by simp; omega)) (by simp) rfl (by simp) ?_
      rintro r hs' ⟨hd2, rfl⟩
      simp -implicitDefEqProofs [h0, h3, h7, h8, hlt, takeH, putH, hand, r3, q1, q2, r1, r2, hlt8]
      refine ⟨by omega, ?_⟩
      refine givB [1000000, 1000001] 1000000 (writeByte_fn (b := b) (s := escS (s.take k) ++ [37] ++ [hexC (s[k].toNat / 16)]) (hd := hd2) (.inr rfl) (hexC (s[k].toNat % 16)) (by simp; omega)) (by simp) rfl (by simp) ?_
      rintro r hs' ⟨hd3, rfl⟩
      simp -implicitDefEqProofs [h0, h3, h7, h8, hlt, takeH, putH]
      refine ⟨by omega, again hlt ⟨by simp [h0], by simp, by simp [h7], by simp [h3], .raw (va b), hd3, .inr rfl, by simp, by simp [h6, escB, hpl]⟩⟩
  · simp -implicitDefEqProofs [h0, h3, h7, h8, hlt]
    rw [List.take_of_length_le (by omega)] at hh
    refine givB [1000000, 1000001] 1000000 (string_fn (s := escS s) (hd := hd) hp) (by simp [hb, hh]) rfl (by simp) ?_
    rintro r hs' ⟨rfl, rfl⟩
    simp -implicitDefEqProofs [h0, h3, h7, h8, hlt, takeH, putH]
end Go.Proofs.Tz

/- Unescape: the plain law. -/
set_option linter.unusedVariables false
set_option linter.unusedSimpArgs false
namespace Go.Proofs.Tz
open Go.Vw Go.RowKit Go.Proofs

/-- A hexadecimal digit's value, or -1. -/
abbrev hexV (c : UInt8) : Int := ixB hexDs c
def hx (h l : UInt8) : UInt8 := UInt8.ofNat (16 * (hexV h).toNat + (hexV l).toNat)

def unesc : Str → Option Str
  | [] => some []
  | c :: r => if plainB c then (unesc r).map (c :: ·) else if c = 37 then (match r with
    | h :: l :: r' => if 0 ≤ hexV h ∧ 0 ≤ hexV l ∧ plainB (hx h l) = false then (unesc r').map (hx h l :: ·) else none
    | _ => none) else none
  termination_by s => s.length

def decR : Str → Option Str
  | [] => some []
  | c :: r => if c ≠ 37 then (decR r).map (c :: ·) else (match r with
    | h :: l :: r' => if 0 ≤ hexV h ∧ 0 ≤ hexV l then (decR r').map (hx h l :: ·) else none
    | _ => none)
  termination_by s => s.length

theorem unesc_nil : unesc [] = some [] := by rw [unesc.eq_def]
theorem unesc_cons (c : UInt8) (r : Str) : unesc (c :: r) = if plainB c then (unesc r).map (c :: ·) else if c = 37 then (match r with
    | h :: l :: r' => if 0 ≤ hexV h ∧ 0 ≤ hexV l ∧ plainB (hx h l) = false then (unesc r').map (hx h l :: ·) else none
    | _ => none) else none := by rw [unesc.eq_def]; rfl
theorem decR_nil : decR [] = some [] := by rw [decR.eq_def]
theorem decR_cons (c : UInt8) (r : Str) : decR (c :: r) = if c ≠ 37 then (decR r).map (c :: ·) else (match r with
    | h :: l :: r' => if 0 ≤ hexV h ∧ 0 ≤ hexV l then (decR r').map (hx h l :: ·) else none
    | _ => none) := by rw [decR.eq_def]; rfl

theorem hexV_hexC : ∀ n, n < 16 → hexV (hexC n) = n := by decide
theorem hexV_lt (c : UInt8) (h : 0 ≤ hexV c) : (hexV c).toNat < 16 := by
  have := ixB_lt h
  simpa using this
theorem hexC_hexV (c : UInt8) (h : 0 ≤ hexV c) : hexC (hexV c).toNat = c := by
  have h1 : ∀ (s : Str), 0 ≤ ixB s c → s.getD (ixB s c).toNat 0 = c := by
    intro s
    induction s with
    | nil => intro h; simp [ixB, Go.Lib.indexByte] at h
    | cons x s ih =>
      intro h
      have hge := Go.Lib.indexByte_ge s c
      simp only [ixB, Go.Lib.indexByte] at h ih ⊢
      by_cases hx : (x == c) = true
      · rw [if_pos hx]; simpa using hx
      · rw [if_neg hx] at h ⊢
        by_cases h2 : (Go.Lib.indexByte s c == -1) = true
        · rw [if_pos h2] at h; simp at h
        · rw [if_neg h2] at h ⊢
          have h3 : 0 ≤ Go.Lib.indexByte s c := by
            have : Go.Lib.indexByte s c ≠ -1 := by simpa using h2
            omega
          have h4 : (Go.Lib.indexByte s c + 1).toNat = (Go.Lib.indexByte s c).toNat + 1 := by omega
          rw [h4, List.getD_cons_succ]
          exact ih h3
  exact h1 hexDs h
theorem hx_nat (h l : UInt8) (h1 : 0 ≤ hexV h) (h2 : 0 ≤ hexV l) : (hx h l).toNat = 16 * (hexV h).toNat + (hexV l).toNat := by
  have := hexV_lt h h1
  have := hexV_lt l h2
  rw [hx, UInt8.toNat_ofNat']
  omega
theorem hx_hexC (c : UInt8) : hx (hexC (c.toNat / 16)) (hexC (c.toNat % 16)) = c := by
  have := c.toNat_lt
  rw [hx, hexV_hexC _ (by omega), hexV_hexC _ (by omega)]
  have : 16 * ((c.toNat / 16 : Nat) : Int).toNat + ((c.toNat % 16 : Nat) : Int).toNat = c.toNat := by omega
  rw [this, UInt8.ofNat_toNat]
theorem plain37 : plainB 37 = false := by decide

theorem unesc_esc (t : Str) : unesc (escS t) = some t := by
  induction t with
  | nil => simp [escS, unesc_nil]
  | cons c t ih =>
    have e : escS (c :: t) = escB c ++ escS t := by simp [escS]
    rw [e]
    have := c.toNat_lt
    by_cases hp : plainB c = true
    · simp [escB, hp, unesc_cons, ih]
    · have hp' : plainB c = false := by simpa using hp
      simp only [escB, hp', Bool.false_eq_true, if_false, List.cons_append, List.nil_append]
      rw [unesc_cons]
      simp only
      rw [hexV_hexC _ (by omega), hexV_hexC _ (by omega), hx_hexC]
      have b1 : (0 : Int) ≤ ((c.toNat / 16 : Nat) : Int) := Int.natCast_nonneg _
      have b2 : (0 : Int) ≤ ((c.toNat % 16 : Nat) : Int) := Int.natCast_nonneg _
      rw [if_neg (by simp [plain37]), if_pos trivial, if_pos ⟨b1, b2, hp'⟩, ih]
      rfl

theorem unesc_dec : ∀ (n : Nat) (s t : Str), s.length ≤ n → unesc s = some t → decR s = some t ∧ escS t = s := by
  intro n
  induction n with
  | zero =>
    intro s t hn h
    have : s = [] := List.length_eq_zero_iff.1 (by omega)
    subst this
    simp [unesc_nil] at h
    subst h
    simp [decR_nil, escS]
  | succ n ih =>
    intro s t hn h
    cases s with
    | nil => simp [unesc_nil] at h; subst h; simp [decR_nil, escS]
    | cons c r =>
      rw [unesc_cons] at h
      by_cases hp : plainB c = true
      · rw [if_pos hp] at h
        obtain ⟨u, hu, rfl⟩ := Option.map_eq_some_iff.1 h
        obtain ⟨h1, h2⟩ := ih r u (by simp at hn; omega) hu
        have hne : c ≠ 37 := by rintro rfl; simp [plain37] at hp
        rw [decR_cons, if_pos hne, h1]
        exact ⟨rfl, by simp [escS, escB, hp, ← h2]⟩
      · rw [if_neg hp] at h
        by_cases hc : c = 37
        · rw [if_pos hc] at h
          subst hc
          match r, h with
          | a :: l :: r', h =>
            simp only at h
            split at h
            · rename_i hh
              obtain ⟨u, hu, rfl⟩ := Option.map_eq_some_iff.1 h
              obtain ⟨h1, h2⟩ := ih r' u (by simp at hn; omega) hu
              rw [decR_cons]
              simp only [ne_eq, not_true_eq_false, if_false]
              rw [if_pos ⟨hh.1, hh.2.1⟩, h1]
              refine ⟨rfl, ?_⟩
              have e1 := hx_nat a l hh.1 hh.2.1
              have l1 := hexV_lt a hh.1
              have l2 := hexV_lt l hh.2.1
              have q1 : (hx a l).toNat / 16 = (hexV a).toNat := by omega
              have q2 : (hx a l).toNat % 16 = (hexV l).toNat := by omega
              have : escS (hx a l :: u) = escB (hx a l) ++ escS u := by simp [escS]
              rw [this, escB, hh.2.2, h2, q1, q2, hexC_hexV a hh.1, hexC_hexV l hh.2.1]
              simp
            · cases h
          | [a], h => simp at h
          | [], h => simp at h
        · rw [if_neg hc] at h; cases h

/-- What identityref02.Unescape computes. -/
theorem unescR_eq (s : Str) : (match decR s with
    | some t => if escS t = s then some t else none
    | none => none) = unesc s := by
  cases hu : unesc s with
  | some t =>
    obtain ⟨h1, h2⟩ := unesc_dec _ s t (Nat.le_refl _) hu
    rw [h1]; simp [h2]
  | none =>
    cases hd : decR s with
    | none => rfl
    | some t =>
      by_cases he : escS t = s
      · have := unesc_esc t
        rw [he, hu] at this
        cases this
      · simp [he]

theorem drop_s {s : Str} {k : Nat} (h : k < List.length s) : s.drop k = s[k] :: s.drop (k + 1) := List.drop_eq_getElem_cons h
end Go.Proofs.Tz

/- Unescape: the walks. -/
set_option maxRecDepth 100000
set_option maxHeartbeats 4000000
set_option linter.unusedVariables false
set_option linter.unusedSimpArgs false
namespace Go.Proofs.Tz
open Go.Vw Go.RowKit Go.Proofs

theorem again' {N k k' : Nat} {I : Nat → St → Prop} {τ : St} (hk : k < k') (hk' : k' ≤ N) (h : I k' τ) : Again N k I τ := ⟨N - k', by omega, k', hk', rfl, h⟩

theorem ixB_at {c : UInt8} : ∀ {s : Str} {k : Nat} (h : k < s.length), s[k] = c → c ∉ s.take k → ixB s c = k
  | [], k, h, _, _ => by simp at h
  | x :: s, 0, h, he, _ => by
    simp only [List.getElem_cons_zero] at he
    simp [ixB, Go.Lib.indexByte, he]
  | x :: s, k + 1, h, he, hn => by
    simp only [List.take_succ_cons, List.mem_cons, not_or] at hn
    have := ixB_at (s := s) (k := k) (by simpa using h) (by simpa using he) hn.2
    have hx : (x == c) = false := by simpa using fun e => hn.1 e.symm
    simp only [ixB] at this
    simp only [ixB, Go.Lib.indexByte, hx, this]
    have h2 : ((k : Int) == -1) = false := by simp
    simp [h2]
theorem ixB_no {s : Str} {c : UInt8} (h : c ∉ s) : ixB s c = -1 := by
  have h1 := (ixB_neg s c).2 h
  have h2 := ixB_ge s c
  omega

theorem digitH_fn (c : UInt8) : Ctr Tryz.prog 91 [.d (.int .u8 c.toNat)] (.d (.int .i64 (ixB hexDs c))) := by
  refine fn_of_vwp (fun _ => false) (by kernel_rfl) Tryz.func91 (by kernel_rfl) rfl rfl (Nat.le_of_ble_eq_true rfl) (by kernel_rfl) rfl rfl ?_
  simp -implicitDefEqProofs
  refine loopN 16 (fun k τ => τ 0 = .d (.int .u8 c.toNat) ∧ τ 3 = .d (.int .i64 k) ∧ c ∉ hexDs.take k) (by simp) ?_
  rintro k τ hk ⟨h0, h3, hn⟩
  by_cases hlt : k < 16
  · have hix : [48, 49, 50, 51, 52, 53, 54, 55, 56, 57, 65, 66, 67, 68, 69, 70][k]? = some (hexC k) := hex_at hlt
    have hlt' : (k : Int) < 16 := by omega
    have hget : ∀ h : k < hexDs.length, hexDs[k] = hexC k := fun h => by
      have := hex_at hlt
      rw [List.getElem?_eq_getElem h] at this
      simpa using this
    by_cases he : (hexC k).toNat = c.toNat
    · have he2 : hexC k = c := UInt8.toNat_inj.1 he
      simp -implicitDefEqProofs [h0, h3, hlt', hix, he]
      exact (ixB_at (by simpa using hlt) (by rw [hget]; exact he2) hn).symm
    · have he1 : ¬ ((hexC k).toNat : Int) = c.toNat := by omega
      have he2 : hexC k ≠ c := fun e => he (by rw [e])
      simp -implicitDefEqProofs [h0, h3, hlt', hix, he1]
      refine ⟨by omega, again hlt ⟨by simp [h0], by simp, ?_⟩⟩
      rw [take_s (show k < hexDs.length by simpa using hlt), List.mem_append, List.mem_singleton]
      rintro (h | h)
      · exact hn h
      · exact he2 (by rw [h, hget])
  · have hk16 : k = 16 := by omega
    subst hk16
    simp -implicitDefEqProofs [h0, h3]
    exact (ixB_no (by simpa using hn)).symm

def unescP (s : Str) : Str × Int := match unesc s with
  | some t => (t, 0)
  | none => ([], 4)

theorem unesc_len : ∀ (n : Nat) (s t : Str), s.length ≤ n → unesc s = some t → t.length ≤ s.length := by
  intro n
  induction n with
  | zero =>
    intro s t hn h
    have : s = [] := List.length_eq_zero_iff.1 (by omega)
    subst this
    simp [unesc_nil] at h
    subst h; simp
  | succ n ih =>
    intro s t hn h
    cases s with
    | nil => simp [unesc_nil] at h; subst h; simp
    | cons c r =>
      rw [unesc_cons] at h
      split at h
      · obtain ⟨u, hu, rfl⟩ := Option.map_eq_some_iff.1 h
        have := ih r u (by simpa using hn) hu
        simpa using this
      · split at h
        · split at h
          · split at h
            · obtain ⟨u, hu, rfl⟩ := Option.map_eq_some_iff.1 h
              have := ih _ u (by simp at hn; omega) hu
              simp at this ⊢; omega
            · cases h
          · cases h
        · cases h

theorem unesc_short {r : Str} (h : r.length ≤ 1) : unesc (37 :: r) = none := by
  rw [unesc_cons, if_neg (by simp [plain37]), if_pos rfl]
  match r, h with
  | [], _ => rfl
  | [_], _ => rfl
  | _ :: _ :: _, h => simp at h
theorem unesc_two (a l : UInt8) (r : Str) : unesc (37 :: a :: l :: r) = if 0 ≤ hexV a ∧ 0 ≤ hexV l ∧ plainB (hx a l) = false then (unesc r).map (hx a l :: ·) else none := by
  rw [unesc_cons, if_neg (by simp [plain37]), if_pos rfl]
theorem unesc_bad {c : UInt8} {r : Str} (h1 : ¬ plainB c = true) (h2 : c ≠ 37) : unesc (c :: r) = none := by
  rw [unesc_cons, if_neg h1, if_neg h2]
theorem unescP_none {s : Str} (h : unesc s = none) : unescP s = ([], 4) := by simp [unescP, h]
theorem unescP_some {s t : Str} (h : unesc s = some t) : unescP s = (t, 0) := by simp [unescP, h]

theorem unescape_fn (s : Str) (hs : List.length s < 1000000) : Ctr Tryz.prog 68 [.d (.str s)] (.tup [.d (.str (unescP s).1), .d (.int .i64 (unescP s).2)]) := by
  refine fn_of_vwpN (rv := .tmp 2) (rs := [.tmp 3]) (r := .d (.str (unescP s).1)) (ys := [.d (.int .i64 (unescP s).2)]) (fun i => i == 1000004 || i == 5000021 || i == 5000062 || i == 5000065) (by kernel_rfl) Tryz.func68 (by kernel_rfl) rfl rfl (by simp) (Nat.le_of_ble_eq_true rfl) (by kernel_rfl) rfl rfl ?_
  simp -implicitDefEqProofs
  refine newK2 1000000 1000001 5 (by simp) (by kernel_rfl) (by simp) (by simp) (fun b => ?_)
  simp -implicitDefEqProofs
  refine loopN (List.length s) (fun k τ => τ 0 = .d (.str s) ∧ τ 5 = .d (.int .i64 k) ∧ τ 4 = .d (.raw (va b)) ∧ ∃ out, BldAt τ b out ∧ out.length ≤ k ∧ unesc s = (unesc (s.drop k)).map (out ++ ·)) ?_ ?_
  · exact ⟨by simp, by simp, by simp, [], ⟨.nilp, .slice none 0 0, .inl rfl, by simp [zTX61], by simp [bytesD]⟩, by simp, by simp⟩
  rintro k τ hk ⟨h0, h5, h4, out, ⟨p, hd, hp, hb, hh⟩, hol, hu⟩
  by_cases hlt : k < List.length s
  · have hdr := drop_s hlt
    simp -implicitDefEqProofs [h0, h4, h5, hlt]
    refine callK (plain_fn s[k]) ?_
    by_cases hpl : plainB s[k] = true
    · simp -implicitDefEqProofs [h0, h4, h5, hlt, hpl]
      refine givB [1000000, 1000001] 1000000 (writeByte_fn (s := out) (hd := hd) hp s[k] (by omega)) (by simp [hb, hh]) rfl (by simp) ?_
      rintro r hs' ⟨hd1, rfl⟩
      simp -implicitDefEqProofs [h0, h4, h5, hlt, takeH, putH]
      refine ⟨by omega, again hlt ⟨by simp [h0], by simp, by simp [h4], out ++ [s[k]], ⟨.raw (va b), hd1, .inr rfl, by simp, by simp⟩, by simp; omega, ?_⟩⟩
      rw [hu, hdr, unesc_cons, if_pos hpl]
      cases unesc (s.drop (k + 1)) <;> simp
    · by_cases h37 : (s[k].toNat : Int) = 37
      · have h37' : s[k] = 37 := (u8_int s[k] 37 (by omega)).1 h37
        by_cases h2 : (List.length s : Int) ≤ (k : Int) + 2
        · simp -implicitDefEqProofs [h0, h4, h5, hlt, hpl, h37, h2]
          refine ⟨by omega, ?_⟩
          rw [hdr, h37', unesc_short (by simp; omega)] at hu
          simp [unescP_none hu]
        · have l1 : k + 1 < List.length s := by omega
          have l2 : k + 2 < List.length s := by omega
          have i1 : (0 : Int) ≤ (k : Int) + 1 := by omega
          have i2 : (0 : Int) ≤ (k : Int) + 2 := by omega
          have j1 : ((k : Int) + 1).toNat = k + 1 := by omega
          have j2 : ((k : Int) + 2).toNat = k + 2 := by omega
          have g1 : s[k + 1]? = some s[k + 1] := List.getElem?_eq_getElem l1
          have g2 : s[k + 2]? = some s[k + 2] := List.getElem?_eq_getElem l2
          have hdr2 : s.drop k = 37 :: s[k + 1] :: s[k + 2] :: s.drop (k + 3) := by rw [hdr, h37', drop_s l1, drop_s l2]
          rw [hdr2, unesc_two] at hu
          simp only [hexV] at hu
          simp -implicitDefEqProofs [h0, h4, h5, hlt, hpl, h37, h2, i1, i2, j1, j2, g1, g2]
          refine ⟨by omega, by omega, callP (indexByte_fn hexDs s[k + 1]) ?_⟩
          simp -implicitDefEqProofs [h0, h4, h5, hlt, hpl, h37, h2, i1, i2, j1, j2, g1, g2]
          refine ⟨by omega, callP (indexByte_fn hexDs s[k + 2]) ?_⟩
          by_cases v1 : ixB hexDs s[k + 1] < 0
          · simp -implicitDefEqProofs [h0, h4, h5, hlt, v1]
            rw [if_neg (by omega)] at hu
            simp [unescP_none hu]
          by_cases v2 : ixB hexDs s[k + 2] < 0
          · simp -implicitDefEqProofs [h0, h4, h5, hlt, v1, v2]
            rw [if_neg (by omega)] at hu
            simp [unescP_none hu]
          have u1 : 0 ≤ ixB hexDs s[k + 1] := by omega
          have u2 : 0 ≤ ixB hexDs s[k + 2] := by omega
          have w1 : (ixB hexDs s[k + 1]).toNat < 16 := hexV_lt s[k + 1] u1
          have w2 : (ixB hexDs s[k + 2]).toNat < 16 := hexV_lt s[k + 2] u2
          have x1 : (hx s[k + 1] s[k + 2]).toNat = 16 * (ixB hexDs s[k + 1]).toNat + (ixB hexDs s[k + 2]).toNat := hx_nat s[k + 1] s[k + 2] u1 u2
          obtain ⟨A, hA⟩ := Int.eq_ofNat_of_zero_le u1
          obtain ⟨B, hB⟩ := Int.eq_ofNat_of_zero_le u2
          have v3 : ¬ ((A : Int) < 0) := by omega
          have v4 : ¬ ((B : Int) < 0) := by omega
          simp only [hA, hB, Int.toNat_natCast] at w1 w2 x1
          have hor : ((A : Int) * 16).toNat ||| B = (hx s[k + 1] s[k + 2]).toNat := by
            have e1 : ((A : Int) * 16).toNat = 2 ^ 4 * A := by omega
            rw [e1, x1, ← Nat.two_pow_add_eq_or_of_lt (by omega : B < 2 ^ 4)]
          have h8 : (hx s[k + 1] s[k + 2]).toNat ≤ 255 := by omega
          simp -implicitDefEqProofs [h0, h4, h5, hlt, hA, hB, v3, v4, hor]
          refine ⟨by omega, by omega, by omega, by omega, by omega, callK (plain_fn (hx s[k + 1] s[k + 2])) ?_⟩
          by_cases hpx : plainB (hx s[k + 1] s[k + 2]) = true
          · simp -implicitDefEqProofs [h0, h4, h5, hlt, hA, hB, v3, v4, hpx]
            rw [if_neg (by simp [hpx])] at hu
            simp [unescP_none hu]
          · have hpx' : plainB (hx s[k + 1] s[k + 2]) = false := by simpa using hpx
            simp -implicitDefEqProofs [h0, h4, h5, hlt, hA, hB, v3, v4, hor, hpx]
            refine ⟨by omega, by omega, by omega, by omega, by omega, ?_⟩
            refine givB [1000000, 1000001] 1000000 (writeByte_fn (s := out) (hd := hd) hp (hx s[k + 1] s[k + 2]) (by omega)) (by simp [hb, hh]) rfl (by simp) ?_
            rintro r hs' ⟨hd1, rfl⟩
            simp -implicitDefEqProofs [h0, h4, h5, hlt, takeH, putH]
            refine ⟨by omega, by omega, again' (k' := k + 3) (by omega) (by omega) ⟨by simp [h0], by simp; omega, by simp [h4], out ++ [hx s[k + 1] s[k + 2]], ⟨.raw (va b), hd1, .inr rfl, by simp, by simp⟩, by simp; omega, ?_⟩⟩
            rw [if_pos ⟨u1, u2, hpx'⟩] at hu
            rw [hu]
            cases unesc (s.drop (k + 3)) <;> simp
      · have h37' : s[k] ≠ 37 := fun e => h37 ((u8_int s[k] 37 (by omega)).2 e)
        rw [hdr, unesc_bad hpl h37'] at hu
        simp -implicitDefEqProofs [h0, h4, h5, hlt, hpl, h37]
        simp [unescP_none hu]
  · simp -implicitDefEqProofs [h0, h4, h5, hlt]
    rw [List.drop_of_length_le (by omega), unesc_nil] at hu
    simp only [Option.map_some, List.append_nil] at hu
    refine givB [1000000, 1000001] 1000000 (string_fn (s := out) (hd := hd) hp) (by simp [hb, hh]) rfl (by simp) ?_
    rintro r hs' ⟨rfl, rfl⟩
    simp -implicitDefEqProofs [h0, h4, h5, hlt, takeH, putH, unescP_some hu]

/-- The raw decoding from a place on. -/
theorem decR_short {r : Str} (h : r.length ≤ 1) : decR (37 :: r) = none := by
  rw [decR_cons, if_neg (by simp)]
  match r, h with
  | [], _ => rfl
  | [_], _ => rfl
  | _ :: _ :: _, h => simp at h
theorem decR_two (a l : UInt8) (r : Str) : decR (37 :: a :: l :: r) = if 0 ≤ ixB hexDs a ∧ 0 ≤ ixB hexDs l then (decR r).map (hx a l :: ·) else none := by
  rw [decR_cons, if_neg (by simp)]

def outP (s : Str) : Option Str → Str × Int
  | some t => if escS t = s then (t, 0) else ([], 4)
  | none => ([], 4)
theorem unescP_R {s : Str} {o : Option Str} (h : decR s = o) : unescP s = outP s o := by
  subst h
  rw [unescP, ← unescR_eq]
  cases decR s with
  | none => rfl
  | some t => by_cases he : escS t = s <;> simp [he, outP]

theorem unescapeR_fn (s : Str) (hs : List.length s < 1000000) : Ctr Tryz.prog 69 [.d (.str s)] (.tup [.d (.str (unescP s).1), .d (.int .i64 (unescP s).2)]) := by
  refine fn_of_vwpN (rv := .tmp 2) (rs := [.tmp 3]) (r := .d (.str (unescP s).1)) (ys := [.d (.int .i64 (unescP s).2)]) (fun i => decide (i < 1000000)) (by kernel_rfl) Tryz.func69 (by kernel_rfl) rfl rfl (by simp) (Nat.le_of_ble_eq_true rfl) (by kernel_rfl) rfl rfl ?_
  simp -implicitDefEqProofs
  refine loopN (List.length s) (fun k τ => τ 0 = .d (.str s) ∧ τ 5 = .d (.int .i64 k) ∧ ∃ out, τ 4 = .own true 5 (bytesD out) ∧ out.length ≤ k ∧ decR s = (decR (s.drop k)).map (out ++ ·)) ?_ ?_
  · exact ⟨by simp, by simp, [], by simp [bytesD], by simp, by simp⟩
  rintro k τ hk ⟨h0, h5, out, h4, hol, hu⟩
  by_cases hlt : k < List.length s
  · have hdr := drop_s hlt
    by_cases h37 : (s[k].toNat : Int) = 37
    · have h37' : s[k] = 37 := (u8_int s[k] 37 (by omega)).1 h37
      by_cases h2 : (List.length s : Int) ≤ (k : Int) + 2
      · simp -implicitDefEqProofs [h0, h4, h5, hlt, h37, h2]
        refine ⟨by omega, ?_⟩
        rw [hdr, h37', decR_short (by simp; omega)] at hu
        simp [unescP_R hu, outP]
      · have l1 : k + 1 < List.length s := by omega
        have l2 : k + 2 < List.length s := by omega
        have i1 : (0 : Int) ≤ (k : Int) + 1 := by omega
        have i2 : (0 : Int) ≤ (k : Int) + 2 := by omega
        have j1 : ((k : Int) + 1).toNat = k + 1 := by omega
        have j2 : ((k : Int) + 2).toNat = k + 2 := by omega
        have g1 : s[k + 1]? = some s[k + 1] := List.getElem?_eq_getElem l1
        have g2 : s[k + 2]? = some s[k + 2] := List.getElem?_eq_getElem l2
        have hdr2 : s.drop k = 37 :: s[k + 1] :: s[k + 2] :: s.drop (k + 3) := by rw [hdr, h37', drop_s l1, drop_s l2]
        rw [hdr2, decR_two] at hu
        simp -implicitDefEqProofs [h0, h4, h5, hlt, h37, h2, i1, i2, j1, j2, g1, g2]
        refine ⟨by omega, by omega, callK (digitH_fn s[k + 1]) ?_⟩
        by_cases v1 : ixB hexDs s[k + 1] < 0
        · simp -implicitDefEqProofs [h0, h4, h5, hlt, h2, v1]
          rw [if_neg (by omega)] at hu
          simp [unescP_R hu, outP]
        simp -implicitDefEqProofs [h0, h4, h5, hlt, h37, h2, i1, i2, j1, j2, g1, g2, v1]
        refine ⟨by omega, callK (digitH_fn s[k + 2]) ?_⟩
        by_cases v2 : ixB hexDs s[k + 2] < 0
        · simp -implicitDefEqProofs [h0, h4, h5, hlt, h2, v1, v2]
          rw [if_neg (by omega)] at hu
          simp [unescP_R hu, outP]
        have u1 : 0 ≤ ixB hexDs s[k + 1] := by omega
        have u2 : 0 ≤ ixB hexDs s[k + 2] := by omega
        have w1 : (ixB hexDs s[k + 1]).toNat < 16 := hexV_lt s[k + 1] u1
        have w2 : (ixB hexDs s[k + 2]).toNat < 16 := hexV_lt s[k + 2] u2
        have x1 : (hx s[k + 1] s[k + 2]).toNat = 16 * (ixB hexDs s[k + 1]).toNat + (ixB hexDs s[k + 2]).toNat := hx_nat s[k + 1] s[k + 2] u1 u2
        simp -implicitDefEqProofs [h0, h4, h5, hlt, h37, h2, i1, i2, j1, j2, g1, g2, v1, v2]
        refine ⟨by omega, callP (digitH_fn s[k + 1]) ?_⟩
        simp -implicitDefEqProofs [h0, h4, h5, hlt, h37, h2, i1, i2, j1, j2, g1, g2, v1, v2]
        refine ⟨by omega, by omega, callP (digitH_fn s[k + 2]) ?_⟩
        have hsum : 16 * ixB hexDs s[k + 1] + ixB hexDs s[k + 2] = ((hx s[k + 1] s[k + 2]).toNat : Int) := by omega
        have h8 : (hx s[k + 1] s[k + 2]).toNat ≤ 255 := by omega
        simp -implicitDefEqProofs [h0, h4, h5, hlt, h37, h2, i1, i2, j1, j2, g1, g2, v1, v2, hsum, h8, bytesD_length]
        refine ⟨by omega, by omega, by omega, by omega, by omega, again' (k' := k + 3) (by omega) (by omega) ⟨by simp [h0], by simp; omega, out ++ [hx s[k + 1] s[k + 2]], by simp [bytesD], by simp; omega, ?_⟩⟩
        rw [if_pos ⟨u1, u2⟩] at hu
        rw [hu]
        cases decR (s.drop (k + 3)) <;> simp
    · have h37' : s[k] ≠ 37 := fun e => h37 ((u8_int s[k] 37 (by omega)).2 e)
      rw [hdr, decR_cons, if_pos h37'] at hu
      simp -implicitDefEqProofs [h0, h4, h5, hlt, h37, bytesD_length]
      refine ⟨by omega, by omega, again hlt ⟨by simp [h0], by simp, out ++ [s[k]], by simp [bytesD], by simp; omega, ?_⟩⟩
      rw [hu]
      cases decR (s.drop (k + 1)) <;> simp
  · rw [List.drop_of_length_le (by omega), decR_nil] at hu
    simp only [Option.map_some, List.append_nil] at hu
    simp -implicitDefEqProofs [h0, h4, h5, hlt]
    refine callK (escapeR_fn out (by omega)) ?_
    by_cases he : escS out = s
    · simp -implicitDefEqProofs [h0, h4, h5, hlt, he, unescP_R hu, outP]
    · simp -implicitDefEqProofs [h0, h4, h5, hlt, he, unescP_R hu, outP]
end Go.Proofs.Tz

/- strings.Split at one byte. -/
set_option maxRecDepth 100000
set_option maxHeartbeats 4000000
set_option linter.unusedVariables false
set_option linter.unusedSimpArgs false
namespace Go.Proofs.Tz
open Go.Vw Go.RowKit Go.Proofs

/-- The pieces between the bytes c. -/
def splitB (c : UInt8) : Str → List Str
  | [] => [[]]
  | x :: s => if x = c then [] :: splitB c s else (match splitB c s with
    | p :: ps => (x :: p) :: ps
    | [] => [[x]])

theorem splitB_ne (c : UInt8) (s : Str) : splitB c s ≠ [] := by
  cases s with
  | nil => simp [splitB]
  | cons x s =>
    simp only [splitB]
    split
    · simp
    · cases splitB c s <;> simp
theorem splitB_len (c : UInt8) (s : Str) : (splitB c s).length = s.count c + 1 := by
  induction s with
  | nil => simp [splitB]
  | cons x s ih =>
    simp only [splitB]
    by_cases hx : x = c
    · simp [hx, ih]
    · rw [if_neg hx]
      have h2 : (x :: s).count c = s.count c := by simp [List.count_cons, hx]
      rw [h2, ← ih]
      cases hs : splitB c s with
      | nil => exact absurd hs (splitB_ne c s)
      | cons p ps => simp
theorem splitB_none {c : UInt8} {s : Str} (h : c ∉ s) : splitB c s = [s] := by
  induction s with
  | nil => rfl
  | cons x s ih =>
    simp only [List.mem_cons, not_or] at h
    simp only [splitB, if_neg (fun e : x = c => h.1 e.symm), ih h.2]
theorem splitB_at {c : UInt8} : ∀ {s : Str} {k : Nat}, ixB s c = k → splitB c s = s.take k :: splitB c (s.drop (k + 1))
  | [], k, h => by simp [ixB, Go.Lib.indexByte] at h
  | x :: s, k, h => by
    have hge := Go.Lib.indexByte_ge s c
    simp only [ixB, Go.Lib.indexByte] at h
    by_cases hx : x = c
    · simp only [hx, beq_self_eq_true, if_true] at h
      obtain rfl : k = 0 := by omega
      simp [splitB, hx]
    · have hx' : (x == c) = false := by simpa using hx
      simp only [hx', Bool.false_eq_true, if_false] at h
      by_cases h2 : Go.Lib.indexByte s c = -1
      · simp [h2] at h
      · have h3 : (Go.Lib.indexByte s c == -1) = false := by simpa using h2
        simp only [h3, Bool.false_eq_true, if_false] at h
        obtain ⟨k', rfl⟩ : ∃ k', k = k' + 1 := ⟨k - 1, by omega⟩
        have ih := splitB_at (s := s) (k := k') (by show Go.Lib.indexByte s c = _; omega)
        simp only [splitB, if_neg hx, ih, List.take_succ_cons, List.drop_succ_cons]
theorem count_at {c : UInt8} {s : Str} {k : Nat} (h : ixB s c = k) : s.count c = (s.drop (k + 1)).count c + 1 := by
  have h1 := splitB_len c s
  rw [splitB_at h, List.length_cons, splitB_len] at h1
  omega
theorem count_zero {c : UInt8} {s : Str} (h : ixB s c < 0) : s.count c = 0 := List.count_eq_zero.2 ((ixB_neg s c).1 h)

theorem indexS_fn (s : Str) (c : UInt8) (hl : s.length ≤ 140737488355328) : Ctr Tryz.prog 128 [.d (.str s), .d (.str [c])] (.d (.int .i64 (ixB s c))) := by
  refine fn_of_vwp (fun _ => false) (by kernel_rfl) Tryz.func128 (by kernel_rfl) rfl rfl (Nat.le_of_ble_eq_true rfl) (by kernel_rfl) rfl rfl ?_
  simp -implicitDefEqProofs
  refine callK (indexL_fn s c hl) ?_
  simp -implicitDefEqProofs

theorem rep_at {done : List Str} {k n : Nat} (hd : done.length = k) : (done.map D.str ++ List.replicate (n + 1) (D.str []))[k]? = some (.str []) := by
  rw [List.getElem?_append_right (by simp [hd])]
  simp [hd]
theorem rep_set {done : List Str} {k n : Nat} (hd : done.length = k) (p : Str) : (done.map D.str ++ List.replicate (n + 1) (D.str [])).set k (.str p) = (done ++ [p]).map D.str ++ List.replicate n (D.str []) := by
  rw [List.set_append_right _ _ (by simp [hd])]
  simp [hd, List.replicate_succ]
theorem genSplit_fn (s : Str) (c : UInt8) (hl : s.length < 1000000) : Ctr Tryz.prog 90 [.d (.str s), .d (.str [c]), .d (.int .i64 0), .d (.int .i64 (-1))] (.own true 9 ((splitB c s).map .str)) := by
  refine fn_of_vwp (fun i => decide (i < 1000000)) (by kernel_rfl) Tryz.func90 (by kernel_rfl) rfl rfl (Nat.le_of_ble_eq_true rfl) (by kernel_rfl) rfl rfl ?_
  simp -implicitDefEqProofs
  refine callK (count_fn s c (by omega)) ?_
  have hc : s.count c ≤ s.length := List.count_le_length
  have hnc : ¬ List.length s < s.count c := by omega
  have z1 : ((s.count c : Int) + 1 - 1) = (s.count c : Int) := by omega
  have z2 : ((s.count c : Int) + 1).toNat = s.count c + 1 := by omega
  simp -implicitDefEqProofs [hnc, z1, z2]
  refine ⟨by omega, by omega, by omega, by omega, by omega, by omega, ?_⟩
  refine loopN (s.count c) (fun k τ => τ 1 = .d (.str [c]) ∧ τ 2 = .d (.int .i64 0) ∧ τ 3 = .d (.int .i64 (s.count c)) ∧ τ 10 = .d (.int .i64 k) ∧ ∃ rest done, τ 0 = .d (.str rest) ∧ List.length done = k ∧ List.length rest ≤ List.length s ∧
    τ 9 = .own true 9 (done.map .str ++ List.replicate (s.count c - k + 1) (.str [])) ∧ splitB c s = done ++ splitB c rest ∧ rest.count c = s.count c - k) ?_ ?_
  · refine ⟨by simp, by simp, by simp [z1], by simp, s, [], by simp, by simp, by simp, by simp, by simp, by simp⟩
  rintro k τ hk ⟨h1, h2, h3, h10, rest, done, h0, hd, hrl, h9, hsp, hct⟩
  by_cases hlt : k < s.count c
  · have hlt' : (k : Int) < (s.count c : Int) := by omega
    simp -implicitDefEqProofs [h0, h1, h2, h3, h9, h10, hlt']
    refine callK (indexS_fn rest c (by omega)) ?_
    have hin : ¬ ixB rest c < 0 := fun h => by have := count_zero h; omega
    obtain ⟨m, hm⟩ := Int.eq_ofNat_of_zero_le (show 0 ≤ ixB rest c by omega)
    have hml := ixB_lt (show 0 ≤ ixB rest c by omega)
    simp only [hm, Int.toNat_natCast] at hml
    have hm0 : ¬ ((m : Int) < 0) := by omega
    have hm1 : (0 : Int) ≤ (m : Int) + 1 := by omega
    have hm2 : ((m : Int) + 1).toNat = m + 1 := by omega
    have hg : ∀ h, (done.map D.str ++ List.replicate (s.count c - k + 1) (D.str []))[k]'h = D.str [] := fun h => by
      have := rep_at (n := s.count c - k) hd
      rw [List.getElem?_eq_getElem h] at this
      simpa using this
    have hk1 : (0 : Int) ≤ (k : Int) + 1 := by omega
    have hkd : k < List.length done + (s.count c - k + 1) := by omega
    have hs := rep_set (n := s.count c - k) hd (rest.take m)
    simp -implicitDefEqProofs [h0, h1, h2, h3, h9, h10, hlt', hm, hm0, hm1, hm2, hg, hkd, hs, hk1]
    have hsp2 := splitB_at hm
    have hct2 := count_at hm
    refine ⟨by omega, by omega, by omega, by omega, by omega, again hlt ⟨by simp [h1], by simp [h2], by simp [h3], by simp, rest.drop (m + 1), ?_, done ++ [rest.take m], by simp [hd], by simp; omega, ?_, ?_, by omega⟩⟩
    · simp
      rw [List.take_of_length_le (by simp)]
    · simp
      have : s.count c - k = s.count c - (k + 1) + 1 := by omega
      rw [this]
    · rw [hsp, hsp2]; simp
  · have hke : k = s.count c := by omega
    have hlt' : ¬ (k : Int) < (s.count c : Int) := by omega
    have hg : ∀ h, (done.map D.str ++ List.replicate (s.count c - k + 1) (D.str []))[k]'h = D.str [] := fun h => by
      have := rep_at (n := s.count c - k) hd
      rw [List.getElem?_eq_getElem h] at this
      simpa using this
    have hk1 : (0 : Int) ≤ (k : Int) + 1 := by omega
    have hkd : k < List.length done + (s.count c - k + 1) := by omega
    have hs := rep_set (n := s.count c - k) hd rest
    simp -implicitDefEqProofs [h0, h1, h2, h3, h9, h10, hlt', hg, hkd, hs, hk1]
    have hrest : splitB c rest = [rest] := splitB_none (List.count_eq_zero.1 (by omega))
    refine ⟨by omega, by omega, ?_⟩
    rw [hsp, hrest]
    have : (done.map D.str).length = k := by simp [hd]
    rw [List.take_append, List.take_of_length_le (by omega), this]
    simp

theorem split_fn (s : Str) (c : UInt8) (hl : s.length < 1000000) : Ctr Tryz.prog 67 [.d (.str s), .d (.str [c])] (.own true 9 ((splitB c s).map .str)) := by
  refine fn_of_vwp (fun i => decide (i < 1000000)) (by kernel_rfl) Tryz.func67 (by kernel_rfl) rfl rfl (Nat.le_of_ble_eq_true rfl) (by kernel_rfl) rfl rfl ?_
  simp -implicitDefEqProofs
  refine callK (genSplit_fn s c hl) ?_
  simp -implicitDefEqProofs
end Go.Proofs.Tz

/- strings.Join. -/
set_option linter.unusedVariables false
set_option linter.unusedSimpArgs false
namespace Go.Proofs.Tz
open Go.Vw Go.RowKit Go.Proofs

theorem bldX : Builder.Extra Tryz.prog Tryz.layJ_ren := {
  sizeBuilder := by kernel_rfl
  liesBuilder := by kernel_rfl
  t5 := Tryz.underlying5
  a5 := Tryz.isAgg5
  z5 := Tryz.sizeOf5
  v5 := Tryz.zeroValue5
  infoByte := by kernel_rfl
  cellsByte := by kernel_rfl
  sizeByte := by kernel_rfl
  neB5 := by decide }

theorem strs_cells {w : World} {L : Nat → Nat → Prop} : ∀ {l : List Str} {css : List (List Value)}, RepL w L (l.map .str) css → css.flatten = l.map fun s => Value.string ⟨s.toArray⟩
  | [], css, h => by simp only [List.map_nil, RepL] at h; subst h; rfl
  | c :: s, css, h => by
    simp only [List.map_cons, RepL, Rep] at h
    obtain ⟨c1, cs, rfl, rfl, h2⟩ := h
    simp [strs_cells (l := s) h2]

theorem join_fn (l : List Str) (sep : Str) (hl : l.length < 1000000) (hj : (Go.Lib.join l sep).length ≤ 140737488355328) : Ctr Tryz.prog 93 [.d (strs l), .d (.str sep)] (.d (.str (Go.Lib.join l sep))) := by
  refine ⟨enters_of Tryz.func93 (by kernel_rfl) rfl, fun w L og vals hlok hog hv => ?_⟩
  obtain ⟨v, us, rfl, h1, v2, us2, rfl, h2, h3⟩ := hv
  obtain rfl : us2 = [] := h3
  obtain rfl := RepV.str_inv h2
  have fin : ∀ w' st, Below w.heap.size w w' → st = Go.Lib.join l sep → ∃ v L' og', Ending.returned (.string ⟨st.toArray⟩) = .returned v ∧ GrownS w w' (optB og) ∧ (∀ b q, L' b q → b < w'.heap.size) ∧ (∀ b q, b < w.heap.size → ¬ optB og b → (L' b q ↔ L b q)) ∧
      (∀ g, og' = some g → g < w'.heap.size ∧ (w.heap.size ≤ g ∨ og = some g)) ∧ RC Tryz.prog w' L' og' (.d (.str (Go.Lib.join l sep))) v := by
    rintro w' st hb rfl
    exact ⟨_, L, none, rfl, ⟨hb.os, hb.tape, hb.output, hb.size, fun k hk _ => hb.block k hk⟩, fun b q hq => Nat.lt_of_lt_of_le (hlok b q hq) hb.size, fun _ _ _ _ => Iff.rfl, by simp, RepV.str⟩
  have hm : (l.map fun s => (⟨s.toArray⟩ : ByteArray)).map (·.data.toList) = l := by simp [Function.comp_def]
  have h1' : Rep w L (strs l) [v] := RepV.cell h1 rfl
  simp only [strs, Rep] at h1'
  obtain ⟨a, cap, css, sz, e1, e2, e3, e4, e5⟩ := h1'
  obtain rfl : v = .slice a (l.map D.str).length cap := by simpa using e1
  rw [List.length_map] at e4 ⊢
  by_cases hn : l = []
  · subst hn
    have h := Any.strings_Join_none Tryz.layJ bldX a cap ⟨sep.toArray⟩ w
    change Calls Tryz.prog 93 _ _ _ at h
    refine h.mono ?_
    rintro e w' ⟨rfl, rfl⟩
    exact fin _ [] (Below.refl _ _) rfl
  · obtain ⟨b, off, rfl, hat⟩ := e5 (by simpa using hn)
    have hcs := strs_cells e2
    have hcell : ∀ (j : Nat) x, (l.map fun s => (⟨s.toArray⟩ : ByteArray))[j]? = some x → w.cell? ⟨b, off + j, none⟩ = some (.string x) ∧ L b (off + j) := by
      intro j x hx
      refine hat j (.string x) ?_
      rw [hcs, List.getElem?_map]
      rw [List.getElem?_map] at hx
      obtain ⟨s, hs, rfl⟩ := Option.map_eq_some_iff.1 hx
      rw [hs]; rfl
    have hbk : b < w.heap.size := by
      obtain ⟨x, t, rfl⟩ := List.exists_cons_of_ne_nil hn
      exact hlok b _ (hcell 0 _ rfl).2
    have h := Any.strings_Join Tryz.layJ bldX b off cap (l.map fun s => (⟨s.toArray⟩ : ByteArray)) ⟨sep.toArray⟩ w (fun j x hx => (hcell j x hx).1) hbk (by simp; omega) (by simpa using e4) (by rw [hm]; simpa using hj)
    change Calls Tryz.prog 93 _ _ _ at h
    rw [hm] at h
    simp only [List.length_map] at h
    refine h.mono ?_
    rintro e w' ⟨rfl, hb⟩
    exact fin w' _ hb (by simp)
end Go.Proofs.Tz

namespace Go.Proofs.Tz
open Go.Vw
set_option maxRecDepth 100000
set_option maxHeartbeats 4000000
set_option linter.unusedSimpArgs false

theorem clean_fn (s : Str) : Ctr Tryz.prog 49 [.d (.str s)] (.d (.bool (cleanB s))) := by
  refine fn_of_vwp (fun _ => false) (by kernel_rfl) Tryz.func49 (by kernel_rfl) rfl rfl (Nat.le_of_ble_eq_true rfl) (by kernel_rfl) rfl rfl ?_
  by_cases hs : s = []
  · simp -implicitDefEqProofs [cleanB, hs]
  have hpos : 0 < List.length s := by
    cases s with
    | nil => exact absurd rfl hs
    | cons => simp
  have h1 : ¬ ((List.length s : Int) < 1) := by omega
  have hh : s.head? = some s[0] := by simp [List.head?_eq_getElem?, hpos]
  have hl : s.getLast? = some s[List.length s - 1] := by rw [List.getLast?_eq_getElem?, List.getElem?_eq_getElem (by omega)]
  have hi : 0 ≤ (List.length s : Int) - 1 := by omega
  have hi2 : ((List.length s : Int) - 1).toNat = List.length s - 1 := by omega
  have hi3 : List.length s - 1 < List.length s := by omega
  have hi4 : -9223372036854775808 ≤ (List.length s : Int) - 1 := by omega
  by_cases h2 : 256 < (List.length s : Int)
  · have : ¬ List.length s ≤ 256 := by omega
    simp -implicitDefEqProofs [cleanB, h1, h2, this]
  have h2' : List.length s ≤ 256 := by omega
  have h1' : 1 ≤ List.length s := hpos
  have hi5 : (List.length s : Int) - 1 ≤ 9223372036854775807 := by omega
  by_cases ha : (s[0].toNat : Int) = 32
  · have : s[0] = 32 := by apply UInt8.toNat_inj.1; rw [show (32 : UInt8).toNat = 32 from rfl]; omega
    simp -implicitDefEqProofs [cleanB, h1, h2, hpos, ha, hh, this]
  have ha' : ¬ s[0] = 32 := fun e => ha (by rw [e]; rfl)
  by_cases hb : (s[List.length s - 1].toNat : Int) = 32
  · have : s[List.length s - 1] = 32 := by apply UInt8.toNat_inj.1; rw [show (32 : UInt8).toNat = 32 from rfl]; omega
    simp -implicitDefEqProofs [cleanB, h1, h2, hpos, ha, hh, hl, hb, hi, hi2, hi3, hi4, hi5, this]
    all_goals omega
  have hb' : ¬ s[List.length s - 1] = 32 := fun e => hb (by rw [e]; rfl)
  simp -implicitDefEqProofs [h1, h2, hpos, ha, hb, hi, hi2, hi3, hi4, hi5]
  refine ⟨by omega, ?_⟩
  refine loopN (List.length s) (fun k τ => τ 0 = .d (.str s) ∧ τ 3 = .d (.int .i64 k) ∧ ∀ x ∈ s.take k, cleanC x = true) (by simp) ?_
  rintro k τ hk ⟨h0, h3, hall⟩
  by_cases hlt : k < List.length s
  · by_cases e1 : (s[k].toNat : Int) < 32
    · have e1' : ¬ 32 ≤ (s[k].toNat : Int) := by omega
      simp -implicitDefEqProofs [h0, h3, hlt, e1]
      simp -implicitDefEqProofs [cleanB, all_not hlt (show cleanC s[k] = false by simp [cleanC, e1'])]
    · by_cases e2 : 126 < (s[k].toNat : Int)
      · have e2' : ¬ (s[k].toNat : Int) ≤ 126 := by omega
        simp -implicitDefEqProofs [h0, h3, hlt, e1, e2]
        simp -implicitDefEqProofs [cleanB, all_not hlt (show cleanC s[k] = false by simp [cleanC, e2'])]
      · have e1' : 32 ≤ (s[k].toNat : Int) := by omega
        have e2' : (s[k].toNat : Int) ≤ 126 := by omega
        simp -implicitDefEqProofs [h0, h3, hlt, e1, e2]
        refine ⟨by omega, again hlt ⟨by simp [h0], by simp, ?_⟩⟩
        exact all_take hlt hall (by simp [cleanC, e1', e2'])
  · simp -implicitDefEqProofs [h0, h3, hlt]
    rw [List.take_of_length_le (by omega)] at hall
    simp -implicitDefEqProofs [cleanB, h1', h2', hh, hl, ha', hb']
    exact hall

theorem same_fn (l m : List Str) (hl : l.length < 1000000) (hm : m.length < 1000000) : Ctr Tryz.prog 18 [.d (strs l), .d (strs m)] (.d (.bool (decide (l = m)))) := by
  refine fn_of_vwp (fun _ => false) (by kernel_rfl) Tryz.func18 (by kernel_rfl) rfl rfl (Nat.le_of_ble_eq_true rfl) (by kernel_rfl) rfl rfl ?_
  by_cases hlm : l.length = m.length
  · simp -implicitDefEqProofs [strs, hlm]
    refine loopN m.length (fun k τ => τ 0 = .d (strs l) ∧ τ 1 = .d (strs m) ∧ τ 5 = .d (.int .i64 k) ∧ l.take k = m.take k) (by simp [strs]) ?_
    rintro k τ hk ⟨h0, h1, h5, ht⟩
    by_cases hlt : k < m.length
    · have hlt' : k < l.length := by omega
      by_cases he : l[k] = m[k]
      · simp -implicitDefEqProofs [h0, h1, h5, strs, hlm, hlt, hlt', he]
        refine ⟨by omega, again hlt ⟨by simp [h0, strs], by simp [h1, strs], by simp, ?_⟩⟩
        rw [take_s hlt, take_s hlt', ht, he]
      · simp -implicitDefEqProofs [h0, h1, h5, strs, hlm, hlt, hlt', he]
        rintro rfl
        exact he rfl
    · simp -implicitDefEqProofs [h0, h1, h5, strs, hlm, hlt]
      rw [List.take_of_length_le (by omega), List.take_of_length_le (by omega)] at ht
      first | exact ⟨by omega, ht⟩ | exact ht
  · have hlm' : ¬ (l.length : Int) = m.length := by omega
    simp -implicitDefEqProofs [strs, hlm']
    rintro rfl
    exact hlm rfl
end Go.Proofs.Tz

namespace Go.Proofs.Tz
open Go.Vw
set_option maxRecDepth 100000
set_option maxHeartbeats 4000000
set_option linter.unusedSimpArgs false

/-- One step of Insert. -/
def insS (s : Str) (r : Bool × List Str) (x : Str) : Bool × List Str :=
  (r.1 || !Op.bytesLess x s, r.2 ++ (if r.1 = false ∧ Op.bytesLess x s = false then [s] else []) ++ (if x = s then [] else [x]))
def insF (s : Str) (l : List Str) : Bool × List Str := l.foldl (insS s) (false, [])
def ins (l : List Str) (s : Str) : List Str := (insF s l).2 ++ (if (insF s l).1 then [] else [s])

theorem insF_take {s : Str} {l : List Str} {k : Nat} (h : k < l.length) : insF s (l.take (k + 1)) = insS s (insF s (l.take k)) l[k] := by
  rw [take_s h]; simp only [insF, List.foldl_append, List.foldl_cons, List.foldl_nil]
theorem insF_len (s : Str) : ∀ (l : List Str) (r : Bool × List Str), (l.foldl (insS s) r).2.length ≤ r.2.length + 2 * l.length
  | [], r => by simp
  | x :: l, r => by
    have := insF_len s l (insS s r x)
    simp only [List.foldl_cons, List.length_cons]
    have h2 : (insS s r x).2.length ≤ r.2.length + 2 := by
      simp only [insS, List.length_append]
      split <;> split <;> simp <;> omega
    all_goals omega
theorem insF_len' (s : Str) (l : List Str) : (insF s l).2.length ≤ 2 * l.length := by simpa [insF] using insF_len s l (false, [])

theorem ins_fn (l : List Str) (s : Str) (hl : l.length < 1000000) : Ctr Tryz.prog 46 [.d (strs l), .d (.str s)] (.own true 9 ((ins l s).map .str)) := by
  refine fn_of_vwp (fun i => decide (i < 1000000)) (by kernel_rfl) Tryz.func46 (by kernel_rfl) rfl rfl (Nat.le_of_ble_eq_true rfl) (by kernel_rfl) rfl rfl ?_
  simp -implicitDefEqProofs
  refine loopN l.length (fun k τ => τ 0 = .d (strs l) ∧ τ 1 = .d (.str s) ∧ τ 6 = .d (.bool (insF s (l.take k)).1) ∧ τ 5 = .own true 9 ((insF s (l.take k)).2.map .str) ∧ τ 7 = .d (.int .i64 k)) (by simp [insF]) ?_
  rintro k τ hk ⟨h0, h1, h6, h5, h7⟩
  have hlen := insF_len' s (l.take k)
  rw [List.length_take, Nat.min_eq_left hk] at hlen
  have ht := fun h => insF_take (s := s) (l := l) (k := k) h
  generalize hr : insF s (l.take k) = r at *
  obtain ⟨d, out⟩ := r
  simp only at hlen h6 h5
  by_cases hlt : k < l.length
  · have ht := ht hlt
    cases d with
    | true =>
      by_cases he : l[k] = s
      · simp -implicitDefEqProofs [h0, h1, h6, h5, h7, strs, hlt, he]
        refine ⟨by omega, again hlt ⟨by simp [h0, strs], by simp [h1], ?_, ?_, by simp⟩⟩
        · rw [ht]; simp [h6, insS]
        · rw [ht]; simp [h5, insS, he]
      · simp -implicitDefEqProofs [h0, h1, h6, h5, h7, strs, hlt, he]
        refine ⟨by omega, by omega, by omega, again hlt ⟨by simp [h0, strs], by simp [h1], ?_, ?_, by simp⟩⟩
        · rw [ht]; simp [h6, insS]
        · rw [ht]; simp [h5, insS, he]
    | false =>
      by_cases hb : Op.bytesLess l[k] s = true
      · by_cases he : l[k] = s
        · have hb' : Op.bytesLess s s = true := by rw [he] at hb; exact hb
          simp -implicitDefEqProofs [h0, h1, h6, h5, h7, strs, hlt, he, hb']
          refine ⟨by omega, again hlt ⟨by simp [h0, strs], by simp [h1], ?_, ?_, by simp⟩⟩
          · rw [ht]; simp [h6, insS, he, hb']
          · rw [ht]; simp [h5, insS, he, hb']
        · simp -implicitDefEqProofs [h0, h1, h6, h5, h7, strs, hlt, he, hb]
          refine ⟨by omega, by omega, by omega, again hlt ⟨by simp [h0, strs], by simp [h1], ?_, ?_, by simp⟩⟩
          · rw [ht]; simp [h6, insS, he, hb]
          · rw [ht]; simp [h5, insS, he, hb]
      · by_cases he : l[k] = s
        · have hb' : Op.bytesLess s s = false := by rw [he] at hb; simpa using hb
          simp -implicitDefEqProofs [h0, h1, h6, h5, h7, strs, hlt, he, hb']
          refine ⟨by omega, by omega, by omega, again hlt ⟨by simp [h0, strs], by simp [h1], ?_, ?_, by simp⟩⟩
          · rw [ht]; simp [h6, insS, he, hb']
          · rw [ht]; simp [h5, insS, he, hb']
        · simp -implicitDefEqProofs [h0, h1, h6, h5, h7, strs, hlt, he, hb]
          refine ⟨by omega, by omega, by omega, by omega, by omega, again hlt ⟨by simp [h0, strs], by simp [h1], ?_, ?_, by simp⟩⟩
          · rw [ht]; simp [h6, insS, he, hb]
          · rw [ht]; simp [h5, insS, he, hb]
  · rw [List.take_of_length_le (by omega)] at hr
    cases d with
    | true =>
      simp -implicitDefEqProofs [h0, h1, h6, h5, h7, strs, hlt, ins, hr]
      all_goals omega
    | false =>
      simp -implicitDefEqProofs [h0, h1, h6, h5, h7, strs, hlt, ins, hr]
      all_goals omega
end Go.Proofs.Tz

namespace Go.Proofs.Tz
open Go.Vw
set_option maxRecDepth 100000
set_option maxHeartbeats 4000000
set_option linter.unusedSimpArgs false

abbrev Att := Str × List Str
def att (a : Att) : D := .agg [.str a.1, strs a.2]
def atts (l : List Att) : D := .sl (l.map att)

/-- Every string of a list is short enough for the walk. -/
def Fits (l : List Att) : Prop := l.length < 1000000 ∧ ∀ a ∈ l, List.length a.1 < 1000000 ∧ a.2.length < 1000000

/-- The first error of values. -/
def chkV (old : List Str) : List Str → List Str → Int
  | _, [] => 0
  | b, v :: l => if cleanB v = false then 4 else if v ∈ old ∨ v ∈ b then 7 else chkV old (b ++ [v]) l

theorem chkV_drop {old l : List Str} {k : Nat} (h : k < l.length) : chkV old (l.take k) (l.drop k) = if cleanB l[k] = false then 4 else if l[k] ∈ old ∨ l[k] ∈ l.take k then 7 else chkV old (l.take (k + 1)) (l.drop (k + 1)) := by
  rw [List.drop_eq_getElem_cons h, chkV, take_s h]

theorem sameA_fn (l m : List Att) (hl : Fits l) (hm : Fits m) : Ctr Tryz.prog 26 [.d (atts l), .d (atts m)] (.d (.bool (decide (l = m)))) := by
  refine fn_of_vwp (fun _ => false) (by kernel_rfl) Tryz.func26 (by kernel_rfl) rfl rfl (Nat.le_of_ble_eq_true rfl) (by kernel_rfl) rfl rfl ?_
  have hl1 := hl.1
  have hm1 := hm.1
  by_cases hlm : l.length = m.length
  · simp -implicitDefEqProofs [atts, hlm]
    refine loopN m.length (fun k τ => τ 0 = .d (atts l) ∧ τ 1 = .d (atts m) ∧ τ 5 = .d (.int .i64 k) ∧ l.take k = m.take k) (by simp [atts]) ?_
    rintro k τ hk ⟨h0, h1, h5, ht⟩
    by_cases hlt : k < m.length
    · have hlt' : k < l.length := by omega
      by_cases he : l[k].1 = m[k].1
      · simp -implicitDefEqProofs [h0, h1, h5, atts, att, strs, hlm, hlt, hlt', he]
        refine callP (same_fn _ _ (hl.2 _ (List.getElem_mem hlt')).2 (hm.2 _ (List.getElem_mem hlt)).2) ?_
        by_cases he2 : l[k].2 = m[k].2
        · simp -implicitDefEqProofs [h0, h1, h5, atts, att, strs, hlm, hlt, hlt', he, he2]
          refine ⟨by omega, again hlt ⟨by simp [h0, atts, att, strs], by simp [h1, atts, att, strs], by simp, ?_⟩⟩
          rw [take_s hlt, take_s hlt', ht, Prod.ext he he2]
        · simp -implicitDefEqProofs [h0, h1, h5, atts, att, strs, hlm, hlt, hlt', he, he2]
          rintro rfl
          exact he2 rfl
      · simp -implicitDefEqProofs [h0, h1, h5, atts, att, strs, hlm, hlt, hlt', he]
        rintro rfl
        exact he rfl
    · simp -implicitDefEqProofs [h0, h1, h5, atts, hlm, hlt]
      rw [List.take_of_length_le (by omega), List.take_of_length_le (by omega)] at ht
      first | exact ⟨by omega, ht⟩ | exact ht
  · have hlm' : ¬ (l.length : Int) = m.length := by omega
    simp -implicitDefEqProofs [atts, hlm']
    rintro rfl
    exact hlm rfl

/-- The first error of attributes. -/
def chkA : List Att → List Att → Int
  | _, [] => 0
  | b, a :: l => if nameB a.1 = false then 5 else if b.any (fun c => decide (lower c.1 = lower a.1)) then 7 else if a.2.length = 0 then 6 else if 16 < a.2.length then 3
      else if chkV [] [] a.2 ≠ 0 then chkV [] [] a.2 else chkA (b ++ [a]) l
def checkL (l : List Att) : Int := if 32 < l.length then 3 else chkA [] l
theorem chkA_drop {l : List Att} {k : Nat} (h : k < l.length) : chkA (l.take k) (l.drop k) = if nameB l[k].1 = false then 5 else if (l.take k).any (fun c => decide (lower c.1 = lower l[k].1)) then 7 else if l[k].2.length = 0 then 6 else if 16 < l[k].2.length then 3
      else if chkV [] [] l[k].2 ≠ 0 then chkV [] [] l[k].2 else chkA (l.take (k + 1)) (l.drop (k + 1)) := by
  rw [List.drop_eq_getElem_cons h, chkA, take_s h]

end Go.Proofs.Tz

namespace Go.Proofs.Tz
open Go.Vw
set_option maxRecDepth 100000
set_option maxHeartbeats 4000000
set_option linter.unusedSimpArgs false

theorem insF_len2 (s : Str) : ∀ (l : List Str) (r : Bool × List Str) (c : Nat), r.2.length ≤ c + r.1.toNat → (l.foldl (insS s) r).2.length ≤ c + l.length + (l.foldl (insS s) r).1.toNat
  | [], _, _, h => h
  | x :: l, (d, out), c, h => by
    have h2 : (insS s (d, out) x).2.length ≤ (c + 1) + (insS s (d, out) x).1.toNat := by
      simp only at h
      cases d <;> by_cases hb : Op.bytesLess x s = true <;> by_cases he : x = s <;> simp [insS, hb, he] at h ⊢ <;> first
        | omega
        | (split <;> simp <;> omega)
    have := insF_len2 s l (insS s (d, out) x) (c + 1) h2
    simp only [List.foldl_cons, List.length_cons]; omega
theorem ins_len (l : List Str) (s : Str) : (ins l s).length ≤ l.length + 1 := by
  have : (insF s l).2.length ≤ 0 + l.length + (insF s l).1.toNat := insF_len2 s l (false, []) 0 (by simp)
  simp only [ins, List.length_append]
  cases h : (insF s l).1 <;> simp [h] at this ⊢ <;> omega

def namesS (ns : List Str) (a : Att) : List Str := if a.2 = [] then ns else ins ns (lower a.1)
def namesF (l : List Att) : List Str := l.foldl namesS []
def valsS (n : Str) (vs : List Str) (a : Att) : List Str := if lower a.1 = n then a.2.foldl ins vs else vs
def valsF (l : List Att) (n : Str) : List Str := l.foldl (valsS n) []
def sortedL (l : List Att) : List Att := (namesF l).map fun n => (n, valsF l n)

theorem namesF_take {l : List Att} {k : Nat} (h : k < l.length) : namesF (l.take (k + 1)) = namesS (namesF (l.take k)) l[k] := by
  rw [take_s h]; simp only [namesF, List.foldl_append, List.foldl_cons, List.foldl_nil]
theorem valsF_take {l : List Att} {n : Str} {k : Nat} (h : k < l.length) : valsF (l.take (k + 1)) n = valsS n (valsF (l.take k) n) l[k] := by
  rw [take_s h]; simp only [valsF, List.foldl_append, List.foldl_cons, List.foldl_nil]
theorem names_len : ∀ (l : List Att) (ns : List Str), (l.foldl namesS ns).length ≤ ns.length + l.length
  | [], ns => by simp
  | a :: l, ns => by
    have := names_len l (namesS ns a)
    have h2 : (namesS ns a).length ≤ ns.length + 1 := by
      unfold namesS; split
      · omega
      · exact ins_len _ _
    simp only [List.foldl_cons, List.length_cons]; omega
theorem insAll_len : ∀ (l ns : List Str), (l.foldl ins ns).length ≤ ns.length + l.length
  | [], ns => by simp
  | a :: l, ns => by
    have := insAll_len l (ins ns a)
    have := ins_len ns a
    simp only [List.foldl_cons, List.length_cons]; omega
def total (l : List Att) : Nat := (l.map (·.2.length)).sum
theorem vals_len (n : Str) : ∀ (l : List Att) (vs : List Str), (l.foldl (valsS n) vs).length ≤ vs.length + total l
  | [], vs => by simp [total]
  | a :: l, vs => by
    have := vals_len n l (valsS n vs a)
    have h2 : (valsS n vs a).length ≤ vs.length + a.2.length := by
      unfold valsS; split
      · exact insAll_len _ _
      · omega
    simp only [List.foldl_cons, total, List.map_cons, List.sum_cons] at this ⊢
    all_goals omega
def Fit2 (l : List Att) : Prop := Fits l ∧ total l < 500000
theorem total_take (l : List Att) (k : Nat) (h : k < l.length) : total (l.take k) + l[k].2.length ≤ total l := by
  have e : total l = total (l.take k) + (l[k].2.length + total (l.drop (k + 1))) := by
    conv => lhs; rw [← List.take_append_drop k l, List.drop_eq_getElem_cons h]
    simp only [total, List.map_append, List.map_cons, List.sum_append, List.sum_cons]
  all_goals omega

def outA (l : List Att) (ns : List Str) (i : Nat) : List D := ((ns.take i).map fun n => (n, valsF l n)).map att
theorem outA_zero (l : List Att) (ns : List Str) : outA l ns 0 = [] := rfl
theorem outA_succ (l : List Att) {ns : List Str} {i : Nat} (h : i < ns.length) : outA l ns (i + 1) = outA l ns i ++ [.agg [.str ns[i], strs (valsF l ns[i])]] := by
  rw [outA, take_s h]; simp only [List.map_append, List.map_cons, List.map_nil]; rfl
theorem outA_len (l : List Att) {ns : List Str} {i : Nat} (h : i ≤ ns.length) : (outA l ns i).length = i := by simp [outA, Nat.min_eq_left h]
theorem outA_all (l : List Att) (i : Nat) (h : (namesF l).length ≤ i) : outA l (namesF l) i = (sortedL l).map att := by rw [outA, List.take_of_length_le h]; rfl
theorem outA_width (l : List Att) (ns : List Str) (i : Nat) : ∀ u ∈ outA l ns i, width u = 2 := by
  intro u hu
  simp only [outA, List.map_map, List.mem_map] at hu
  obtain ⟨n, _, rfl⟩ := hu
  rfl

theorem sortedR_fn (l : List Att) (hl : Fit2 l) : Ctr Tryz.prog 50 [.d (atts l)] (.own true 50 ((sortedL l).map att)) := by
  refine fn_of_vwp (fun i => i == 5) (by kernel_rfl) Tryz.func50 (by kernel_rfl) rfl rfl (Nat.le_of_ble_eq_true rfl) (by kernel_rfl) rfl rfl ?_
  obtain ⟨⟨hl1, hl2⟩, hl3⟩ := hl
  simp -implicitDefEqProofs
  refine loopN l.length (fun k τ => τ 0 = .d (atts l) ∧ τ 4 = .d (.int .i64 k) ∧ τ 3 = .own false 9 ((namesF (l.take k)).map .str)) (by simp [namesF]) ?_
  rintro k τ hk ⟨h0, h4, h3⟩
  by_cases hlt : k < l.length
  · have hn := names_len (l.take k) []
    rw [List.length_take] at hn
    by_cases he : l[k].2 = []
    · simp -implicitDefEqProofs [h0, h4, h3, hlt, atts, att, strs, he]
      refine ⟨by omega, again hlt ⟨by simp [h0, atts, att, strs], by simp, ?_⟩⟩
      rw [namesF_take hlt]; simp [h3, namesS, he]
    · have he' : 0 < l[k].2.length := List.length_pos_iff.2 he
      simp -implicitDefEqProofs [h0, h4, h3, hlt, atts, att, strs, he']
      refine callK (lower_fn _ (hl2 _ (List.getElem_mem hlt)).1) ?_
      simp -implicitDefEqProofs [h0, h4, h3, hlt, atts, att, strs, he']
      have hf := ins_fn (namesF (l.take k)) (lower l[k].1) (by simp only [List.length_nil] at hn; unfold namesF; omega)
      simp only [strs] at hf
      refine callK hf ?_
      simp -implicitDefEqProofs [h0, h4, h3, hlt, atts, att, strs, he']
      refine ⟨by omega, again hlt ⟨by simp [h0, atts, att, strs], by simp, ?_⟩⟩
      rw [namesF_take hlt]; simp [namesS, he]
  · simp -implicitDefEqProofs [h0, h4, h3, hlt, atts]
    rw [List.take_of_length_le (by omega)] at h3
    have hn := names_len l []
    generalize hN : namesF l = ns at *
    rw [show List.foldl namesS [] l = namesF l from rfl, hN] at hn
    simp only [List.length_nil, Nat.zero_add] at hn
    refine loopN ns.length (fun i τ => τ 0 = .d (atts l) ∧ τ 3 = .own false 9 (ns.map .str) ∧ τ 6 = .d (.int .i64 i) ∧ τ 5 = .own true 50 (outA l ns i)) (by simp [h0, h3, hN, atts, outA_zero]) ?_
    clear h0 h3 h4 τ
    rintro i τ hi ⟨h0, h3, h6, h5⟩
    by_cases hlt2 : i < ns.length
    · simp -implicitDefEqProofs [h0, h3, h5, h6, hlt2, atts, att, strs]
      refine loopN l.length (fun k τ => τ 0 = .d (atts l) ∧ τ 3 = .own false 9 (ns.map .str) ∧ τ 6 = .d (.int .i64 i) ∧ τ 5 = .own true 50 (outA l ns i) ∧ τ 8 = .d (.int .i64 k) ∧ τ 7 = .box (.agg [.str ns[i], strs (valsF (l.take k) ns[i])])) (by simp [h0, h3, h5, h6, hN, atts, att, strs, valsF]) ?_
      clear h0 h3 h6 h5 τ hk hlt k
      rintro k τ hk ⟨h0, h3, h6, h5, h8, h7⟩
      by_cases hlt : k < l.length
      · have hv := vals_len ns[i] (l.take k) []
        have ht := total_take l k hlt
        rw [show (l.take k).foldl (valsS ns[i]) [] = valsF (l.take k) ns[i] from rfl] at hv
        have hst := valsF_take (n := ns[i]) hlt
        generalize valsF (l.take k) ns[i] = vs at *
        simp -implicitDefEqProofs [h0, h3, h5, h6, h7, h8, hlt, hlt2, atts, att, strs]
        refine loopN l[k].2.length (fun j τ => τ 0 = .d (atts l) ∧ τ 3 = .own false 9 (ns.map .str) ∧ τ 6 = .d (.int .i64 i) ∧ τ 5 = .own true 50 (outA l ns i) ∧ τ 8 = .d (.int .i64 k) ∧ τ 9 = .d (.int .i64 j) ∧ τ 7 = .box (.agg [.str ns[i], strs (if lower l[k].1 = ns[i] then (l[k].2.take j).foldl ins vs else vs)])) (by simp [h0, h3, h5, h6, h7, h8, atts, att, strs]) ?_
        clear h0 h3 h6 h5 h8 h7 τ
        rintro j τ hj ⟨h0, h3, h6, h5, h8, h9, h7⟩
        have hal := (hl2 _ (List.getElem_mem hlt))
        by_cases hn : lower l[k].1 = ns[i]
        · rw [if_pos hn] at h7
          by_cases hlt3 : j < l[k].2.length
          · simp -implicitDefEqProofs [h0, h3, h5, h6, h7, h8, h9, hlt, hlt2, hlt3, atts, att, strs]
            refine callP (lower_fn _ hal.1) ?_
            simp -implicitDefEqProofs [h0, h3, h5, h6, h7, h8, h9, hlt, hlt2, hlt3, atts, att, strs, hn]
            have hal2 := insAll_len (l[k].2.take j) vs
            have hf := ins_fn ((l[k].2.take j).foldl ins vs) l[k].2[j] (by simp only [List.length_take, List.length_nil] at hal2 hv; omega)
            simp only [strs] at hf
            refine callP hf ?_
            simp -implicitDefEqProofs [h0, h3, h5, h6, h7, h8, h9, hlt, hlt2, hlt3, atts, att, strs, hn]
            refine ⟨by omega, again hlt3 ⟨by simp [h0, atts, att, strs], by simp [h3], by simp [h6], by simp [h5], by simp [h8], by simp, ?_⟩⟩
            rw [take_s hlt3, List.foldl_append]
            simp -implicitDefEqProofs [strs]
          · simp -implicitDefEqProofs [h0, h3, h5, h6, h7, h8, h9, hlt, hlt2, hlt3, atts, att, strs]
            refine callP (lower_fn _ hal.1) ?_
            simp -implicitDefEqProofs [h0, h3, h5, h6, h7, h8, h9, hlt, hlt2, hlt3, atts, att, strs, hn]
            refine ⟨by omega, again hlt ⟨by simp [h0, atts, att, strs], by simp [h3], by simp [h6], by simp [h5], by simp, ?_⟩⟩
            rw [hst, valsS, if_pos hn]
            rw [List.take_of_length_le (by omega)] at h7
            simp -implicitDefEqProofs [h7, strs]
        · rw [if_neg hn] at h7
          simp -implicitDefEqProofs [h0, h3, h5, h6, h7, h8, h9, hlt, hlt2, atts, att, strs]
          refine callP (lower_fn _ hal.1) ?_
          simp (config := { maxSteps := 1000000 }) [h0, h3, h5, h6, h7, h8, h9, hlt, hlt2, atts, att, strs, hn]
          refine ⟨by omega, again hlt ⟨by simp [h0, atts, att, strs], by simp [h3], by simp [h6], by simp [h5], by simp, ?_⟩⟩
          rw [hst, valsS, if_neg hn]
          simp -implicitDefEqProofs [h7, strs]
      · have hw := outA_width l ns i
        rw [List.take_of_length_le (by omega)] at h7
        simp -implicitDefEqProofs [h0, h3, h5, h6, h7, h8, hlt, hlt2, atts, att, strs]
        rw [outA_len l hi]
        refine ⟨by omega, by omega, by omega, again hlt2 ⟨by simp [h0, atts, att, strs], by simp [h3], by simp, ?_⟩⟩
        simp -implicitDefEqProofs [outA_succ l hlt2, strs]
    · simp -implicitDefEqProofs [h0, h3, h5, h6, hlt2, atts, att, strs]
      rw [← hN]; exact outA_all l i (by rw [hN]; omega)
end Go.Proofs.Tz

namespace Go.Proofs.Tz
open Go.Vw
set_option maxRecDepth 100000
set_option maxHeartbeats 4000000
set_option linter.unusedSimpArgs false

theorem upper_fn (c : UInt8) : Ctr Tryz.prog 79 [.d (u8 c)] (.d (.bool (decide (65 ≤ (c.toNat : Int)) && decide ((c.toNat : Int) ≤ 90)))) := by
  refine fn_of_vwp (fun _ => false) (by kernel_rfl) Tryz.func79 (by kernel_rfl) rfl rfl (Nat.le_of_ble_eq_true rfl) (by kernel_rfl) rfl rfl ?_
  by_cases h1 : 65 ≤ (c.toNat : Int) <;> simp [u8, h1]
theorem fletter_fn (c : UInt8) : Ctr Tryz.prog 74 [.d (u8 c)] (.d (.bool (isLetter c))) := by
  refine fn_of_vwp (fun _ => false) (by kernel_rfl) Tryz.func74 (by kernel_rfl) rfl rfl (Nat.le_of_ble_eq_true rfl) (by kernel_rfl) rfl rfl ?_
  simp -implicitDefEqProofs
  refine callK (upper_fn c) ?_
  by_cases h1 : 97 ≤ (c.toNat : Int) <;> by_cases h2 : (c.toNat : Int) ≤ 122 <;> by_cases h3 : 65 ≤ (c.toNat : Int) <;> by_cases h4 : (c.toNat : Int) ≤ 90 <;> simp -implicitDefEqProofs [u8, isLetter, h1, h2, h3, h4]
theorem fdigit_fn (c : UInt8) : Ctr Tryz.prog 75 [.d (u8 c)] (.d (.bool (isDigit c))) := by
  refine fn_of_vwp (fun _ => false) (by kernel_rfl) Tryz.func75 (by kernel_rfl) rfl rfl (Nat.le_of_ble_eq_true rfl) (by kernel_rfl) rfl rfl ?_
  by_cases h1 : 48 ≤ (c.toNat : Int) <;> simp [u8, isDigit, h1]
theorem allowed_fn (c : UInt8) : Ctr Tryz.prog 73 [.d (u8 c)] (.d (.bool (nameC c))) := by
  refine fn_of_vwp (fun _ => false) (by kernel_rfl) Tryz.func73 (by kernel_rfl) rfl rfl (Nat.le_of_ble_eq_true rfl) (by kernel_rfl) rfl rfl ?_
  simp -implicitDefEqProofs [u8]
  refine callK (fletter_fn c) ?_
  by_cases h1 : isLetter c = true
  · simp -implicitDefEqProofs [h1, nameC]
  · simp -implicitDefEqProofs [h1]
    refine callK (fdigit_fn c) ?_
    by_cases h2 : isDigit c = true <;> by_cases h3 : (c.toNat : Int) = 45 <;> simp [h1, h2, h3, nameC]
end Go.Proofs.Tz

namespace Go.Proofs.Tz
open Go.Vw
set_option maxRecDepth 100000
set_option maxHeartbeats 4000000
set_option linter.unusedSimpArgs false

def findA (n : Str) : List Att → List Str
  | [] => []
  | a :: l => if a.1 = n then a.2 else findA n l
def getL (l : List Att) (name : Str) : List Str := findA (lower name) (sortedL l)
theorem findA_drop {n : Str} {l : List Att} {k : Nat} (h : k < l.length) : findA n (l.drop k) = if l[k].1 = n then l[k].2 else findA n (l.drop (k + 1)) := by
  rw [List.drop_eq_getElem_cons h, findA]
theorem sorted_len (l : List Att) : (sortedL l).length ≤ l.length := by
  have := names_len l []
  simp only [List.length_nil, Nat.zero_add] at this
  simpa [sortedL, namesF] using this
theorem sorted_vals (l : List Att) : ∀ a ∈ sortedL l, a.2.length ≤ total l := by
  intro a ha
  simp only [sortedL, List.mem_map] at ha
  obtain ⟨n, _, rfl⟩ := ha
  simpa [valsF] using vals_len n l []
theorem findA_len (n : Str) (c : Nat) : ∀ (l : List Att), (∀ a ∈ l, a.2.length ≤ c) → (findA n l).length ≤ c
  | [], _ => by simp [findA]
  | a :: l, h => by
    rw [findA]
    split
    · exact h a (by simp)
    · exact findA_len n c l fun b hb => h b (by simp [hb])
theorem getL_len (l : List Att) (n : Str) : (getL l n).length ≤ total l := findA_len _ _ _ (sorted_vals l)

theorem getR_fn (l : List Att) (name : Str) (hl : Fit2 l) (hn : List.length name < 1000000) : Ctr Tryz.prog 51 [.d (atts l), .d (.str name)] (.d (strs (getL l name))) := by
  refine fn_of_vwp (fun _ => false) (by kernel_rfl) Tryz.func51 (by kernel_rfl) rfl rfl (Nat.le_of_ble_eq_true rfl) (by kernel_rfl) rfl rfl ?_
  simp -implicitDefEqProofs
  refine callK (sortedR_fn l hl) ?_
  have hs := sorted_len l
  have hl1 := hl.1.1
  generalize hS : sortedL l = s at *
  simp -implicitDefEqProofs
  refine loopN s.length (fun k τ => τ 1 = .d (.str name) ∧ τ 5 = .own false 50 (s.map att) ∧ τ 6 = .d (.int .i64 k) ∧ getL l name = findA (lower name) (s.drop k)) (by simp [getL, hS]) ?_
  rintro k τ hk ⟨h1, h5, h6, hg⟩
  by_cases hlt : k < s.length
  · rw [findA_drop hlt] at hg
    simp -implicitDefEqProofs [h1, h5, h6, hlt, att, strs]
    refine callP (lower_fn _ hn) ?_
    by_cases he : s[k].1 = lower name
    · simp -implicitDefEqProofs [h1, h5, h6, hlt, att, strs, he]
      rw [hg, if_pos he]
    · simp -implicitDefEqProofs [h1, h5, h6, hlt, att, strs, he]
      refine ⟨by omega, again hlt ⟨by simp [h1], by simp [h5], by simp, ?_⟩⟩
      rw [hg, if_neg he]
  · simp -implicitDefEqProofs [h1, h5, h6, hlt, att, strs]
    rw [hg, List.drop_eq_nil_of_le (by omega)]
    simp [findA]

def firsts (s : List Att) : List D := s.map fun a => .str a.1
theorem firsts_len (s : List Att) : (firsts s).length = s.length := by simp [firsts]
theorem firsts_take {s : List Att} {k : Nat} (h : k < s.length) : firsts (s.take (k + 1)) = firsts (s.take k) ++ [.str s[k].1] := by
  rw [take_s h]; simp only [firsts, List.map_append, List.map_cons, List.map_nil]

theorem made_fn (s : Str) (hs : List.length s < 1000000) : Ctr Tryz.prog 72 [.d (.str s), .d (.clo 73 [])] (.d (.bool (s.all nameC && decide (s ≠ []) && decide (s.length ≤ 64)))) := by
  refine fn_of_vwp (fun _ => false) (by kernel_rfl) Tryz.func72 (by kernel_rfl) rfl rfl (Nat.le_of_ble_eq_true rfl) (by kernel_rfl) rfl rfl ?_
  simp -implicitDefEqProofs
  refine loopN (List.length s) (fun k τ => τ 0 = .d (.str s) ∧ τ 1 = .d (.clo 73 []) ∧ τ 7 = .d (.int .i64 (List.length s)) ∧ τ 8 = .d (.int .i64 k) ∧ ∀ x ∈ s.take k, nameC x = true) (by simp) ?_
  rintro k τ hk ⟨h0, h1, h7, h8, ha⟩
  by_cases hlt : k < List.length s
  · simp -implicitDefEqProofs [h0, h1, h7, h8, hlt]
    refine callK (allowed_fn s[k]) ?_
    by_cases e1 : nameC s[k] = true
    · simp -implicitDefEqProofs [h0, h1, h7, h8, hlt, e1]
      exact ⟨by omega, again hlt ⟨by simp [h0], by simp [h1], by simp [h7], by simp, all_take hlt ha e1⟩⟩
    · simp -implicitDefEqProofs [h0, h1, h7, h8, hlt, e1]
      intro h
      exact absurd (h _ (List.getElem_mem hlt)) e1
  · rw [List.take_of_length_le (by omega)] at ha
    have hall : List.all s nameC = true := by simpa using ha
    by_cases e2 : s = []
    · simp -implicitDefEqProofs [h0, h1, h7, h8, hlt, e2]
    · simp -implicitDefEqProofs [h0, h1, h7, h8, hlt, e2, hall]
      all_goals omega

theorem fname_fn (s : Str) (hs : List.length s < 1000000) : Ctr Tryz.prog 40 [.d (.str s)] (.d (.bool (nameB s))) := by
  refine fn_of_vwp (fun _ => false) (by kernel_rfl) Tryz.func40 (by kernel_rfl) rfl rfl (Nat.le_of_ble_eq_true rfl) (by kernel_rfl) rfl rfl ?_
  simp -implicitDefEqProofs
  refine callK (made_fn s hs) ?_
  by_cases e : (s.all nameC && decide (s ≠ []) && decide (s.length ≤ 64)) = true
  · have e0 := e
    simp only [Bool.and_eq_true, decide_eq_true_eq] at e
    obtain ⟨⟨e1, e2⟩, e3⟩ := e
    obtain ⟨c, t, rfl⟩ := List.exists_cons_of_ne_nil e2
    simp only [e0]
    simp -implicitDefEqProofs
    refine callK (fletter_fn c) ?_
    have e4 : (List.length (c :: t)) ≤ 64 := e3
    simp -implicitDefEqProofs [nameB, e1, e4]
    intro _
    simpa using e4
  · rw [Bool.not_eq_true] at e
    simp only [e]
    simp -implicitDefEqProofs [nameB]
    intro h1 h2 _
    have hne : s ≠ [] := by
      rintro rfl
      simp at h1
    simpa [hne, h2] using e
end Go.Proofs.Tz

/- Words. -/
set_option maxRecDepth 100000
set_option maxHeartbeats 4000000
set_option linter.unusedVariables false
set_option linter.unusedSimpArgs false
namespace Go.Proofs.Tz
open Go.Vw Go.RowKit Go.Proofs

def wordC (c : UInt8) : Bool := isLetter c || isDigit c || decide ((c.toNat : Int) = 45) || decide ((c.toNat : Int) = 95) || decide ((c.toNat : Int) = 46) || decide ((c.toNat : Int) = 58)
def wordB (s : Str) : Bool := s.all wordC && decide (1 ≤ s.length) && decide (s.length ≤ 64)

theorem allowedW_fn (c : UInt8) : Ctr Tryz.prog 83 [.d (u8 c)] (.d (.bool (wordC c))) := by
  refine fn_of_vwp (fun _ => false) (by kernel_rfl) Tryz.func83 (by kernel_rfl) rfl rfl (Nat.le_of_ble_eq_true rfl) (by kernel_rfl) rfl rfl ?_
  simp -implicitDefEqProofs [u8]
  refine callK (fletter_fn c) ?_
  by_cases h1 : isLetter c = true
  · simp -implicitDefEqProofs [u8, h1, wordC]
  · simp -implicitDefEqProofs [u8, h1]
    refine callK (fdigit_fn c) ?_
    by_cases h2 : isDigit c = true
    · simp -implicitDefEqProofs [u8, h1, h2, wordC]
    by_cases h3 : (c.toNat : Int) = 45
    · simp -implicitDefEqProofs [u8, h1, h2, h3, wordC]
    by_cases h4 : (c.toNat : Int) = 95
    · simp -implicitDefEqProofs [u8, h1, h2, h3, h4, wordC]
    by_cases h5 : (c.toNat : Int) = 46
    · simp -implicitDefEqProofs [u8, h1, h2, h3, h4, h5, wordC]
    · simp -implicitDefEqProofs [u8, h1, h2, h3, h4, h5, wordC]

theorem madeW_fn (s : Str) (hs : List.length s < 1000000) : Ctr Tryz.prog 72 [.d (.str s), .d (.clo 83 [])] (.d (.bool (wordB s))) := by
  refine fn_of_vwp (fun _ => false) (by kernel_rfl) Tryz.func72 (by kernel_rfl) rfl rfl (Nat.le_of_ble_eq_true rfl) (by kernel_rfl) rfl rfl ?_
  simp -implicitDefEqProofs
  refine loopN (List.length s) (fun k τ => τ 0 = .d (.str s) ∧ τ 1 = .d (.clo 83 []) ∧ τ 7 = .d (.int .i64 (List.length s)) ∧ τ 8 = .d (.int .i64 k) ∧ ∀ x ∈ s.take k, wordC x = true) (by simp) ?_
  rintro k τ hk ⟨h0, h1, h7, h8, ha⟩
  by_cases hlt : k < List.length s
  · simp -implicitDefEqProofs [h0, h1, h7, h8, hlt]
    refine callK (allowedW_fn s[k]) ?_
    by_cases e1 : wordC s[k] = true
    · simp -implicitDefEqProofs [h0, h1, h7, h8, hlt, e1]
      exact ⟨by omega, again hlt ⟨by simp [h0], by simp [h1], by simp [h7], by simp, all_take hlt ha e1⟩⟩
    · have e2 : wordB s = false := by simp [wordB, all_not hlt (show wordC s[k] = false by simpa using e1)]
      simp -implicitDefEqProofs [h0, h1, h7, h8, hlt, e1, e2]
  · rw [List.take_of_length_le (by omega)] at ha
    have hall : List.all s wordC = true := by simpa using ha
    by_cases e2 : s = []
    · simp -implicitDefEqProofs [h0, h1, h7, h8, hlt, e2, wordB]
    · have e3 : 1 ≤ List.length s := List.length_pos_iff.2 e2
      simp -implicitDefEqProofs [h0, h1, h7, h8, hlt, e2, hall, wordB, e3]
      all_goals omega

theorem fword_fn (s : Str) (hs : List.length s < 1000000) : Ctr Tryz.prog 52 [.d (.str s)] (.d (.bool (wordB s))) := by
  refine fn_of_vwp (fun _ => false) (by kernel_rfl) Tryz.func52 (by kernel_rfl) rfl rfl (Nat.le_of_ble_eq_true rfl) (by kernel_rfl) rfl rfl ?_
  simp -implicitDefEqProofs
  refine callK (madeW_fn s hs) ?_
  simp -implicitDefEqProofs

theorem word_fn (s : Str) (hs : List.length s < 1000000) : Ctr Tryz.prog 53 [.d (.str s)] (.d (.bool (wordB s))) := by
  refine fn_of_vwp (fun _ => false) (by kernel_rfl) Tryz.func53 (by kernel_rfl) rfl rfl (Nat.le_of_ble_eq_true rfl) (by kernel_rfl) rfl rfl ?_
  simp -implicitDefEqProofs
  refine loopN (List.length s) (fun k τ => τ 0 = .d (.str s) ∧ τ 3 = .d (.int .i64 k) ∧ ∀ x ∈ s.take k, wordC x = true) (by simp) ?_
  rintro k τ hk ⟨h0, h3, ha⟩
  by_cases hlt : k < List.length s
  · have fin : wordC s[k] = true → ∀ x ∈ s.take (k + 1), wordC x = true := fun e => all_take hlt ha e
    simp -implicitDefEqProofs [h0, h3, hlt]
    refine callK (letter_fn s[k]) ?_
    by_cases e1 : isLetter s[k] = true
    · simp -implicitDefEqProofs [h0, h3, hlt, e1]
      exact ⟨by omega, again hlt ⟨by simp [h0], by simp, fin (by simp [wordC, e1])⟩⟩
    simp -implicitDefEqProofs [h0, h3, hlt, e1]
    refine callK (digit_fn s[k]) ?_
    by_cases e2 : isDigit s[k] = true
    · simp -implicitDefEqProofs [h0, h3, hlt, e2]
      exact ⟨by omega, again hlt ⟨by simp [h0], by simp, fin (by simp [wordC, e2])⟩⟩
    by_cases e3 : (s[k].toNat : Int) = 45
    · simp -implicitDefEqProofs [h0, h3, hlt, e2, e3]
      exact ⟨by omega, again hlt ⟨by simp [h0], by simp, fin (by simp [wordC, e3])⟩⟩
    by_cases e4 : (s[k].toNat : Int) = 95
    · simp -implicitDefEqProofs [h0, h3, hlt, e2, e3, e4]
      exact ⟨by omega, again hlt ⟨by simp [h0], by simp, fin (by simp [wordC, e4])⟩⟩
    by_cases e5 : (s[k].toNat : Int) = 46
    · simp -implicitDefEqProofs [h0, h3, hlt, e2, e3, e4, e5]
      exact ⟨by omega, again hlt ⟨by simp [h0], by simp, fin (by simp [wordC, e5])⟩⟩
    by_cases e6 : (s[k].toNat : Int) = 58
    · simp -implicitDefEqProofs [h0, h3, hlt, e2, e3, e4, e5, e6]
      exact ⟨by omega, again hlt ⟨by simp [h0], by simp, fin (by simp [wordC, e6])⟩⟩
    · have e7 : wordB s = false := by simp [wordB, all_not hlt (show wordC s[k] = false by simp [wordC, e1, e2, e3, e4, e5, e6])]
      simp -implicitDefEqProofs [h0, h3, hlt, e2, e3, e4, e5, e6, e7]
  · rw [List.take_of_length_le (by omega)] at ha
    have hall : List.all s wordC = true := by simpa using ha
    by_cases h1 : (1 : Int) ≤ (List.length s : Int)
    · have h1' : 1 ≤ List.length s := by omega
      simp -implicitDefEqProofs [h0, h3, hlt, hall, wordB, h1, h1']
      all_goals omega
    · have h1' : ¬ 1 ≤ List.length s := by omega
      simp -implicitDefEqProofs [h0, h3, hlt, hall, wordB, h1, h1']
      all_goals omega
end Go.Proofs.Tz

namespace Go.Proofs.Tz
open Go.Vw
set_option maxRecDepth 100000
set_option maxHeartbeats 4000000
set_option linter.unusedSimpArgs false

theorem lowc_not {c : UInt8} (h : ¬ (65 ≤ (c.toNat : Int) ∧ (c.toNat : Int) ≤ 90)) : lowc c = c := if_neg h

def halfL (s : Str) (k : Nat) : List D := ((lower (s.take k)) ++ s.drop k).map u8
theorem halfL_len (s : Str) (k : Nat) (h : k ≤ List.length s) : (halfL s k).length = List.length s := by simp [halfL, lower]; omega
theorem halfL_get (s : Str) (k : Nat) (h : k < List.length s) : (halfL s k)[k]? = some (u8 s[k]) := by
  have hl : (lower (s.take k)).length = k := by simp [lower]; omega
  simp only [halfL, List.getElem?_map]
  rw [List.getElem?_append_right (by omega), hl, Nat.sub_self]
  simp [h]
theorem halfL_set (s : Str) (k : Nat) (h : k < List.length s) : (halfL s k).set k (u8 (lowc s[k])) = halfL s (k + 1) := by
  have hl : (lower (s.take k)).length = k := by simp [lower]; omega
  simp only [halfL, ← List.map_set]
  rw [List.set_append_right _ _ (by omega), hl, Nat.sub_self, List.drop_eq_getElem_cons h, List.set_cons_zero, take_s h]
  simp only [lower, List.map_append, List.map_cons, List.map_nil, List.append_assoc, List.singleton_append]

theorem foldLower_fn (s : Str) (hs : List.length s < 1000000) : Ctr Tryz.prog 43 [.d (.str s)] (.d (.str (lower s))) := by
  refine fn_of_vwp (fun i => decide (i < 1000000)) (by kernel_rfl) Tryz.func43 (by kernel_rfl) rfl rfl (Nat.le_of_ble_eq_true rfl) (by kernel_rfl) rfl rfl ?_
  simp -implicitDefEqProofs
  refine ⟨by omega, ?_⟩
  refine loopN (List.length s) (fun k τ => τ 9 = .d (.int .i64 k) ∧ τ 8 = .d (.int .i64 (List.length s)) ∧ τ 3 = .own true 100005 (halfL s k)) (by simp [halfL, lower, bytesD, u8]) ?_
  rintro k τ hk ⟨h9, h8, h3⟩
  have hlen := halfL_len s k hk
  by_cases hlt : k < List.length s
  · have hg := halfL_get s k hlt
    have hset := halfL_set s k hlt
    generalize halfL s k = M at *
    have hlt2 : k < M.length := by omega
    have hg2 : M[k] = u8 s[k] := (List.getElem?_eq_some_iff.1 hg).2
    simp -implicitDefEqProofs [h9, h8, h3, hlt, hlt2, hg2, u8]
    refine callK (upper_fn _) ?_
    by_cases h1 : 65 ≤ (s[k].toNat : Int) ∧ (s[k].toNat : Int) ≤ 90
    · simp -implicitDefEqProofs [h9, h8, h3, hlt, hlt2, hg2, u8, h1.1, h1.2]
      have e : u8 (lowc s[k]) = .int .u8 ((s[k].toNat : Int) + 32) := by
        simp only [u8, lowc_toNat _ h1.1 h1.2]; congr 1; omega
      rw [e] at hset
      exact ⟨by omega, by omega, again hlt ⟨by simp, by simp [h8], by simp [hset]⟩⟩
    · have hb : (decide (65 ≤ (s[k].toNat : Int)) && decide ((s[k].toNat : Int) ≤ 90)) = false := by simpa using h1
      simp -implicitDefEqProofs [h9, h8, h3, hlt, hlt2, hg2, u8, hb]
      rw [lowc_not h1, ← hg2, List.set_getElem_self] at hset
      exact ⟨by omega, again hlt ⟨by simp, by simp [h8], by simp [h3, hset]⟩⟩
  · simp -implicitDefEqProofs [h9, h8, h3, hlt]
    have e : halfL s k = bytesD (lower s) := by
      have : k = List.length s := by omega
      subst this
      simp [halfL, bytesD, u8]
    simp -implicitDefEqProofs [e, h3]
end Go.Proofs.Tz

namespace Go.Proofs.Tz
open Go.Vw
set_option maxRecDepth 100000
set_option maxHeartbeats 4000000
set_option linter.unusedSimpArgs false

theorem u8ne {x c : UInt8} (h : ¬ x = c) : ¬ ((x.toNat : Int) = c.toNat) := fun e => h (UInt8.toNat_inj.1 (by omega))

def trimLB (c : UInt8) (s : Str) : Str := s.dropWhile fun x => decide (x = c)
def trimRB (c : UInt8) (s : Str) : Str := (s.reverse.dropWhile fun x => decide (x = c)).reverse

theorem trimL_fn (s : Str) (c : UInt8) : Ctr Tryz.prog 136 [.d (.str s), .d (u8 c)] (.d (.str (trimLB c s))) := by
  refine fn_of_vwp (fun _ => false) (by kernel_rfl) Tryz.func136 (by kernel_rfl) rfl rfl (Nat.le_of_ble_eq_true rfl) (by kernel_rfl) rfl rfl ?_
  simp -implicitDefEqProofs [u8]
  refine loopK (fun n τ => ∃ t : Str, n = t.length ∧ τ 0 = .d (.str t) ∧ τ 1 = .d (.int .u8 c.toNat) ∧ trimLB c t = trimLB c s) s.length ⟨s, rfl, by simp, by simp, rfl⟩ ?_
  rintro n τ ⟨t, rfl, h0, h1, ht⟩
  cases t with
  | nil =>
    simp -implicitDefEqProofs [h0, h1]
    rw [← ht]; rfl
  | cons x t =>
    by_cases hx : x = c
    · subst hx
      simp -implicitDefEqProofs [h0, h1]
      exact ⟨_, by omega, t, rfl, rfl, by rw [← ht, trimLB, trimLB, List.dropWhile_cons, if_pos (by simp)]⟩
    · have := u8ne hx
      simp -implicitDefEqProofs [h0, h1, this]
      rw [← ht, trimLB, List.dropWhile_cons, if_neg (by simp [hx])]

theorem trimRB_last {c : UInt8} {t : Str} (h : 0 < List.length t) : trimRB c t = if t[List.length t - 1] = c then trimRB c (t.take (List.length t - 1)) else t := by
  have e : t = t.take (List.length t - 1) ++ [t[List.length t - 1]] := by
    have := take_s (l := t) (k := List.length t - 1) (by omega)
    rw [show List.length t - 1 + 1 = List.length t by omega, List.take_length] at this
    exact this
  conv => lhs; rw [e]
  rw [trimRB, List.reverse_append, List.reverse_singleton, List.singleton_append, List.dropWhile_cons]
  by_cases hx : t[List.length t - 1] = c
  · rw [if_pos (by simpa using hx), if_pos hx, trimRB]
  · rw [if_neg (by simpa using hx), if_neg hx, List.reverse_cons, List.reverse_reverse]
    exact e.symm

theorem trimR_fn (s : Str) (c : UInt8) (hs : List.length s < 1000000) : Ctr Tryz.prog 137 [.d (.str s), .d (u8 c)] (.d (.str (trimRB c s))) := by
  refine fn_of_vwp (fun _ => false) (by kernel_rfl) Tryz.func137 (by kernel_rfl) rfl rfl (Nat.le_of_ble_eq_true rfl) (by kernel_rfl) rfl rfl ?_
  simp -implicitDefEqProofs [u8]
  refine loopK (fun n τ => ∃ t : Str, n = t.length ∧ τ 0 = .d (.str t) ∧ τ 1 = .d (.int .u8 c.toNat) ∧ List.length t < 1000000 ∧ trimRB c t = trimRB c s) s.length ⟨s, rfl, by simp, by simp, hs, rfl⟩ ?_
  rintro n τ ⟨t, rfl, h0, h1, hl, ht⟩
  by_cases hpos : 0 < List.length t
  · have hi : 0 ≤ (List.length t : Int) - 1 := by omega
    have hi2 : ((List.length t : Int) - 1).toNat = List.length t - 1 := by omega
    have hi3 : List.length t - 1 < List.length t := by omega
    have hi4 : -9223372036854775808 ≤ (List.length t : Int) - 1 := by omega
    have hi5 : (List.length t : Int) - 1 ≤ 9223372036854775807 := by omega
    have hi6 : 1 ≤ (List.length t : Int) := by omega
    have hz : ¬ t = [] := fun e => by subst e; simp at hpos
    rw [trimRB_last hpos] at ht
    by_cases hx : t[List.length t - 1] = c
    · rw [if_pos hx] at ht
      simp -implicitDefEqProofs [h0, h1, hpos, hi, hi2, hi3, hi4, hi5, hi6, hx, hz]
      exact ⟨List.length t - 1, by omega, t.take (List.length t - 1), by rw [List.length_take]; omega, rfl, by rw [List.length_take]; omega, ht⟩
    · have := u8ne hx
      rw [if_neg hx] at ht
      simp -implicitDefEqProofs [h0, h1, hpos, hi, hi2, hi3, hi4, hi5, hi6, this, hz]
      exact ht
  · obtain rfl : t = [] := List.eq_nil_of_length_eq_zero (by omega)
    simp -implicitDefEqProofs [h0, h1]
    rw [← ht]; rfl

def trimB (s : Str) : Str := trimLB 32 (trimRB 32 s)
theorem trim102_fn (s : Str) (hs : List.length s < 1000000) : Ctr Tryz.prog 112 [.d (.str s), .d (.str [32])] (.d (.str (trimB s))) := by
  refine fn_of_vwp (fun _ => false) (by kernel_rfl) Tryz.func112 (by kernel_rfl) rfl rfl (Nat.le_of_ble_eq_true rfl) (by kernel_rfl) rfl rfl ?_
  by_cases hz : s = []
  · subst hz
    simp -implicitDefEqProofs
    try rfl
  simp -implicitDefEqProofs [hz]
  have h1 : Ctr Tryz.prog 137 [.d (.str s), .d (.int .u8 32)] (.d (.str (trimRB 32 s))) := trimR_fn s 32 hs
  have h2 : Ctr Tryz.prog 136 [.d (.str (trimRB 32 s)), .d (.int .u8 32)] (.d (.str (trimB s))) := trimL_fn (trimRB 32 s) 32
  refine callP h1 ?_
  simp -implicitDefEqProofs [hz]
  refine callP h2 ?_
  simp -implicitDefEqProofs [hz]
theorem trim_fn (s : Str) (hs : List.length s < 1000000) : Ctr Tryz.prog 82 [.d (.str s)] (.d (.str (trimB s))) := by
  refine fn_of_vwp (fun _ => false) (by kernel_rfl) Tryz.func82 (by kernel_rfl) rfl rfl (Nat.le_of_ble_eq_true rfl) (by kernel_rfl) rfl rfl ?_
  simp -implicitDefEqProofs
  refine callK (trim102_fn s hs) ?_
  simp -implicitDefEqProofs

/-- The runes of a string. -/
def runes (s : Str) (pos : Nat) : Nat := (Go.Utf8.decode ⟨s.toArray⟩ pos).1
def cleanF (s : Str) : Bool := s.all cleanC && decide (s ≠ []) && decide (List.length s ≤ 256) && decide (trimB s = s)

theorem dec_lo {s : Str} {k : Nat} (h : k < List.length s) (hc : s[k].toNat < 128) : Go.Utf8.decode ⟨s.toArray⟩ k = (s[k].toNat, 1) := by
  have hb : k < (⟨s.toArray⟩ : ByteArray).size := by simpa [ByteArray.size] using h
  have e : (⟨s.toArray⟩ : ByteArray)[k]'hb = s[k] := rfl
  have := decode_ascii ⟨s.toArray⟩ k hb (by rw [e]; exact hc)
  rw [e] at this
  exact this
theorem dec_hi {s : Str} {k : Nat} (h : k < List.length s) (hc : 128 ≤ s[k].toNat) : 128 ≤ (Go.Utf8.decode ⟨s.toArray⟩ k).1 := by
  have hb : k < (⟨s.toArray⟩ : ByteArray).size := by simpa [ByteArray.size] using h
  have e : (⟨s.toArray⟩ : ByteArray)[k]'hb = s[k] := rfl
  exact (decode_high ⟨s.toArray⟩ k hb (by rw [e]; exact hc)).1

theorem trimLB_len (c : UInt8) (s : Str) : List.length (trimLB c s) ≤ List.length s := (List.dropWhile_sublist _).length_le
theorem trimRB_len (c : UInt8) (s : Str) : List.length (trimRB c s) ≤ List.length s := by
  have := (List.dropWhile_sublist (fun x : UInt8 => decide (x = c)) (l := s.reverse)).length_le
  simpa [trimRB] using this
theorem trimB_iff {s : Str} (h : 0 < List.length s) : trimB s = s ↔ s[0] ≠ 32 ∧ s[List.length s - 1] ≠ 32 := by
  constructor
  · intro e
    have h1 := trimLB_len 32 (trimRB 32 s)
    have h2 := trimRB_len 32 s
    have h3 : List.length (trimB s) = List.length s := by rw [e]
    rw [trimB] at h3
    have hr : s[List.length s - 1] ≠ 32 := by
      intro h4
      rw [trimRB_last h, if_pos h4] at h3 h1
      have h5 := trimRB_len 32 (s.take (List.length s - 1))
      rw [List.length_take] at h5
      omega
    refine ⟨fun h4 => ?_, hr⟩
    rw [trimB, trimRB_last h, if_neg hr] at e
    cases s with
    | nil => simp at h
    | cons x t =>
      simp only [List.getElem_cons_zero] at h4
      rw [trimLB, List.dropWhile_cons, if_pos (by simp [h4])] at e
      have := trimLB_len 32 t
      rw [trimLB, e, List.length_cons] at this
      omega
  · rintro ⟨h1, h2⟩
    rw [trimB, trimRB_last h, if_neg h2]
    cases s with
    | nil => rfl
    | cons x t => rw [trimLB, List.dropWhile_cons, if_neg (by simpa using h1)]
theorem cleanF_eq (s : Str) : cleanF s = cleanB s := by
  by_cases h : 0 < List.length s
  · have hne : s ≠ [] := fun e => by subst e; simp at h
    have hh : s.head? = some s[0] := by simp [List.head?_eq_getElem?, h]
    have hl : s.getLast? = some s[List.length s - 1] := by rw [List.getLast?_eq_getElem?, List.getElem?_eq_getElem (by omega)]
    rw [Bool.eq_iff_iff]
    simp only [cleanF, cleanB, Bool.and_eq_true, decide_eq_true_eq, trimB_iff h, hh, hl, bne_iff_ne, ne_eq, Option.some.injEq]
    have : 1 ≤ List.length s := h
    constructor
    · rintro ⟨⟨⟨a, b⟩, c⟩, d, e⟩; exact ⟨⟨⟨⟨this, c⟩, d⟩, e⟩, a⟩
    · rintro ⟨⟨⟨⟨_, c⟩, d⟩, e⟩, a⟩; exact ⟨⟨⟨a, hne⟩, c⟩, d, e⟩
  · obtain rfl : s = [] := List.eq_nil_of_length_eq_zero (by omega)
    rfl

theorem fclean_fn (s : Str) (hs : List.length s < 1000000) : Ctr Tryz.prog 47 [.d (.str s)] (.d (.bool (cleanF s))) := by
  refine fn_of_vwp (fun _ => false) (by kernel_rfl) Tryz.func47 (by kernel_rfl) rfl rfl (Nat.le_of_ble_eq_true rfl) (by kernel_rfl) rfl rfl ?_
  simp -implicitDefEqProofs
  refine loopN (List.length s) (fun k τ => τ 0 = .d (.str s) ∧ τ 6 = .iter s k ∧ ∀ x ∈ s.take k, cleanC x = true) (by simp) ?_
  rintro k τ hk ⟨h0, h6, hall⟩
  by_cases hlt : k < List.length s
  · by_cases ha : s[k].toNat < 128
    · have hd := dec_lo hlt ha
      by_cases e1 : (s[k].toNat : Int) < 32
      · have e1' : ¬ 32 ≤ (s[k].toNat : Int) := by omega
        simp -implicitDefEqProofs [h0, h6, hlt, hd, e1]
        simp [cleanF, all_not hlt (show cleanC s[k] = false by simp [cleanC, e1'])]
      · by_cases e2 : 126 < (s[k].toNat : Int)
        · have e2' : ¬ (s[k].toNat : Int) ≤ 126 := by omega
          simp -implicitDefEqProofs [h0, h6, hlt, hd, e1, e2]
          simp [cleanF, all_not hlt (show cleanC s[k] = false by simp [cleanC, e2'])]
        · have e1' : 32 ≤ (s[k].toNat : Int) := by omega
          have e2' : (s[k].toNat : Int) ≤ 126 := by omega
          simp -implicitDefEqProofs [h0, h6, hlt, hd, e1, e2]
          exact again hlt ⟨by simp [h0], by simp, all_take hlt hall (by simp [cleanC, e1', e2'])⟩
    · have hd := dec_hi hlt (by omega)
      have e1 : ¬ ((Go.Utf8.decode ⟨s.toArray⟩ k).1 : Int) < 32 := by omega
      have e2 : 126 < ((Go.Utf8.decode ⟨s.toArray⟩ k).1 : Int) := by omega
      have e2' : ¬ (s[k].toNat : Int) ≤ 126 := by omega
      simp -implicitDefEqProofs [h0, h6, hlt, e1, e2]
      simp [cleanF, all_not hlt (show cleanC s[k] = false by simp [cleanC, e2'])]
  · rw [List.take_of_length_le (by omega)] at hall
    have hall' : s.all cleanC = true := List.all_eq_true.2 hall
    by_cases hz : s = []
    · subst hz
      simp -implicitDefEqProofs [h0, h6, cleanF]
    · by_cases h2 : (List.length s : Int) ≤ 256
      · have h2' : List.length s ≤ 256 := by omega
        simp -implicitDefEqProofs [h0, h6, hlt, hz, h2]
        refine callK (trim_fn s hs) ?_
        simp -implicitDefEqProofs [h0, h6, hlt, hz, h2, cleanF, hall', h2']
      · have h2' : ¬ List.length s ≤ 256 := by omega
        simp -implicitDefEqProofs [h0, h6, hlt, hz, h2, cleanF, h2']
end Go.Proofs.Tz

/- Forms of rules. -/
set_option maxRecDepth 100000
set_option maxHeartbeats 4000000
set_option linter.unusedVariables false
set_option linter.unusedSimpArgs false
namespace Go.Proofs.Tz
open Go.Vw Go.RowKit Go.Proofs

abbrev nConst : Str := [99, 111, 110, 115, 116]
/-- A form: its name, whether it has a parameter, its function. -/
abbrev Form := Str × Bool × Nat
def formsL : List Form := [([99, 111, 112, 121], false, 94), ([108, 111, 119, 101, 114], false, 95), ([102, 105, 114, 115, 116], false, 97), ([99, 111, 110, 115, 116], true, 98), ([106, 111, 105, 110], true, 92), ([112, 114, 101, 102, 105, 120], true, 99)]
def formD (f : Form) : D := .agg [.str f.1, .bool f.2.1, .clo f.2.2 []]
def printB (s : Str) : Bool := s.all cleanC && decide (s.length ≤ 256)
def paramB (n v : Str) : Bool := if n = nConst then cleanB v else printB v
def fitB (c : Str × Str × Bool) (f : Form) : Bool := decide (f.1 = c.1) && decide (f.2.1 = c.2.2) && (!c.2.2 || paramB c.1 c.2.1)
/-- The form that a text names, and its parameter. -/
def parsedF (s : Str) : Option (Form × Str) := (formsL.find? (fitB (cutB s 58))).map fun f => (f, (cutB s 58).2.1)

theorem forms_fn : Ctr Tryz.prog 70 [] (.own true 76 (formsL.map formD)) := by
  refine fn_of_vwp (fun i => decide (i < 1000000)) (by kernel_rfl) Tryz.func70 (by kernel_rfl) rfl rfl (Nat.le_of_ble_eq_true rfl) (by kernel_rfl) rfl rfl ?_
  simp -implicitDefEqProofs [formsL, formD]
  rfl

theorem printable_fn (s : Str) (hs : List.length s < 1000000) : Ctr Tryz.prog 78 [.d (.str s)] (.d (.bool (printB s))) := by
  refine fn_of_vwp (fun _ => false) (by kernel_rfl) Tryz.func78 (by kernel_rfl) rfl rfl (Nat.le_of_ble_eq_true rfl) (by kernel_rfl) rfl rfl ?_
  simp -implicitDefEqProofs
  refine loopN (List.length s) (fun k τ => τ 0 = .d (.str s) ∧ τ 3 = .d (.int .i64 k) ∧ ∀ x ∈ s.take k, cleanC x = true) (by simp) ?_
  rintro k τ hk ⟨h0, h3, ha⟩
  by_cases hlt : k < List.length s
  · by_cases e1 : (s[k].toNat : Int) < 32
    · have e2 : printB s = false := by simp [printB, all_not hlt (show cleanC s[k] = false by simp [cleanC]; omega)]
      simp -implicitDefEqProofs [h0, h3, hlt, e1, e2]
    by_cases e3 : 126 < (s[k].toNat : Int)
    · have e2 : printB s = false := by simp [printB, all_not hlt (show cleanC s[k] = false by simp [cleanC]; omega)]
      simp -implicitDefEqProofs [h0, h3, hlt, e1, e2, e3]
    · simp -implicitDefEqProofs [h0, h3, hlt, e1, e3]
      exact ⟨by omega, again hlt ⟨by simp [h0], by simp, all_take hlt ha (by simp [cleanC]; omega)⟩⟩
  · rw [List.take_of_length_le (by omega)] at ha
    have hall : List.all s cleanC = true := by simpa using ha
    simp -implicitDefEqProofs [h0, h3, hlt, printB, hall]
    omega

theorem parameter_fn (n v : Str) (hv : List.length v < 1000000) : Ctr Tryz.prog 71 [.d (.str n), .d (.str v)] (.d (.bool (paramB n v))) := by
  refine fn_of_vwp (fun _ => false) (by kernel_rfl) Tryz.func71 (by kernel_rfl) rfl rfl (Nat.le_of_ble_eq_true rfl) (by kernel_rfl) rfl rfl ?_
  by_cases hn : n = nConst
  · simp -implicitDefEqProofs [hn]
    refine callK (fclean_fn v hv) ?_
    simp -implicitDefEqProofs [paramB, cleanF_eq]
  have hpb : paramB n v = printB v := by rw [paramB, if_neg hn]
  simp -implicitDefEqProofs [hn]
  refine loopN (List.length v) (fun k τ => τ 1 = .d (.str v) ∧ τ 11 = .d (.int .i64 (List.length v)) ∧ τ 12 = .d (.int .i64 k) ∧ ∀ x ∈ v.take k, cleanC x = true) (by simp) ?_
  rintro k τ hk ⟨h1, h11, h12, ha⟩
  by_cases hlt : k < List.length v
  · by_cases e1 : (v[k].toNat : Int) < 32
    · have e2 : printB v = false := by simp [printB, all_not hlt (show cleanC v[k] = false by simp [cleanC]; omega)]
      simp -implicitDefEqProofs [h1, h11, h12, hlt, e1, e2, hpb]
    by_cases e3 : 126 < (v[k].toNat : Int)
    · have e2 : printB v = false := by simp [printB, all_not hlt (show cleanC v[k] = false by simp [cleanC]; omega)]
      simp -implicitDefEqProofs [h1, h11, h12, hlt, e1, e2, e3, hpb]
    · simp -implicitDefEqProofs [h1, h11, h12, hlt, e1, e3]
      exact ⟨by omega, again hlt ⟨by simp [h1], by simp [h11], by simp, all_take hlt ha (by simp [cleanC]; omega)⟩⟩
  · rw [List.take_of_length_le (by omega)] at ha
    have hall : List.all v cleanC = true := by simpa using ha
    simp -implicitDefEqProofs [h1, h11, h12, hlt, printB, hall, hpb]
    omega

def zForm : D := .agg [.str [], .bool false, .raw .nilFunc]
def parseT (s : Str) : D × Str × Bool := match parsedF s with
  | some (f, v) => (formD f, v, true)
  | none => (zForm, [], false)

theorem find_take {α : Type} {p : α → Bool} {l : List α} {k : Nat} (h : k < l.length) (hn : ∀ x ∈ l.take k, p x = false) (hp : p l[k] = true) : l.find? p = some l[k] := by
  rw [List.find?_eq_some_iff_getElem]
  refine ⟨hp, k, h, rfl, fun j hj => ?_⟩
  have : l[j] ∈ l.take k := by rw [List.mem_take_iff_getElem]; exact ⟨j, by omega, rfl⟩
  rw [hn _ this]; rfl

def NoF (c : Str × Str × Bool) (k : Nat) : Prop := ∀ f ∈ formsL.take k, fitB c f = false

theorem parse_fn (s : Str) (hs : List.length s < 1000000) : Ctr Tryz.prog 39 [.d (.str s)] (.tup [.d (parseT s).1, .d (.str (parseT s).2.1), .d (.bool (parseT s).2.2)]) := by
  refine fn_of_vwpN (rv := .cell 2 76) (rs := [.tmp 3, .tmp 4]) (r := .d (parseT s).1) (ys := [.d (.str (parseT s).2.1), .d (.bool (parseT s).2.2)]) (fun _ => false) (by kernel_rfl) Tryz.func39 (by kernel_rfl) rfl rfl (by simp) (Nat.le_of_ble_eq_true rfl) (by kernel_rfl) rfl rfl ?_
  obtain ⟨c, hc⟩ : ∃ c, cutB s 58 = c := ⟨_, rfl⟩
  have hvl : List.length c.2.1 < 1000000 := by
    rw [← hc, cutB]
    split
    · simp; omega
    · simp
  have hcut := cut_fn s 58 (by omega)
  rw [hc] at hcut
  simp -implicitDefEqProofs
  refine callK hcut ?_
  simp -implicitDefEqProofs
  refine callK forms_fn ?_
  simp -implicitDefEqProofs
  refine loopN 6 (fun k τ => τ 2 = .box zForm ∧ τ 5 = .d (.str c.1) ∧ τ 6 = .d (.str c.2.1) ∧ τ 7 = .d (.bool c.2.2) ∧ τ 16 = .own false 76 (formsL.map formD) ∧ τ 17 = .d (.int .i64 6) ∧ τ 18 = .d (.int .i64 k) ∧ NoF c k) ?_ ?_
  · refine ⟨by simp [zForm], by simp, by simp, by simp, by simp, by simp [formsL], by simp, by simp [NoF]⟩
  rintro k τ hk ⟨h2, h5, h6, h7, h16, h17, h18, hn⟩
  by_cases hlt : k < 6
  · have hlt' : (k : Int) < 6 := by omega
    have hl : k < formsL.length := by simpa [formsL] using hlt
    obtain ⟨f, hf⟩ : ∃ f, formsL[k] = f := ⟨_, rfl⟩
    have hfk : formsL[k]? = some f := by rw [List.getElem?_eq_getElem hl, hf]
    have hno : fitB c f = false → NoF c (k + 1) := fun e g hg => by
      rw [take_s hl, List.mem_append, List.mem_singleton] at hg
      rcases hg with hg | hg
      · exact hn g hg
      · rw [hg, hf]; exact e
    have hyes : fitB c f = true → parsedF s = some (f, c.2.1) := fun e => by
      have := find_take hl hn (by rw [hf]; exact e)
      simp [parsedF, hc, this, hf]
    simp -implicitDefEqProofs [h2, h5, h6, h7, h16, h17, h18, hlt', hl, hf, formD]
    by_cases e1 : f.1 = c.1
    · by_cases e2 : f.2.1 = c.2.2
      · by_cases e3 : c.2.2 = false
        · have e4 := hyes (by simp [fitB, e1, e2, e3])
          simp -implicitDefEqProofs [h2, h5, h6, h7, h16, h17, h18, e1, e2, e3, zForm, parseT, e4, formD]
        · have e3' : c.2.2 = true := by simpa using e3
          simp -implicitDefEqProofs [h2, h5, h6, h7, h16, h17, h18, e1, e2, e3']
          refine callK (parameter_fn c.1 c.2.1 hvl) ?_
          by_cases e5 : paramB c.1 c.2.1 = true
          · have e4 := hyes (by simp [fitB, e1, e2, e3', e5])
            simp -implicitDefEqProofs [h2, h5, h6, h7, h16, h17, h18, e1, e2, e3', e5, zForm, parseT, e4, formD]
          · have e4 := hno (by simp [fitB, e1, e2, e3', e5])
            simp -implicitDefEqProofs [h2, h5, h6, h7, h16, h17, h18, e1, e2, e3', e5]
            refine ⟨by omega, again hlt ⟨by simp [h2], by simp [h5], by simp [h6], by simp [h7, e3'], by simp [h16], by simp [h17], by simp, e4⟩⟩
      · have e4 := hno (by simp [fitB, e2])
        simp -implicitDefEqProofs [h2, h5, h6, h7, h16, h17, h18, e1, e2]
        refine ⟨by omega, again hlt ⟨by simp [h2], by simp [h5], by simp [h6], by simp [h7], by simp [h16], by simp [h17], by simp, e4⟩⟩
    · have e4 := hno (by simp [fitB, e1])
      simp -implicitDefEqProofs [h2, h5, h6, h7, h16, h17, h18, e1]
      refine ⟨by omega, again hlt ⟨by simp [h2], by simp [h5], by simp [h6], by simp [h7], by simp [h16], by simp [h17], by simp, e4⟩⟩
  · have hk6 : k = 6 := by omega
    subst hk6
    have hnone : parsedF s = none := by
      have : formsL.find? (fitB c) = none := List.find?_eq_none.2 (fun f hf => by simpa using hn f hf)
      simp [parsedF, hc, this]
    simp -implicitDefEqProofs [h2, h5, h6, h7, h16, h17, h18, zForm, parseT, hnone]
end Go.Proofs.Tz

/- Rules: the reference's form, Check in both. -/
set_option maxRecDepth 100000
set_option maxHeartbeats 4000000
set_option linter.unusedVariables false
set_option linter.unusedSimpArgs false
namespace Go.Proofs.Tz
open Go.Vw Go.RowKit Go.Proofs

theorem drop_c {α : Type} {l : List α} {k : Nat} (h : k < l.length) : l.drop k = l[k] :: l.drop (k + 1) := List.drop_eq_getElem_cons h

abbrev nCopy : Str := [99, 111, 112, 121]
abbrev nLower : Str := [108, 111, 119, 101, 114]
abbrev nFirst : Str := [102, 105, 114, 115, 116]
abbrev nJoin : Str := [106, 111, 105, 110]
abbrev nPrefix : Str := [112, 114, 101, 102, 105, 120]

/-- The reference's form: kind, parameter, whether it is one. -/
def formR (s : Str) : Str × Str × Bool :=
  if s = nCopy ∨ s = nLower ∨ s = nFirst then (s, [], true)
  else if 0 ≤ ixB s 58 then (s.take (ixB s 58).toNat, s.drop ((ixB s 58).toNat + 1),
    if s.take (ixB s 58).toNat = nConst then cleanB (s.drop ((ixB s 58).toNat + 1)) else (decide (s.take (ixB s 58).toNat = nJoin) || decide (s.take (ixB s 58).toNat = nPrefix)) && printB (s.drop ((ixB s 58).toNat + 1)))
  else ([], [], false)

theorem u8_58 (c : UInt8) : ((c.toNat : Int) = 58) ↔ c = 58 := u8_int c 58 (by omega)

theorem form_fn (s : Str) (hs : List.length s < 1000000) : Ctr Tryz.prog 42 [.d (.str s)] (.tup [.d (.str (formR s).1), .d (.str (formR s).2.1), .d (.bool (formR s).2.2)]) := by
  refine fn_of_vwpN (rv := .tmp 2) (rs := [.tmp 3, .tmp 4]) (r := .d (.str (formR s).1)) (ys := [.d (.str (formR s).2.1), .d (.bool (formR s).2.2)]) (fun _ => false) (by kernel_rfl) Tryz.func42 (by kernel_rfl) rfl rfl (by simp) (Nat.le_of_ble_eq_true rfl) (by kernel_rfl) rfl rfl ?_
  by_cases h1 : s = nCopy
  · have e : formR s = (s, [], true) := if_pos (.inl h1)
    rw [e]; subst h1
    simp -implicitDefEqProofs
  by_cases h2 : s = nLower
  · have e : formR s = (s, [], true) := if_pos (.inr (.inl h2))
    rw [e]; subst h2
    simp -implicitDefEqProofs
  by_cases h3 : s = nFirst
  · have e : formR s = (s, [], true) := if_pos (.inr (.inr h3))
    rw [e]; subst h3
    simp -implicitDefEqProofs
  simp -implicitDefEqProofs [h1, h2, h3]
  refine loopN (List.length s) (fun k τ => τ 0 = .d (.str s) ∧ τ 5 = .d (.int .i64 k) ∧ (58 : UInt8) ∉ s.take k) (by simp) ?_
  rintro k τ hk ⟨h0, h5, hn⟩
  by_cases hlt : k < List.length s
  · by_cases h58 : (s[k].toNat : Int) = 58
    · have h58' := (u8_58 _).1 h58
      have hix : ixB s 58 = k := ixB_at hlt h58' hn
      have e : formR s = (s.take k, s.drop (k + 1), if s.take k = nConst then cleanB (s.drop (k + 1)) else (decide (s.take k = nJoin) || decide (s.take k = nPrefix)) && printB (s.drop (k + 1))) := by
        rw [formR, if_neg (by simp [h1, h2, h3]), if_pos (by omega), hix, Int.toNat_natCast]
      have i1 : (0 : Int) ≤ (k : Int) + 1 := by omega
      have j1 : ((k : Int) + 1).toNat = k + 1 := by omega
      have t1 : List.take (List.length s - (k + 1)) (List.drop (k + 1) s) = List.drop (k + 1) s := List.take_of_length_le (by simp)
      rw [e]
      have hdl : List.length (List.drop (k + 1) s) < 1000000 := by simp; omega
      generalize hkind : List.take k s = kind
      generalize hv : List.drop (k + 1) s = v at *
      simp -implicitDefEqProofs [h0, h5, hlt, h58, i1, j1, hkind, hv, t1]
      refine ⟨by omega, by omega, by omega, ?_⟩
      by_cases c1 : kind = nConst
      · simp -implicitDefEqProofs [h0, h5, hlt, c1]
        refine callK (clean_fn v) ?_
        simp -implicitDefEqProofs [h0, h5, hlt, c1]
      by_cases c2 : kind = nJoin
      · simp -implicitDefEqProofs [h0, h5, hlt, c2]
        refine callK (printable_fn v hdl) ?_
        simp -implicitDefEqProofs [h0, h5, hlt, c2]
      by_cases c3 : kind = nPrefix
      · simp -implicitDefEqProofs [h0, h5, hlt, c3]
        refine callK (printable_fn v hdl) ?_
        simp -implicitDefEqProofs [h0, h5, hlt, c3]
      · simp -implicitDefEqProofs [h0, h5, hlt, c1, c2, c3]
    · have hne : s[k] ≠ 58 := fun e => h58 ((u8_58 _).2 e)
      simp -implicitDefEqProofs [h0, h5, hlt, h58]
      refine ⟨by omega, again hlt ⟨by simp [h0], by simp, ?_⟩⟩
      rw [take_s hlt, List.mem_append, List.mem_singleton]
      rintro (h | h)
      · exact hn h
      · exact hne h.symm
  · rw [List.take_of_length_le (by omega)] at hn
    have hix := ixB_no hn
    have e : formR s = ([], [], false) := by rw [formR, if_neg (by simp [h1, h2, h3]), if_neg (by omega)]
    rw [e]
    simp -implicitDefEqProofs [h0, h5, hlt]

theorem formR_eq (s : Str) : match parsedF s with
    | some (f, v) => formR s = (f.1, v, true)
    | none => (formR s).2.2 = false := by
  unfold parsedF formR cutB
  by_cases h : 0 ≤ ixB s 58
  · have n1 : s ≠ nCopy := fun e => by subst e; revert h; decide
    have n2 : s ≠ nLower := fun e => by subst e; revert h; decide
    have n3 : s ≠ nFirst := fun e => by subst e; revert h; decide
    have hn : ¬ (s = nCopy ∨ s = nLower ∨ s = nFirst) := by simp [n1, n2, n3]
    rw [if_pos h, if_neg hn, if_pos h]
    generalize s.take (ixB s 58).toNat = kind
    generalize s.drop ((ixB s 58).toNat + 1) = v
    by_cases c1 : kind = nConst
    · subst c1
      by_cases hc : cleanB v = true <;> simp [formsL, fitB, paramB, hc, List.find?]
    by_cases c2 : kind = nJoin
    · subst c2
      by_cases hc : printB v = true <;> simp [formsL, fitB, paramB, hc, List.find?]
    by_cases c3 : kind = nPrefix
    · subst c3
      by_cases hc : printB v = true <;> simp [formsL, fitB, paramB, hc, List.find?]
    · have e1 : ¬ nConst = kind := fun e => c1 e.symm
      have e2 : ¬ nJoin = kind := fun e => c2 e.symm
      have e3 : ¬ nPrefix = kind := fun e => c3 e.symm
      simp [formsL, fitB, paramB, List.find?, c1, c2, c3, e1, e2, e3]
  · rw [if_neg h, if_neg h]
    by_cases c1 : s = nCopy
    · subst c1; simp [formsL, fitB, List.find?]
    by_cases c2 : s = nLower
    · subst c2; simp [formsL, fitB, List.find?]
    by_cases c3 : s = nFirst
    · subst c3; simp [formsL, fitB, List.find?]
    · have e1 : ¬ nCopy = s := fun e => c1 e.symm
      have e2 : ¬ nLower = s := fun e => c2 e.symm
      have e3 : ¬ nFirst = s := fun e => c3 e.symm
      simp [formsL, fitB, List.find?, c1, c2, c3, e1, e2, e3]

/-- A rule: target, source, form. -/
abbrev Rule := Str × Str × Str
def ruleD (r : Rule) : D := .agg [.str r.1, .str r.2.1, .str r.2.2]
def rules (l : List Rule) : D := .sl (l.map ruleD)
def FitR (l : List Rule) : Prop := l.length < 1000000 ∧ ∀ r ∈ l, List.length r.1 < 1000000 ∧ List.length r.2.1 < 1000000 ∧ List.length r.2.2 < 1000000
def chkRule (r : Rule) : Int :=
  if nameB r.1 = false then 5 else match parsedF r.2.2 with
    | none => 4
    | some (f, _) => if f.1 = nConst then (if r.2.1 = [] then 0 else 4) else if nameB r.2.1 = false then 5 else 0
def chkRs : List Rule → Int
  | [] => 0
  | r :: l => if chkRule r = 0 then chkRs l else chkRule r
def checkM (l : List Rule) : Int := if 64 < l.length then 3 else chkRs l

theorem chkRs_drop {l : List Rule} {k : Nat} (h : k < l.length) : chkRs (l.drop k) = if chkRule l[k] = 0 then chkRs (l.drop (k + 1)) else chkRule l[k] := by rw [drop_c h]; rfl

theorem mcheck_fn (l : List Rule) (hl : FitR l) : Ctr Tryz.prog 15 [.d (rules l)] (.d (.int .i64 (checkM l))) := by
  refine fn_of_vwp (fun _ => false) (by kernel_rfl) Tryz.func15 (by kernel_rfl) rfl rfl (Nat.le_of_ble_eq_true rfl) (by kernel_rfl) rfl rfl ?_
  by_cases h64 : 64 < l.length
  · have h64' : (64 : Int) < l.length := by omega
    simp -implicitDefEqProofs [rules, checkM, h64, h64']
  have h64' : ¬ (64 : Int) < l.length := by omega
  have hcM : checkM l = chkRs l := if_neg h64
  rw [hcM]
  simp -implicitDefEqProofs [rules, h64']
  refine loopN l.length (fun k τ => τ 11 = .d (.sl (l.map ruleD)) ∧ τ 12 = .d (.int .i64 l.length) ∧ τ 13 = .d (.int .i64 k) ∧ chkRs l = chkRs (l.drop k)) (by simp) ?_
  rintro k τ hk ⟨h11, h12, h13, hc⟩
  by_cases hlt : k < l.length
  · obtain ⟨f1, f2, f3⟩ := hl.2 l[k] (List.getElem_mem hlt)
    rw [chkRs_drop hlt] at hc
    have hlt' : (k : Int) < l.length := by omega
    generalize hr : l[k] = r at *
    obtain ⟨T, S, F⟩ := r
    simp only at f1 f2 f3
    simp -implicitDefEqProofs [h11, h12, h13, hlt, hlt', ruleD, hr]
    refine callK (parse_fn F f3) ?_
    cases hp : parsedF F with
    | none =>
      simp -implicitDefEqProofs [h11, h12, h13, hlt, hlt', parseT, hp, zForm]
      refine callK (fname_fn T f1) ?_
      by_cases n1 : nameB T = true
      · simp -implicitDefEqProofs [h11, h12, h13, hlt, hlt', n1]
        simp [hc, chkRule, n1, hp]
      · have n1' : nameB T = false := by simpa using n1
        simp -implicitDefEqProofs [h11, h12, h13, hlt, hlt', n1']
        simp [hc, chkRule, n1']
    | some fv =>
      obtain ⟨⟨fn, fp, fc⟩, v⟩ := fv
      simp -implicitDefEqProofs [h11, h12, h13, hlt, hlt', parseT, hp, formD]
      refine callK (fname_fn T f1) ?_
      by_cases n1 : nameB T = true
      · by_cases c1 : fn = nConst
        · by_cases c2 : S = []
          · simp -implicitDefEqProofs [h11, h12, h13, hlt, hlt', n1, c1, c2]
            refine ⟨by omega, again hlt ⟨by simp [h11], by simp [h12], by simp, ?_⟩⟩
            simpa [chkRule, n1, hp, c1, c2] using hc
          · simp -implicitDefEqProofs [h11, h12, h13, hlt, hlt', n1, c1, c2]
            simp [hc, chkRule, n1, hp, c1, c2]
        · simp -implicitDefEqProofs [h11, h12, h13, hlt, hlt', n1, c1]
          refine callK (fname_fn S f2) ?_
          by_cases n2 : nameB S = true
          · simp -implicitDefEqProofs [h11, h12, h13, hlt, hlt', n2]
            refine ⟨by omega, again hlt ⟨by simp [h11], by simp [h12], by simp, ?_⟩⟩
            simpa [chkRule, n1, hp, c1, n2] using hc
          · have n2' : nameB S = false := by simpa using n2
            simp -implicitDefEqProofs [h11, h12, h13, hlt, hlt', n2']
            simp [hc, chkRule, n1, hp, c1, n2']
      · have n1' : nameB T = false := by simpa using n1
        simp -implicitDefEqProofs [h11, h12, h13, hlt, hlt', n1']
        simp [hc, chkRule, n1']
  · rw [List.drop_of_length_le (by omega)] at hc
    have hlt' : ¬ (k : Int) < l.length := by omega
    simp -implicitDefEqProofs [h11, h12, h13, hlt, hlt', hc, chkRs]

theorem mcheckR_fn (l : List Rule) (hl : FitR l) : Ctr Tryz.prog 16 [.d (rules l)] (.d (.int .i64 (checkM l))) := by
  refine fn_of_vwp (fun _ => false) (by kernel_rfl) Tryz.func16 (by kernel_rfl) rfl rfl (Nat.le_of_ble_eq_true rfl) (by kernel_rfl) rfl rfl ?_
  by_cases h64 : 64 < l.length
  · have h64' : (64 : Int) < l.length := by omega
    simp -implicitDefEqProofs [rules, checkM, h64, h64']
  have h64' : ¬ (64 : Int) < l.length := by omega
  have hcM : checkM l = chkRs l := if_neg h64
  rw [hcM]
  simp -implicitDefEqProofs [rules, h64']
  refine loopN l.length (fun k τ => τ 0 = .d (.sl (l.map ruleD)) ∧ τ 3 = .d (.int .i64 k) ∧ chkRs l = chkRs (l.drop k)) (by simp) ?_
  rintro k τ hk ⟨h0, h3, hc⟩
  by_cases hlt : k < l.length
  · obtain ⟨f1, f2, f3⟩ := hl.2 l[k] (List.getElem_mem hlt)
    rw [chkRs_drop hlt] at hc
    have hlt' : (k : Int) < l.length := by omega
    generalize hr : l[k] = r at *
    obtain ⟨T, S, F⟩ := r
    simp only at f1 f2 f3
    simp -implicitDefEqProofs [h0, h3, hlt, hlt', ruleD, hr]
    refine callK (name_fn T) ?_
    by_cases n1 : nameB T = true
    · simp -implicitDefEqProofs [h0, h3, hlt, hlt', n1, ruleD, hr]
      refine callK (form_fn F f3) ?_
      have hfe := formR_eq F
      cases hp : parsedF F with
      | none =>
        rw [hp] at hfe
        simp only at hfe
        simp -implicitDefEqProofs [h0, h3, hlt, hlt', hfe]
        simp [hc, chkRule, n1, hp]
      | some fv =>
        obtain ⟨⟨fn, fp, fc⟩, v⟩ := fv
        rw [hp] at hfe
        simp only at hfe
        by_cases c1 : fn = nConst
        · by_cases c2 : S = []
          · simp -implicitDefEqProofs [h0, h3, hlt, hlt', hfe, c1, c2, ruleD, hr]
            refine ⟨by omega, again hlt ⟨by simp [h0], by simp, ?_⟩⟩
            simpa [chkRule, n1, hp, c1, c2] using hc
          · simp -implicitDefEqProofs [h0, h3, hlt, hlt', hfe, c1, c2, ruleD, hr]
            simp [hc, chkRule, n1, hp, c1, c2]
        · simp -implicitDefEqProofs [h0, h3, hlt, hlt', hfe, c1, ruleD, hr]
          refine callK (name_fn S) ?_
          by_cases n2 : nameB S = true
          · simp -implicitDefEqProofs [h0, h3, hlt, hlt', n2]
            refine ⟨by omega, again hlt ⟨by simp [h0], by simp, ?_⟩⟩
            simpa [chkRule, n1, hp, c1, n2] using hc
          · have n2' : nameB S = false := by simpa using n2
            simp -implicitDefEqProofs [h0, h3, hlt, hlt', n2']
            simp [hc, chkRule, n1, hp, c1, n2']
    · have n1' : nameB T = false := by simpa using n1
      simp -implicitDefEqProofs [h0, h3, hlt, hlt', n1', ruleD, hr]
      simp [hc, chkRule, n1']
  · rw [List.drop_of_length_le (by omega)] at hc
    have hlt' : ¬ (k : Int) < l.length := by omega
    simp -implicitDefEqProofs [h0, h3, hlt, hlt', hc, chkRs]
end Go.Proofs.Tz

/- Rules: their text, and what a text says. -/
set_option maxRecDepth 100000
set_option maxHeartbeats 4000000
set_option linter.unusedVariables false
set_option linter.unusedSimpArgs false
namespace Go.Proofs.Tz
open Go.Vw Go.RowKit Go.Proofs

def lineS (r : Rule) : Str := escS r.1 ++ 32 :: (escS r.2.1 ++ 32 :: (escS r.2.2 ++ [10]))
def linesS (l : List Rule) : Str := l.flatMap lineS
def textM (l : List Rule) : Str × Int := if checkM l = 0 then (if 4096 < (linesS l).length then ([], 3) else (linesS l, 0)) else ([], checkM l)

theorem lineS_len {r : Rule} (h1 : List.length r.1 < 1000000) (h2 : List.length r.2.1 < 1000000) (h3 : List.length r.2.2 < 1000000) : (lineS r).length ≤ 9000003 := by
  have a := escS_len r.1
  have b := escS_len r.2.1
  have c := escS_len r.2.2
  simp only [lineS, List.length_append, List.length_cons, List.length_nil]
  omega
theorem linesS_len {l : List Rule} (h : FitR l) (k : Nat) : (linesS (l.take k)).length ≤ 9000003 * k := by
  induction k with
  | zero => simp [linesS]
  | succ k ih =>
    by_cases hk : k < l.length
    · have := lineS_len (h.2 l[k] (List.getElem_mem hk)).1 (h.2 l[k] (List.getElem_mem hk)).2.1 (h.2 l[k] (List.getElem_mem hk)).2.2
      simp only [linesS, take_s hk, List.flatMap_append, List.flatMap_cons, List.flatMap_nil, List.append_nil, List.length_append] at ih ⊢
      omega
    · rw [List.take_of_length_le (by omega)] at ih ⊢
      omega
theorem linesS_take {l : List Rule} {k : Nat} (h : k < l.length) : linesS (l.take (k + 1)) = linesS (l.take k) ++ lineS l[k] := by
  rw [take_s h]
  simp only [linesS, List.flatMap_append, List.flatMap_cons, List.flatMap_nil, List.append_nil]
theorem checkM_le {l : List Rule} (h : checkM l = 0) : l.length ≤ 64 := by
  unfold checkM at h
  split at h
  · cases h
  · omega

theorem mtextR_fn (l : List Rule) (hl : FitR l) : Ctr Tryz.prog 12 [.d (rules l)] (.tup [.d (.str (textM l).1), .d (.int .i64 (textM l).2)]) := by
  refine fn_of_vwpN (rv := .tmp 2) (rs := [.tmp 3]) (r := .d (.str (textM l).1)) (ys := [.d (.int .i64 (textM l).2)]) (fun _ => false) (by kernel_rfl) Tryz.func12 (by kernel_rfl) rfl rfl (by simp) (Nat.le_of_ble_eq_true rfl) (by kernel_rfl) rfl rfl ?_
  simp -implicitDefEqProofs
  refine callK (mcheckR_fn l hl) ?_
  by_cases hc : checkM l = 0
  · have h64 := checkM_le hc
    simp -implicitDefEqProofs [hc, rules]
    refine loopN l.length (fun k τ => τ 0 = .d (.sl (l.map ruleD)) ∧ τ 6 = .d (.int .i64 k) ∧ τ 5 = .d (.str (linesS (l.take k)))) (by simp [linesS]) ?_
    rintro k τ hk ⟨h0, h6, h5⟩
    by_cases hlt : k < l.length
    · obtain ⟨f1, f2, f3⟩ := hl.2 l[k] (List.getElem_mem hlt)
      have hlt' : (k : Int) < l.length := by omega
      have hb := linesS_len hl k
      have hs := linesS_take hlt
      generalize hr : l[k] = r at *
      obtain ⟨T, S, F⟩ := r
      simp only at f1 f2 f3
      have e1 := escS_len T
      have e2 := escS_len S
      have e3 := escS_len F
      simp -implicitDefEqProofs [h0, h6, h5, hlt, hlt', ruleD, hr]
      refine callP (escapeR_fn T f1) ?_
      simp -implicitDefEqProofs [h0, h6, h5, hlt, hlt', ruleD, hr]
      repeat refine And.intro (by omega) ?_
      refine callP (escapeR_fn S f2) ?_
      simp -implicitDefEqProofs [h0, h6, h5, hlt, hlt', ruleD, hr]
      repeat refine And.intro (by omega) ?_
      refine callP (escapeR_fn F f3) ?_
      simp -implicitDefEqProofs [h0, h6, h5, hlt, hlt', ruleD, hr]
      repeat refine And.intro (by omega) ?_
      refine again hlt ⟨by simp [h0], by simp, ?_⟩
      simp [hs, lineS]
    · rw [List.take_of_length_le (by omega)] at h5
      have hlt' : ¬ (k : Int) < l.length := by omega
      by_cases h4 : 4096 < (linesS l).length
      · have h4' : (4096 : Int) < (linesS l).length := by omega
        simp -implicitDefEqProofs [h0, h6, h5, hlt, hlt', h4', textM, hc, h4]
      · have h4' : ¬ (4096 : Int) < (linesS l).length := by omega
        simp -implicitDefEqProofs [h0, h6, h5, hlt, hlt', h4', textM, hc, h4]
  · simp -implicitDefEqProofs [hc, textM]

theorem mtext_fn (l : List Rule) (hl : FitR l) : Ctr Tryz.prog 11 [.d (rules l)] (.tup [.d (.str (textM l).1), .d (.int .i64 (textM l).2)]) := by
  refine fn_of_vwpN (rv := .tmp 2) (rs := [.tmp 3]) (r := .d (.str (textM l).1)) (ys := [.d (.int .i64 (textM l).2)]) (fun i => i == 1000005 || i == 5000033 || i == 5000035 || i == 5000037) (by kernel_rfl) Tryz.func11 (by kernel_rfl) rfl rfl (by simp) (Nat.le_of_ble_eq_true rfl) (by kernel_rfl) rfl rfl ?_
  simp -implicitDefEqProofs
  refine callK (mcheck_fn l hl) ?_
  by_cases hc : checkM l = 0
  · have h64 := checkM_le hc
    simp -implicitDefEqProofs [hc, rules]
    refine newK2 1000000 1000001 5 (by simp) (by kernel_rfl) (by simp) (by simp) (fun b => ?_)
    simp -implicitDefEqProofs
    refine loopN l.length (fun k τ => τ 13 = .d (.sl (l.map ruleD)) ∧ τ 14 = .d (.int .i64 l.length) ∧ τ 15 = .d (.int .i64 k) ∧ τ 5 = .d (.raw (va b)) ∧ BldAt τ b (linesS (l.take k))) ?_ ?_
    · exact ⟨by simp, by simp, by simp, by simp, .nilp, .slice none 0 0, .inl rfl, by simp [zTX61], by simp [linesS, bytesD]⟩
    rintro k τ hk ⟨h13, h14, h15, h5, p, hd, hp, hb, hh⟩
    have hbl := linesS_len hl k
    by_cases hlt : k < l.length
    · obtain ⟨f1, f2, f3⟩ := hl.2 l[k] (List.getElem_mem hlt)
      have hlt' : (k : Int) < l.length := by omega
      have hs := linesS_take hlt
      generalize hr : l[k] = r at *
      obtain ⟨T, S, F⟩ := r
      simp only at f1 f2 f3
      have e1 := escS_len T
      have e2 := escS_len S
      have e3 := escS_len F
      simp -implicitDefEqProofs [h13, h14, h15, h5, hlt, hlt', ruleD, hr]
      refine callP (escape_fn T f1) ?_
      simp -implicitDefEqProofs [h13, h14, h15, h5, hlt, hlt', ruleD, hr]
      repeat refine And.intro (by omega) ?_
      refine callP (escape_fn S f2) ?_
      simp -implicitDefEqProofs [h13, h14, h15, h5, hlt, hlt', ruleD, hr]
      repeat refine And.intro (by omega) ?_
      refine callP (escape_fn F f3) ?_
      simp -implicitDefEqProofs [h13, h14, h15, h5, hlt, hlt', ruleD, hr]
      refine ⟨by omega, by omega, ?_⟩
      refine givB [1000000, 1000001] 1000000 (writeString_fn (s := linesS (l.take k)) (hd := hd) hp (escS T ++ 32 :: (escS S ++ 32 :: (escS F ++ [10]))) (by simp only [List.length_append, List.length_cons, List.length_nil]; omega)) (by simp [hb, hh]) rfl (by simp) ?_
      rintro r hs' ⟨hd1, rfl⟩
      simp -implicitDefEqProofs [h13, h14, h15, h5, hlt, hlt', takeH, putH]
      repeat refine And.intro (by omega) ?_
      refine again hlt ⟨by simp [h13], by simp [h14], by simp, by simp [h5], .raw (va b), hd1, .inr rfl, by simp, by simp [hs, lineS]⟩
    · rw [List.take_of_length_le (by omega)] at hh
      have hlt' : ¬ (k : Int) < l.length := by omega
      simp -implicitDefEqProofs [h13, h14, h15, h5, hlt, hlt']
      refine givB [1000000, 1000001] 1000000 (bLen_fn (s := linesS l) (hd := hd) hp) (by simp [hb, hh]) rfl (by simp) ?_
      rintro r hs' ⟨rfl, rfl⟩
      by_cases h4 : 4096 < (linesS l).length
      · have h4' : (4096 : Int) < (linesS l).length := by omega
        simp -implicitDefEqProofs [h13, h14, h15, h5, hlt, hlt', takeH, putH, h4', textM, hc, h4]
      · have h4' : ¬ (4096 : Int) < (linesS l).length := by omega
        simp -implicitDefEqProofs [h13, h14, h15, h5, hlt, hlt', takeH, putH, h4']
        refine givB [1000000, 1000001] 1000000 (string_fn (b := b) (s := linesS l) (hd := hd) hp) (by simp) rfl (by simp) ?_
        rintro r hs' ⟨rfl, rfl⟩
        simp -implicitDefEqProofs [h13, h14, h15, h5, hlt, hlt', takeH, putH, textM, hc, h4]
  · simp -implicitDefEqProofs [hc, textM]

/-! ### lines -/
def unescL : List Str → Option (List Str)
  | [] => some []
  | p :: ps => match unesc p with
    | some x => (unescL ps).map (x :: ·)
    | none => none
theorem unescL_app : ∀ (a b : List Str), unescL (a ++ b) = match unescL a with
    | some x => (unescL b).map (x ++ ·)
    | none => none
  | [], b => by simp [unescL]
  | p :: a, b => by
    simp only [List.cons_append, unescL, unescL_app a b]
    cases unesc p with
    | none => rfl
    | some x =>
      cases unescL a with
      | none => rfl
      | some y => cases unescL b <;> simp
theorem unescL_len : ∀ {a x : List Str}, unescL a = some x → x.length = a.length
  | [], x, h => by simp [unescL] at h; subst h; rfl
  | p :: a, x, h => by
    simp only [unescL] at h
    split at h
    · obtain ⟨y, hy, rfl⟩ := Option.map_eq_some_iff.1 h
      simp [unescL_len hy]
    · cases h
theorem unescL_fit : ∀ {a x : List Str} {n : Nat}, unescL a = some x → (∀ p ∈ a, List.length p ≤ n) → ∀ y ∈ x, List.length y ≤ n
  | [], x, n, h, _ => by simp [unescL] at h; subst h; simp
  | p :: a, x, n, h, hn => by
    simp only [unescL] at h
    split at h
    · rename_i z hz
      obtain ⟨y, hy, rfl⟩ := Option.map_eq_some_iff.1 h
      intro q hq
      rcases List.mem_cons.1 hq with rfl | hq
      · exact Nat.le_trans (unesc_len _ _ _ (Nat.le_refl _) hz) (hn p (by simp))
      · exact unescL_fit hy (fun p hp => hn p (by simp [hp])) q hq
    · cases h

def lineOf : Option (List Str) → Option Rule
  | some [a, b, c] => some (a, b, c)
  | _ => none
def lineP (s : Str) : Option Rule := lineOf (unescL (splitB 32 s))
theorem lineOf_some {o : Option (List Str)} {r : Rule} (h : lineOf o = some r) : o = some [r.1, r.2.1, r.2.2] := by
  match o, h with
  | some [a, b, c], h => simp only [lineOf, Option.some.injEq] at h; subst h; rfl
theorem lineOf_none {o : Option (List Str)} (h : ∀ l, o = some l → l.length ≠ 3) : lineOf o = none := by
  match o, h with
  | none, _ => rfl
  | some [], _ => rfl
  | some [_], _ => rfl
  | some [_, _], _ => rfl
  | some [a, b, c], h => exact absurd rfl (h _ rfl)
  | some (_ :: _ :: _ :: _ :: _), _ => rfl
def lineT (s : Str) : Rule × Bool := match lineP s with
  | some r => (r, true)
  | none => (([], [], []), false)

theorem splitB_le (c : UInt8) : ∀ (s : Str), ∀ p ∈ splitB c s, List.length p ≤ s.length
  | [], p, hp => by simp [splitB] at hp; subst hp; simp
  | x :: s, p, hp => by
    simp only [splitB] at hp
    split at hp
    · rcases List.mem_cons.1 hp with rfl | hp
      · simp
      · have := splitB_le c s p hp; simp; omega
    · cases hs : splitB c s with
      | nil => rw [hs] at hp; simp at hp; subst hp; simp
      | cons q qs =>
        rw [hs] at hp
        simp only at hp
        have ih := splitB_le c s
        rw [hs] at ih
        rcases List.mem_cons.1 hp with rfl | hp
        · have := ih q (by simp); simp; omega
        · have := ih p (by simp [hp]); simp; omega

theorem lineP_fit {s : Str} {r : Rule} (h : lineP s = some r) : List.length r.1 ≤ s.length ∧ List.length r.2.1 ≤ s.length ∧ List.length r.2.2 ≤ s.length := by
  have := unescL_fit (lineOf_some h) (splitB_le 32 s)
  exact ⟨this _ (by simp), this _ (by simp), this _ (by simp)⟩
end Go.Proofs.Tz

/- Rules: a line, in both. -/
set_option maxRecDepth 100000
set_option maxHeartbeats 4000000
set_option linter.unusedVariables false
set_option linter.unusedSimpArgs false
namespace Go.Proofs.Tz
open Go.Vw Go.RowKit Go.Proofs

theorem arrK {P : Program} {t : TypeId} {ds : List D} {m : Int} {C : Nat → Prop} (n : Nat) (e : TypeId) (sz : Nat) (h1 : P.underlying t = some (.array n e)) (h2 : (P.info? e).map (·.size) = some sz) (h3 : ds.length = n) (h4 : ∀ y ∈ ds, width y = sz)
    (h5 : 0 ≤ m) (h6 : m.toNat < n) (h : C m.toNat) : ArrK P t ds m C := ⟨n, e, sz, h1, h2, h3, h4, h5, h6, h⟩

theorem str_info : (Tryz.prog.info? 9).map (·.size) = some 1 := by kernel_rfl
theorem arr96 : Tryz.prog.underlying 96 = some (.array 3 9) := by kernel_rfl

def LineI (a b c : Str) (τ : St) : Nat → Prop
  | 0 => τ 5 = .box (.agg [.str [], .str [], .str []])
  | 1 => ∃ x, unesc a = some x ∧ τ 5 = .box (.agg [.str x, .str [], .str []])
  | 2 => ∃ x y, unesc a = some x ∧ unesc b = some y ∧ τ 5 = .box (.agg [.str x, .str y, .str []])
  | _ => ∃ x y z, unesc a = some x ∧ unesc b = some y ∧ unesc c = some z ∧ τ 5 = .box (.agg [.str x, .str y, .str z])

theorem len3 {α : Type} {l : List α} (h : l.length = 3) : ∃ a b c, l = [a, b, c] := by
  match l, h with
  | [a, b, c], _ => exact ⟨a, b, c, rfl⟩

theorem line_fn (s : Str) (hs : List.length s < 1000000) : Ctr Tryz.prog 37 [.d (.str s)] (.tup [.d (ruleD (lineT s).1), .d (.bool (lineT s).2)]) := by
  refine fn_of_vwpN (rv := .cell 2 56) (rs := [.tmp 3]) (r := .d (ruleD (lineT s).1)) (ys := [.d (.bool (lineT s).2)]) (fun _ => false) (by kernel_rfl) Tryz.func37 (by kernel_rfl) rfl rfl (by simp) (Nat.le_of_ble_eq_true rfl) (by kernel_rfl) rfl rfl ?_
  simp -implicitDefEqProofs
  refine callK (split_fn s 32 hs) ?_
  by_cases hlen : (splitB 32 s).length = 3
  · obtain ⟨a, b, c, habc⟩ := len3 hlen
    have hal : ∀ p ∈ [a, b, c], List.length p < 1000000 := fun p hp => by
      have := splitB_le 32 s p (by rw [habc]; exact hp)
      omega
    have ha := hal a (by simp)
    have hb := hal b (by simp)
    have hc := hal c (by simp)
    have hP : lineP s = lineOf (unescL [a, b, c]) := by rw [lineP, habc]
    clear hal
    simp -implicitDefEqProofs [habc]
    refine loopN 3 (fun k τ => τ 4 = .own false 9 [.str a, .str b, .str c] ∧ τ 15 = .d (.int .i64 k) ∧ τ 2 = .box (.agg [.str [], .str [], .str []]) ∧ LineI a b c τ k) (by simp [LineI]) ?_
    rintro k τ hk ⟨h4, h15, h2, hI⟩
    have nope : ∀ p, unesc p = none → unescP p = ([], 4) := fun p h => unescP_none h
    match k, hk with
    | 0, _ =>
      simp only [LineI] at hI
      simp -implicitDefEqProofs [h4, h15, h2, hI]
      refine callK (unescape_fn a ha) ?_
      cases hu : unesc a with
      | none =>
        simp -implicitDefEqProofs [h4, h15, h2, hI, unescP_none hu]
        simp [lineT, hP, unescL, lineOf, hu, ruleD]
      | some x =>
        simp -implicitDefEqProofs [h4, h15, h2, hI, unescP_some hu]
        refine arrK 3 9 1 arr96 str_info rfl (by simp) (by omega) (by decide) ?_
        simp -implicitDefEqProofs [h4, h15, h2, hI, unescP_some hu]
        exact again (by omega) ⟨by simp [h4], by simp, by simp [h2], ⟨x, hu, by simp⟩⟩
    | 1, _ =>
      obtain ⟨x, hx, hI⟩ := hI
      simp -implicitDefEqProofs [h4, h15, h2, hI]
      refine callK (unescape_fn b hb) ?_
      cases hu : unesc b with
      | none =>
        simp -implicitDefEqProofs [h4, h15, h2, hI, unescP_none hu]
        simp [lineT, hP, unescL, lineOf, hx, hu, ruleD]
      | some y =>
        simp -implicitDefEqProofs [h4, h15, h2, hI, unescP_some hu]
        refine arrK 3 9 1 arr96 str_info rfl (by simp) (by omega) (by decide) ?_
        simp -implicitDefEqProofs [h4, h15, h2, hI, unescP_some hu]
        exact again (by omega) ⟨by simp [h4], by simp, by simp [h2], ⟨x, y, hx, hu, by simp⟩⟩
    | 2, _ =>
      obtain ⟨x, y, hx, hy, hI⟩ := hI
      simp -implicitDefEqProofs [h4, h15, h2, hI]
      refine callK (unescape_fn c hc) ?_
      cases hu : unesc c with
      | none =>
        simp -implicitDefEqProofs [h4, h15, h2, hI, unescP_none hu]
        simp [lineT, hP, unescL, lineOf, hx, hy, hu, ruleD]
      | some z =>
        simp -implicitDefEqProofs [h4, h15, h2, hI, unescP_some hu]
        refine arrK 3 9 1 arr96 str_info rfl (by simp) (by omega) (by decide) ?_
        simp -implicitDefEqProofs [h4, h15, h2, hI, unescP_some hu]
        exact again (by omega) ⟨by simp [h4], by simp, by simp [h2], ⟨x, y, z, hx, hy, hu, by simp⟩⟩
    | 3, _ =>
      obtain ⟨x, y, z, hx, hy, hz, hI⟩ := hI
      simp -implicitDefEqProofs [h4, h15, h2, hI]
      refine arrK 3 9 1 arr96 str_info rfl (by simp) (by omega) (by decide) ?_
      simp -implicitDefEqProofs [h4, h15, h2, hI]
      refine arrK 3 9 1 arr96 str_info rfl (by simp) (by omega) (by decide) ?_
      simp -implicitDefEqProofs [h4, h15, h2, hI]
      refine arrK 3 9 1 arr96 str_info rfl (by simp) (by omega) (by decide) ?_
      simp -implicitDefEqProofs [h4, h15, h2, hI]
      simp [lineT, hP, unescL, lineOf, hx, hy, hz, ruleD]
  · have hP : lineP s = none := lineOf_none fun l hu h3 => hlen (by rw [← unescL_len hu]; exact h3)
    have hlen' : ¬ ((splitB 32 s).length : Int) = 3 := by omega
    simp -implicitDefEqProofs [hlen']
    simp [lineT, hP, ruleD]

/-- The reference's parts. -/
def partsT (s : Str) : List Str × Bool := match unescL (splitB 32 s) with
  | some l => (l, decide (l.length = 3))
  | none => ([], false)

theorem splitB_cut {s : Str} {f i : Nat} (h1 : f ≤ i) (h2 : i < s.length) (h3 : s[i] = 32) (h4 : (32 : UInt8) ∉ (s.drop f).take (i - f)) : splitB 32 (s.drop f) = (s.drop f).take (i - f) :: splitB 32 (s.drop (i + 1)) := by
  have hix : ixB (s.drop f) 32 = ((i - f : Nat) : Int) := ixB_at (by simp; omega) (by simp; rw [← h3]; congr 1; omega) h4
  rw [splitB_at hix, List.drop_drop]
  congr 3; omega

def PartsI (s : Str) (k : Nat) (τ : St) : Prop := τ 0 = .d (.str s) ∧ τ 6 = .d (.int .i64 k) ∧ ∃ (f : Nat) (done out : List Str), τ 5 = .d (.int .i64 f) ∧ τ 4 = .own false 9 (out.map .str) ∧ unescL done = some out ∧ f ≤ k ∧ out.length ≤ k ∧
    (k ≤ List.length s → splitB 32 s = done ++ splitB 32 (s.drop f) ∧ (32 : UInt8) ∉ (s.drop f).take (k - f)) ∧ (List.length s < k → splitB 32 s = done)

theorem parts_fn (s : Str) (hs : List.length s < 1000000) : Ctr Tryz.prog 38 [.d (.str s)] (.tup [.d (strs (partsT s).1), .d (.bool (partsT s).2)]) := by
  refine fn_of_vwpN (rv := .tmp 2) (rs := [.tmp 3]) (r := .d (strs (partsT s).1)) (ys := [.d (.bool (partsT s).2)]) (fun _ => false) (by kernel_rfl) Tryz.func38 (by kernel_rfl) rfl rfl (by simp) (Nat.le_of_ble_eq_true rfl) (by kernel_rfl) rfl rfl ?_
  simp -implicitDefEqProofs
  refine loopN (List.length s + 1) (PartsI s) ?_ ?_
  · refine ⟨by simp, by simp, 0, [], [], by simp, by simp, rfl, by simp, by simp, by simp, by simp⟩
  rintro k τ hk ⟨h0, h6, f, done, out, h5, h4, hu, hf, hol, hin, hend⟩
  by_cases hle : k ≤ List.length s
  · obtain ⟨hsp, hno⟩ := hin hle
    have hle' : (k : Int) ≤ (List.length s : Int) := by omega
    by_cases hlt : k < List.length s
    · by_cases h32 : (s[k].toNat : Int) = 32
      · have h32' : s[k] = 32 := (u8_int s[k] 32 (by omega)).1 h32
        have hcut := splitB_cut hf hlt h32' hno
        have hpl : List.length ((s.drop f).take (k - f)) < 1000000 := by simp; omega
        rw [hcut] at hsp
        generalize hp : (s.drop f).take (k - f) = p at *
        simp -implicitDefEqProofs [h0, h6, h5, h4, hlt, hle, hle', h32, hp]
        repeat refine And.intro (by omega) ?_
        refine callK (unescapeR_fn p hpl) ?_
        cases hx : unesc p with
        | none =>
          simp -implicitDefEqProofs [h0, h6, h5, h4, unescP_none hx]
          simp [partsT, hsp, unescL_app, hu, unescL, hx, strs]
        | some x =>
          simp -implicitDefEqProofs [h0, h6, h5, h4, unescP_some hx]
          repeat refine And.intro (by omega) ?_
          refine again (by omega) ⟨by simp [h0], by simp, k + 1, done ++ [p], out ++ [x], by simp, by simp, by simp [unescL_app, hu, unescL, hx], by omega, by simp; omega, fun _ => ⟨by simp [hsp], by simp⟩, fun h => by omega⟩
      · have h32' : s[k] ≠ 32 := fun e => h32 ((u8_int s[k] 32 (by omega)).2 e)
        simp -implicitDefEqProofs [h0, h6, h5, h4, hlt, hle, hle', h32]
        repeat refine And.intro (by omega) ?_
        refine again (by omega) ⟨by simp [h0], by simp, f, done, out, by simp [h5], by simp [h4], hu, by omega, by omega, fun _ => ⟨hsp, ?_⟩, fun h => by omega⟩
        have hfl : k - f < (s.drop f).length := by simp; omega
        rw [show k + 1 - f = k - f + 1 by omega, take_s hfl, List.mem_append, List.mem_singleton]
        rintro (h | h)
        · exact hno h
        · apply h32'
          rw [h]
          simp only [List.getElem_drop]
          congr 1; omega
    · have hkl : k = List.length s := by omega
      subst hkl
      have hpe : (s.drop f).take (List.length s - f) = s.drop f := List.take_of_length_le (by simp)
      rw [hpe] at hno
      rw [splitB_none hno] at hsp
      have hpl : List.length (s.drop f) < 1000000 := by simp; omega
      generalize hp : s.drop f = p at *
      have hp' : List.take (List.length s - f) p = p := hpe
      simp -implicitDefEqProofs [h0, h6, h5, h4, hp, hp']
      repeat refine And.intro (by omega) ?_
      refine callK (unescapeR_fn p hpl) ?_
      cases hx : unesc p with
      | none =>
        simp -implicitDefEqProofs [h0, h6, h5, h4, unescP_none hx]
        simp [partsT, hsp, unescL_app, hu, unescL, hx, strs]
      | some x =>
        simp -implicitDefEqProofs [h0, h6, h5, h4, unescP_some hx]
        repeat refine And.intro (by omega) ?_
        refine again (by omega) ⟨by simp [h0], by simp, List.length s + 1, done ++ [p], out ++ [x], by simp, by simp, by simp [unescL_app, hu, unescL, hx], by omega, by simp; omega, fun h => by omega, fun _ => hsp⟩
  · have hsp := hend (by omega)
    have hle' : ¬ (k : Int) ≤ (List.length s : Int) := by omega
    simp -implicitDefEqProofs [h0, h6, h5, h4, hle, hle']
    have hi : ((out.length : Int) = 3) = (out.length = 3) := by simp; omega
    simp [partsT, hsp, hu, strs, hi]
end Go.Proofs.Tz

/- Rules: Parse in both; equal rules. -/
set_option maxRecDepth 100000
set_option maxHeartbeats 4000000
set_option linter.unusedVariables false
set_option linter.unusedSimpArgs false
namespace Go.Proofs.Tz
open Go.Vw Go.RowKit Go.Proofs

def parseGo (s : Str) (out : List Rule) : List Rule × Int × Int :=
  if s = [] then (out, 0, 0)
  else if h : 0 ≤ ixB s 10 then (match lineP (s.take (ixB s 10).toNat) with
    | none => ([], (out.length : Int) + 1, 4)
    | some r => if checkM (out ++ [r]) = 0 then parseGo (s.drop ((ixB s 10).toNat + 1)) (out ++ [r]) else ([], (out.length : Int) + 1, checkM (out ++ [r])))
  else ([], (out.length : Int) + 1, 4)
  termination_by s.length
  decreasing_by
  have := ixB_lt h
  simp
  omega
def parseM (s : Str) : List Rule × Int × Int := if 4096 < s.length then ([], 0, 3) else parseGo s []

theorem parseGo_nil (out : List Rule) : parseGo [] out = (out, 0, 0) := by rw [parseGo.eq_def]; rfl
theorem parseGo_no {s : Str} (out : List Rule) (h1 : s ≠ []) (h2 : ixB s 10 < 0) : parseGo s out = ([], (out.length : Int) + 1, 4) := by
  rw [parseGo.eq_def, if_neg h1, dif_neg (by omega)]
theorem parseGo_at {s : Str} (out : List Rule) {k : Nat} (h2 : ixB s 10 = k) : parseGo s out = match lineP (s.take k) with
    | none => ([], (out.length : Int) + 1, 4)
    | some r => if checkM (out ++ [r]) = 0 then parseGo (s.drop (k + 1)) (out ++ [r]) else ([], (out.length : Int) + 1, checkM (out ++ [r])) := by
  have h1 : s ≠ [] := fun e => by subst e; simp [ixB, Go.Lib.indexByte] at h2
  rw [parseGo.eq_def, if_neg h1, dif_pos (by omega), h2]
  rfl

def ParseJ (s0 : Str) (m : Nat) (τ : St) : Prop := ∃ (rest : Str) (out : List Rule), m = List.length rest ∧ τ 0 = .d (.str rest) ∧ τ 5 = .own false 56 (out.map ruleD) ∧ τ 6 = .d (.int .i64 ((out.length : Int) + 1)) ∧ List.length rest ≤ 4096 ∧ out.length ≤ 64 ∧ FitR out ∧ parseM s0 = parseGo rest out
def ParseI (s0 : Str) (m : Nat) (τ : St) : Prop := ∃ (rest : Str) (out : List Rule), m = List.length rest ∧ τ 0 = .d (.str rest) ∧ τ 5 = .own false 56 (out.map ruleD) ∧ List.length rest ≤ 4096 ∧ out.length ≤ 64 ∧ FitR out ∧ parseM s0 = parseGo rest out

theorem FitR.snoc {out : List Rule} {r : Rule} {s : Str} (h : FitR out) (ho : out.length ≤ 64) (hs : List.length s ≤ 4096) (hr : lineP s = some r) : FitR (out ++ [r]) := by
  have := lineP_fit hr
  refine ⟨by simp; omega, fun x hx => ?_⟩
  rcases List.mem_append.1 hx with hx | hx
  · exact h.2 x hx
  · rw [List.mem_singleton.1 hx]; omega

theorem mparse_fn (s : Str) (hs : List.length s < 1000000) : Ctr Tryz.prog 13 [.d (.str s)] (.tup [.d (rules (parseM s).1), .d (.int .i64 (parseM s).2.1), .d (.int .i64 (parseM s).2.2)]) := by
  refine fn_of_vwpN (rv := .tmp 2) (rs := [.tmp 3, .tmp 4]) (r := .d (rules (parseM s).1)) (ys := [.d (.int .i64 (parseM s).2.1), .d (.int .i64 (parseM s).2.2)]) (fun _ => false) (by kernel_rfl) Tryz.func13 (by kernel_rfl) rfl rfl (by simp) (Nat.le_of_ble_eq_true rfl) (by kernel_rfl) rfl rfl ?_
  by_cases h4 : 4096 < s.length
  · have h4' : (4096 : Int) < s.length := by omega
    simp -implicitDefEqProofs [h4', parseM, h4, rules]
  have h4' : ¬ (4096 : Int) < s.length := by omega
  simp -implicitDefEqProofs [h4']
  refine loopK (ParseJ s) s.length ?_ ?_
  · exact ⟨s, [], rfl, by simp, by simp, by simp, by omega, by simp, ⟨by simp, by simp⟩, by rw [parseM, if_neg h4]⟩
  rintro m τ ⟨rest, out, rfl, h0, h5, h6, hr, ho, hfit, hpm⟩
  rw [hpm]
  by_cases hnil : rest = []
  · subst hnil
    rw [parseGo_nil]
    simp -implicitDefEqProofs [h0, h5, h6, rules]
  simp -implicitDefEqProofs [h0, h5, h6, hnil]
  refine callK (cut_fn rest 10 (by omega)) ?_
  by_cases hix : 0 ≤ ixB rest 10
  · have hlt := ixB_lt hix
    obtain ⟨k, hk⟩ := Int.eq_ofNat_of_zero_le hix
    rw [hk, Int.toNat_natCast] at hlt
    have hcut : cutB rest 10 = (rest.take k, rest.drop (k + 1), true) := by rw [cutB, if_pos hix, hk, Int.toNat_natCast]
    rw [parseGo_at out hk] at hpm ⊢
    have hfl : List.length (rest.take k) ≤ 4096 := by simp; omega
    have hrl : List.length (rest.drop (k + 1)) = List.length rest - (k + 1) := by simp
    generalize rest.take k = first at *
    generalize rest.drop (k + 1) = tail at *
    simp -implicitDefEqProofs [h0, h5, h6, hcut]
    refine callK (line_fn first (by omega)) ?_
    cases hl : lineP first with
    | none =>
      simp -implicitDefEqProofs [h0, h5, h6, lineT, hl, ruleD]
      simp [rules]
    | some r =>
      have hfit2 := hfit.snoc ho hfl hl
      obtain ⟨T, S, F⟩ := r
      have hck := mcheck_fn (out ++ [(T, S, F)]) hfit2
      simp only [rules, ruleD, List.map_append, List.map_cons, List.map_nil] at hck
      simp -implicitDefEqProofs [h0, h5, h6, lineT, hl, ruleD]
      repeat refine And.intro (by omega) ?_
      refine callK hck ?_
      by_cases hc : checkM (out ++ [(T, S, F)]) = 0
      · simp -implicitDefEqProofs [h0, h5, h6, hc]
        repeat refine And.intro (by omega) ?_
        refine ⟨List.length tail, by omega, tail, out ++ [(T, S, F)], rfl, by simp, by simp [ruleD], by simp, by omega, checkM_le hc, hfit2, by rw [hpm, hl]; simp [hc]⟩
      · simp -implicitDefEqProofs [h0, h5, h6, hc, rules]
  · have hcut : cutB rest 10 = (rest, [], false) := by rw [cutB, if_neg hix]
    rw [parseGo_no out hnil (by omega)]
    simp -implicitDefEqProofs [h0, h5, h6, hcut]
    refine callK (line_fn rest (by omega)) ?_
    obtain ⟨⟨T, S, F⟩, b⟩ := lineT rest
    simp -implicitDefEqProofs [h0, h5, h6, ruleD]
    simp [rules]

theorem partsT_some {s : Str} {r : Rule} (h : lineP s = some r) : partsT s = ([r.1, r.2.1, r.2.2], true) := by
  simp [partsT, lineOf_some h]
theorem partsT_none {s : Str} (h : lineP s = none) : (partsT s).2 = false := by
  unfold partsT
  cases hu : unescL (splitB 32 s) with
  | none => rfl
  | some l =>
    simp only [decide_eq_false_iff_not]
    intro h3
    obtain ⟨a, b, c, rfl⟩ := len3 h3
    rw [lineP, hu] at h
    simp [lineOf] at h

theorem mparseR_fn (s : Str) (hs : List.length s < 1000000) : Ctr Tryz.prog 14 [.d (.str s)] (.tup [.d (rules (parseM s).1), .d (.int .i64 (parseM s).2.1), .d (.int .i64 (parseM s).2.2)]) := by
  refine fn_of_vwpN (rv := .tmp 2) (rs := [.tmp 3, .tmp 4]) (r := .d (rules (parseM s).1)) (ys := [.d (.int .i64 (parseM s).2.1), .d (.int .i64 (parseM s).2.2)]) (fun _ => false) (by kernel_rfl) Tryz.func14 (by kernel_rfl) rfl rfl (by simp) (Nat.le_of_ble_eq_true rfl) (by kernel_rfl) rfl rfl ?_
  by_cases h4 : 4096 < s.length
  · have h4' : (4096 : Int) < s.length := by omega
    simp -implicitDefEqProofs [h4', parseM, h4, rules]
  have h4' : ¬ (4096 : Int) < s.length := by omega
  simp -implicitDefEqProofs [h4']
  refine loopK (ParseI s) s.length ?_ ?_
  · exact ⟨s, [], rfl, by simp, by simp, by omega, by simp, ⟨by simp, by simp⟩, by rw [parseM, if_neg h4]⟩
  rintro m τ ⟨rest, out, rfl, h0, h5, hr, ho, hfit, hpm⟩
  rw [hpm]
  by_cases hnil : rest = []
  · subst hnil
    rw [parseGo_nil]
    simp -implicitDefEqProofs [h0, h5, rules]
  simp -implicitDefEqProofs [h0, h5, hnil]
  refine loopN (List.length rest) (fun k τ => τ 0 = .d (.str rest) ∧ τ 5 = .own false 56 (out.map ruleD) ∧ τ 6 = .d (.int .i64 k) ∧ (10 : UInt8) ∉ rest.take k) (by simp [h0, h5]) ?_
  clear h0 h5 τ
  rintro k τ hk ⟨h0, h5, h6, hno⟩
  by_cases hlt : k < List.length rest
  · have hlt' : (k : Int) < List.length rest := by omega
    by_cases h10 : (rest[k].toNat : Int) = 10
    · have h10' : rest[k] = 10 := (u8_int rest[k] 10 (by omega)).1 h10
      have hk : ixB rest 10 = k := ixB_at hlt h10' hno
      rw [parseGo_at out hk] at hpm ⊢
      have hfl : List.length (rest.take k) ≤ 4096 := by simp; omega
      have hrl : List.length (rest.drop (k + 1)) = List.length rest - (k + 1) := by simp
      have hkne : ¬ (k : Int) = List.length rest := by omega
      have htk : List.take (List.length rest - (k + 1)) (List.drop (k + 1) rest) = List.drop (k + 1) rest := List.take_of_length_le (by simp)
      have i1 : (0 : Int) ≤ (k : Int) + 1 := by omega
      have j1 : ((k : Int) + 1).toNat = k + 1 := by omega
      generalize hfirst : rest.take k = first at *
      generalize htail : rest.drop (k + 1) = tail at *
      simp -implicitDefEqProofs [h0, h5, h6, hlt, hlt', h10, hfirst]
      repeat refine And.intro (by omega) ?_
      refine callK (parts_fn first (by omega)) ?_
      cases hl : lineP first with
      | none =>
        simp -implicitDefEqProofs [h0, h5, h6, partsT_none hl, hkne]
        refine ⟨by omega, by simp [rules]⟩
      | some r =>
        have hfit2 := hfit.snoc ho hfl hl
        obtain ⟨T, S, F⟩ := r
        have hck := mcheckR_fn (out ++ [(T, S, F)]) hfit2
        simp only [rules, ruleD, List.map_append, List.map_cons, List.map_nil] at hck
        simp -implicitDefEqProofs [h0, h5, h6, partsT_some hl, hkne, strs]
        repeat refine And.intro (by omega) ?_
        refine callK hck ?_
        by_cases hc : checkM (out ++ [(T, S, F)]) = 0
        · simp -implicitDefEqProofs [h0, h5, h6, hc, i1, j1, htail, htk]
          repeat refine And.intro (by omega) ?_
          refine ⟨List.length tail, by omega, tail, out ++ [(T, S, F)], rfl, by simp, by simp [ruleD], by omega, checkM_le hc, hfit2, by rw [hpm, hl]; simp [hc]⟩
        · simp -implicitDefEqProofs [h0, h5, h6, hc, rules]
    · have h10' : rest[k] ≠ 10 := fun e => h10 ((u8_int rest[k] 10 (by omega)).2 e)
      simp -implicitDefEqProofs [h0, h5, h6, hlt, hlt', h10]
      repeat refine And.intro (by omega) ?_
      refine again hlt ⟨by simp [h0], by simp [h5], by simp, ?_⟩
      rw [take_s hlt, List.mem_append, List.mem_singleton]
      rintro (h | h)
      · exact hno h
      · exact h10' h.symm
  · have hkl : k = List.length rest := by omega
    subst hkl
    rw [List.take_of_length_le (Nat.le_refl _)] at hno
    rw [parseGo_no out hnil (by rw [ixB_no hno]; omega)]
    simp -implicitDefEqProofs [h0, h5, h6]
    refine callK (parts_fn rest (by omega)) ?_
    simp -implicitDefEqProofs [h0, h5, h6]
    refine ⟨by omega, by simp [rules]⟩

theorem sameM_fn (l m : List Rule) (hl : l.length < 1000000) (hm : m.length < 1000000) : Ctr Tryz.prog 17 [.d (rules l), .d (rules m)] (.d (.bool (decide (l = m)))) := by
  refine fn_of_vwp (fun _ => false) (by kernel_rfl) Tryz.func17 (by kernel_rfl) rfl rfl (Nat.le_of_ble_eq_true rfl) (by kernel_rfl) rfl rfl ?_
  by_cases hlm : l.length = m.length
  · simp -implicitDefEqProofs [rules, hlm]
    refine loopN m.length (fun k τ => τ 0 = .d (rules l) ∧ τ 1 = .d (rules m) ∧ τ 5 = .d (.int .i64 k) ∧ l.take k = m.take k) (by simp [rules]) ?_
    rintro k τ hk ⟨h0, h1, h5, ht⟩
    by_cases hlt : k < m.length
    · have hlt' : k < l.length := by omega
      have e1 := take_s hlt
      have e2 := take_s hlt'
      have hne : l[k] ≠ m[k] → l ≠ m := by rintro h rfl; exact h rfl
      generalize hx : l[k] = x at *
      generalize hy : m[k] = y at *
      obtain ⟨a, b, c⟩ := x
      obtain ⟨a', b', c'⟩ := y
      by_cases he : (a, b, c) = (a', b', c')
      · simp only [Prod.mk.injEq] at he
        obtain ⟨rfl, rfl, rfl⟩ := he
        simp -implicitDefEqProofs [h0, h1, h5, rules, hlm, hlt, hlt', hx, hy, ruleD, leafEq]
        repeat refine And.intro (by omega) ?_
        refine again hlt ⟨by simp [h0, rules], by simp [h1, rules], by simp, ?_⟩
        rw [e1, e2, ht]
      · have hn := hne he
        have hle : (decide (a = a') && (decide (b = b') && (decide (c = c') && true))) = false := by
          simp only [Prod.mk.injEq, not_and] at he
          by_cases q1 : a = a'
          · by_cases q2 : b = b'
            · simp [q1, q2, he q1 q2]
            · simp [q1, q2]
          · simp [q1]
        simp -implicitDefEqProofs [h0, h1, h5, rules, hlm, hlt, hlt', hx, hy, ruleD, leafEq, hn]
        intro q1 q2 q3
        exact absurd (by rw [q1, q2, q3]) he
    · simp -implicitDefEqProofs [h0, h1, h5, rules, hlm, hlt]
      rw [List.take_of_length_le (by omega), List.take_of_length_le (by omega)] at ht
      first | exact ⟨by omega, ht⟩ | exact ht
  · have hlm' : ¬ (l.length : Int) = m.length := by omega
    simp -implicitDefEqProofs [rules, hlm']
    rintro rfl
    exact hlm rfl
end Go.Proofs.Tz

/- Rules: the statements' bounds. -/
set_option maxRecDepth 100000
set_option maxHeartbeats 4000000
set_option linter.unusedVariables false
set_option linter.unusedSimpArgs false
namespace Go.Proofs.Tz
open Go.Vw Go.RowKit Go.Proofs

/-- All of a list are so. -/
def AllB {α : Type} (p : α → Bool) (l : List α) : Prop := ∀ x ∈ l, p x = true
theorem AllB.nil {α : Type} {p : α → Bool} : AllB p [] := fun _ h => by simp at h
theorem AllB.snoc {α : Type} {p : α → Bool} {l m : List α} {x : α} (h : AllB p l) (hx : p x = true) (e : m = l ++ [x]) : AllB p m := fun y hy => by
  rw [e, List.mem_append, List.mem_singleton] at hy
  rcases hy with hy | rfl
  · exact h y hy
  · exact hx
theorem AllB.all {α : Type} {p : α → Bool} {l : List α} (h : AllB p l) : l.all p = true := List.all_eq_true.2 h
theorem all_no {α : Type} {p : α → Bool} {l : List α} {k : Nat} {x : α} {h : k < l.length} (e : l[k] = x) (hx : p x = false) : l.all p = false := by
  rw [List.all_eq_false]; exact ⟨x, by rw [← e]; exact List.getElem_mem h, by simp [hx]⟩

/-- The bounds of the statements. -/
def sizeR (r : Rule) : Nat := List.length r.1 + (List.length r.2.1 + List.length r.2.2)
def sumR (l : List Rule) : Nat := (l.map sizeR).sum
theorem sumR_snoc {l m : List Rule} {x : Rule} (e : m = l ++ [x]) : sumR m = sumR l + sizeR x := by rw [e]; simp [sumR]
def lightR (r : Rule) : Bool := decide (List.length r.1 ≤ 400) && decide (List.length r.2.1 ≤ 400) && decide (List.length r.2.2 ≤ 400)
def lightB (l : List Rule) : Bool := (l.take 70).all lightR && decide (l.length ≤ 70) && decide (sumR (l.take 70) ≤ 4000)

theorem light_fn (l : List Rule) : Ctr Tryz.prog 9 [.d (rules l)] (.d (.bool (lightB l))) := by
  refine fn_of_vwp (fun _ => false) (by kernel_rfl) Tryz.func9 (by kernel_rfl) rfl rfl (Nat.le_of_ble_eq_true rfl) (by kernel_rfl) rfl rfl ?_
  simp -implicitDefEqProofs [rules]
  refine loopN 70 (fun k τ => τ 0 = .d (.sl (l.map ruleD)) ∧ τ 4 = .d (.int .i64 k) ∧ k ≤ l.length ∧ τ 3 = .d (.int .i64 (sumR (l.take k) : Int)) ∧ AllB lightR (l.take k) ∧ sumR (l.take k) ≤ 1200 * k) (by simp [AllB.nil, sumR]) ?_
  rintro k τ hk ⟨h0, h4, hkl, h3, hall, hsum⟩
  by_cases hlt : k < l.length
  · have hlt' : (k : Int) < l.length := by omega
    by_cases h70 : k < 70
    · have h70' : (k : Int) < 70 := by omega
      have e1 := take_s hlt
      generalize hr : l[k] = r at *
      have hin : lightR r = false → lightB l = false := fun h => by
        have : r ∈ l.take 70 := by rw [List.mem_take_iff_getElem]; exact ⟨k, by omega, hr⟩
        have : (l.take 70).all lightR = false := by rw [List.all_eq_false]; exact ⟨r, this, by simp [h]⟩
        simp [lightB, this]
      obtain ⟨T, S, F⟩ := r
      by_cases a1 : (400 : Int) < List.length T
      · have := hin (by simp [lightR]; omega)
        simp -implicitDefEqProofs [h0, h4, h3, hlt, hlt', h70', ruleD, hr, a1, this]
      by_cases a2 : (400 : Int) < List.length S
      · have := hin (by simp [lightR]; omega)
        simp -implicitDefEqProofs [h0, h4, h3, hlt, hlt', h70', ruleD, hr, a1, a2, this]
      by_cases a3 : (400 : Int) < List.length F
      · have := hin (by simp [lightR]; omega)
        simp -implicitDefEqProofs [h0, h4, h3, hlt, hlt', h70', ruleD, hr, a1, a2, a3, this]
      · simp -implicitDefEqProofs [h0, h4, h3, hlt, hlt', h70', ruleD, hr, a1, a2, a3]
        repeat refine And.intro (by omega) ?_
        have e3 := sumR_snoc e1
        simp only [sizeR] at e3
        refine again h70 ⟨by simp [h0], by simp, by omega, ?_, hall.snoc (by simp [lightR]; omega) e1, by omega⟩
        simp
        omega
    · have h70' : ¬ (k : Int) < 70 := by omega
      have e : lightB l = false := by simp [lightB]; intros; omega
      have h71 : ¬ (l.length : Int) ≤ 70 := by omega
      simp -implicitDefEqProofs [h0, h4, h3, hlt, hlt', h70', e, h71]
  · have hlt' : ¬ (k : Int) < l.length := by omega
    rw [List.take_of_length_le (by omega)] at h3 hall
    have h70 : (l.length : Int) ≤ 70 := by omega
    have e : lightB l = decide (sumR l ≤ 4000) := by
      have h1 : l.take 70 = l := List.take_of_length_le (by omega)
      have h2 : l.all lightR = true := hall.all
      rw [lightB, h1, h2]
      have : l.length ≤ 70 := by omega
      simp [this]
    simp -implicitDefEqProofs [h0, h4, h3, hlt, hlt', h70, e]
    omega

def lightV (vs : List Str) : Bool := vs.all fun v => decide (List.length v ≤ 300)
def lightT (a : Att) : Bool := decide (List.length a.1 ≤ 300) && decide (a.2.length ≤ 20) && lightV a.2
def lightA (l : List Att) : Bool := decide (l.length ≤ 8) && l.all lightT

theorem lightA_fn (l : List Att) : Ctr Tryz.prog 21 [.d (atts l)] (.d (.bool (lightA l))) := by
  refine fn_of_vwp (fun _ => false) (by kernel_rfl) Tryz.func21 (by kernel_rfl) rfl rfl (Nat.le_of_ble_eq_true rfl) (by kernel_rfl) rfl rfl ?_
  by_cases h8 : 8 < l.length
  · have h8' : (8 : Int) < l.length := by omega
    have e : lightA l = false := by simp [lightA]; intros; omega
    simp -implicitDefEqProofs [atts, h8', e]
  have h8' : ¬ (8 : Int) < l.length := by omega
  simp -implicitDefEqProofs [atts, h8']
  refine loopN l.length (fun k τ => τ 0 = .d (.sl (l.map att)) ∧ τ 3 = .d (.int .i64 k) ∧ AllB lightT (l.take k)) (by simp [AllB.nil]) ?_
  rintro k τ hk ⟨h0, h3, hall⟩
  by_cases hlt : k < l.length
  · have hlt' : (k : Int) < l.length := by omega
    have e1 := take_s hlt
    generalize hr : l[k] = r at *
    have hin : lightT r = false → lightA l = false := fun h => by
      have : r ∈ l := by rw [← hr]; exact List.getElem_mem hlt
      have : l.all lightT = false := by rw [List.all_eq_false]; exact ⟨r, this, by simp [h]⟩
      simp [lightA, this]
    obtain ⟨T, V⟩ := r
    by_cases a1 : (300 : Int) < List.length T
    · have := hin (by simp [lightT]; intros; omega)
      simp -implicitDefEqProofs [h0, h3, hlt, hlt', att, strs, hr, a1, this]
    by_cases a2 : (20 : Int) < V.length
    · have := hin (by simp [lightT]; intros; omega)
      simp -implicitDefEqProofs [h0, h3, hlt, hlt', att, strs, hr, a1, a2, this]
    simp -implicitDefEqProofs [h0, h3, hlt, hlt', att, strs, hr, a1, a2]
    refine loopN V.length (fun j τ => τ 0 = .d (.sl (l.map att)) ∧ τ 3 = .d (.int .i64 k) ∧ τ 4 = .d (.int .i64 j) ∧ AllB (fun v => decide (List.length v ≤ 300)) (V.take j)) (by simp [h0, h3, AllB.nil]) ?_
    clear h0 h3 τ
    rintro j τ hj ⟨h0, h3, h4, hv⟩
    by_cases hjt : j < V.length
    · have hjt' : (j : Int) < V.length := by omega
      have e2 := take_s hjt
      generalize hx : V[j] = x at *
      by_cases a3 : (300 : Int) < List.length x
      · have := hin (by
          have : x ∈ V := by rw [← hx]; exact List.getElem_mem hjt
          have : lightV V = false := by rw [lightV, List.all_eq_false]; exact ⟨x, this, by simp; omega⟩
          simp [lightT, this])
        simp -implicitDefEqProofs [h0, h3, h4, hlt, hlt', att, strs, hr, hjt, hjt', hx, a3, this]
      · simp -implicitDefEqProofs [h0, h3, h4, hlt, hlt', att, strs, hr, hjt, hjt', hx, a3]
        repeat refine And.intro (by omega) ?_
        refine again hjt ⟨by simp [h0], by simp [h3], by simp, hv.snoc (by simp; omega) e2⟩
    · have hjt' : ¬ (j : Int) < V.length := by omega
      rw [List.take_of_length_le (by omega)] at hv
      simp -implicitDefEqProofs [h0, h3, h4, hlt, hlt', att, strs, hr, hjt, hjt']
      repeat refine And.intro (by omega) ?_
      have g1 : List.length T ≤ 300 := by omega
      have g2 : V.length ≤ 20 := by omega
      have g3 : lightV V = true := hv.all
      refine again hlt ⟨by simp [h0], by simp, hall.snoc (by simp [lightT, g1, g2, g3]) e1⟩
  · have hlt' : ¬ (k : Int) < l.length := by omega
    rw [List.take_of_length_le (by omega)] at hall
    have h1 : l.length ≤ 8 := by omega
    have e : lightA l = true := by simp only [lightA, h1, decide_true, Bool.true_and]; exact hall.all
    simp -implicitDefEqProofs [h0, h3, hlt, hlt', e]
end Go.Proofs.Tz
