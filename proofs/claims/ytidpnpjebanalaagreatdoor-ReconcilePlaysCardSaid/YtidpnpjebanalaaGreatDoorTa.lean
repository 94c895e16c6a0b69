/-
  What the functions that the statements about targets and synchronizations reach compute, part 1 of 5, for data of bounded size (each theorem states its bound).
-/import Derived.Test.YtidpnpjebanalaaGreatDoorWc
import Derived.Test.YtidpnpjebanalaaGreatDoorProg
import Derived.KernelRfl
import Derived.Sort.Walk0
import Derived.Shelf.SlSortCmp.WholeK
import Derived.Shelf.SlSortCmp.NoneTotal
import Derived.Shelf.SlicesG.Cmp
import Derived.Shelf.SlicesG.CompactS
import Derived.Shelf.SlicesG.Delete
import Derived.Shelf.SortM.Plain
import Derived.Shelf.SortM.SortNone
import Derived.Shelf.SlLaysM
import Derived.Shelf.SlLaysF
import Derived.Shelf.SlLaysF0
import Derived.Shelf.SlLaysN
import Derived.Shelf.SlLaysZ
import Derived.Shelf.SlGeneric
import Derived.Ground.SlgmProg
import Derived.Ground.SlgnProg
import Derived.Ground.SlsfProg
import Derived.Ground.GgzProg
import Derived.WalkKit
open Go.Proofs.Tryz
set_option linter.unusedSimpArgs false
set_option linter.unusedVariables false
namespace Go.Proofs
open Go.Vw
@[simp] theorem Tryz.ez_1 : esz prog 1 = some (1, 8) ∧ szOf prog 1 = some 1 ∧ tyk prog 1 = some (false, 1) ∧ zeroD prog 1 = some (.raw .nilFunc) := by and_intros <;> kernel_rfl
@[simp] theorem Tryz.u_2 : Program.underlying prog 2 = some (.int .i64) ∧ sliceE prog 2 = none ∧ esz prog 2 = some (1, 8) ∧ szOf prog 2 = some 1 ∧ tyk prog 2 = some (false, 1) ∧ zeroD prog 2 = some (.int .i64 0) := by and_intros <;> kernel_rfl
@[simp] theorem Tryz.u_3 : Program.underlying prog 3 = some (.int .i64) ∧ sliceE prog 3 = none ∧ esz prog 3 = some (1, 8) ∧ szOf prog 3 = some 1 ∧ tyk prog 3 = some (false, 1) ∧ zeroD prog 3 = some (.int .i64 0) := by and_intros <;> kernel_rfl
@[simp] theorem Tryz.u_4 : Program.underlying prog 4 = some .bool ∧ sliceE prog 4 = none ∧ esz prog 4 = some (1, 1) ∧ szOf prog 4 = some 1 ∧ tyk prog 4 = some (false, 1) := by and_intros <;> kernel_rfl
@[simp] theorem Tryz.zd_4 : zeroD prog 4 = some (.bool false) := by kernel_rfl
@[simp] theorem Tryz.u_5 : Program.underlying prog 5 = some (.int .u8) ∧ sliceE prog 5 = none ∧ esz prog 5 = some (1, 1) ∧ szOf prog 5 = some 1 ∧ tyk prog 5 = some (false, 1) ∧ zeroD prog 5 = some (.int .u8 0) := by and_intros <;> kernel_rfl
@[simp] theorem Tryz.u_9 : Program.underlying prog 9 = some .string ∧ sliceE prog 9 = none ∧ esz prog 9 = some (1, 16) := by and_intros <;> kernel_rfl
@[simp] theorem Tryz.sz_9 : szOf prog 9 = some 1 := by kernel_rfl
@[simp] theorem Tryz.tk_9 : tyk prog 9 = some (false, 1) ∧ zeroD prog 9 = some (.str []) := by and_intros <;> kernel_rfl
@[simp] theorem Tryz.u_12 : Program.underlying prog 12 = some (.int .u64) ∧ sliceE prog 12 = none ∧ esz prog 12 = some (1, 8) ∧ szOf prog 12 = some 1 ∧ tyk prog 12 = some (false, 1) ∧ zeroD prog 12 = some (.int .u64 0) := by and_intros <;> kernel_rfl
@[simp] theorem Tryz.ez_13 : esz prog 13 = some (2, 24) ∧ szOf prog 13 = some 2 ∧ tyk prog 13 = some (true, 2) ∧ zeroD prog 13 = some (.agg [.str [], .int .u64 0]) ∧ structD prog 13 = some [.str [], .int .u64 0] := by and_intros <;> kernel_rfl
@[simp] theorem Tryz.fo_13_0 : fieldOff prog 13 0 = some 0 := by kernel_rfl
@[simp] theorem Tryz.fo_13_1 : fieldOff prog 13 1 = some 1 := by kernel_rfl
@[simp] theorem Tryz.u_21 : Program.underlying prog 21 = some (.int .i32) ∧ sliceE prog 21 = none ∧ esz prog 21 = some (1, 4) ∧ szOf prog 21 = some 1 ∧ tyk prog 21 = some (false, 1) ∧ zeroD prog 21 = some (.int .i32 0) := by and_intros <;> kernel_rfl
@[simp] theorem Tryz.u_22 : Program.underlying prog 22 = some (.slice 3) ∧ sliceE prog 22 = some 3 ∧ esz prog 22 = some (1, 24) ∧ szOf prog 22 = some 1 ∧ tyk prog 22 = some (false, 1) ∧ zeroD prog 22 = some (.sl []) := by and_intros <;> kernel_rfl
@[simp] theorem Tryz.u_23 : Program.underlying prog 23 = some (.slice 41) ∧ sliceE prog 23 = some 41 ∧ esz prog 23 = some (1, 24) ∧ szOf prog 23 = some 1 ∧ tyk prog 23 = some (false, 1) ∧ zeroD prog 23 = some (.sl []) := by and_intros <;> kernel_rfl
@[simp] theorem Tryz.u_26 : Program.underlying prog 26 = some (.pointer 74) ∧ esz prog 26 = some (1, 8) ∧ szOf prog 26 = some 1 ∧ tyk prog 26 = some (false, 1) ∧ zeroD prog 26 = some (.nilp) := by and_intros <;> kernel_rfl
@[simp] theorem Tryz.u_28 : Program.underlying prog 28 = some (.pointer 83) ∧ esz prog 28 = some (1, 8) ∧ szOf prog 28 = some 1 ∧ tyk prog 28 = some (false, 1) ∧ zeroD prog 28 = some (.nilp) := by and_intros <;> kernel_rfl
@[simp] theorem Tryz.u_30 : Program.underlying prog 30 = some (.pointer 78) ∧ esz prog 30 = some (1, 8) ∧ szOf prog 30 = some 1 ∧ tyk prog 30 = some (false, 1) ∧ zeroD prog 30 = some (.nilp) := by and_intros <;> kernel_rfl
@[simp] theorem Tryz.u_31 : Program.underlying prog 31 = some (.int .i64) ∧ sliceE prog 31 = none ∧ esz prog 31 = some (1, 8) ∧ szOf prog 31 = some 1 ∧ tyk prog 31 = some (false, 1) ∧ zeroD prog 31 = some (.int .i64 0) := by and_intros <;> kernel_rfl
@[simp] theorem Tryz.u_34 : Program.underlying prog 34 = some (.pointer 86) ∧ esz prog 34 = some (1, 8) ∧ szOf prog 34 = some 1 ∧ tyk prog 34 = some (false, 1) ∧ zeroD prog 34 = some (.nilp) := by and_intros <;> kernel_rfl
@[simp] theorem Tryz.u_37 : Program.underlying prog 37 = some (.slice 112) ∧ sliceE prog 37 = some 112 ∧ esz prog 37 = some (1, 24) ∧ szOf prog 37 = some 1 ∧ tyk prog 37 = some (false, 1) ∧ zeroD prog 37 = some (.sl []) := by and_intros <;> kernel_rfl
@[simp] theorem Tryz.ez_39 : esz prog 39 = some (3, 48) ∧ szOf prog 39 = some 3 ∧ tyk prog 39 = some (true, 3) := by and_intros <;> kernel_rfl
@[simp] theorem Tryz.zd_39 : zeroD prog 39 = some (.agg [.str [], .bool false, .sl []]) := by kernel_rfl
@[simp] theorem Tryz.sd_39 : structD prog 39 = some [.str [], .bool false, .sl []] := by kernel_rfl
@[simp] theorem Tryz.fo_39_0 : fieldOff prog 39 0 = some 0 := by kernel_rfl
@[simp] theorem Tryz.fo_39_1 : fieldOff prog 39 1 = some 1 := by kernel_rfl
@[simp] theorem Tryz.fo_39_2 : fieldOff prog 39 2 = some 2 := by kernel_rfl
@[simp] theorem Tryz.ez_41 : esz prog 41 = some (5, 64) ∧ szOf prog 41 = some 5 ∧ tyk prog 41 = some (true, 5) ∧ zeroD prog 41 = some (.agg [.int .i64 0, .agg [.str [], .bool false, .sl []], .int .i64 0]) ∧ structD prog 41 = some [.int .i64 0, .agg [.str [], .bool false, .sl []], .int .i64 0] := by and_intros <;> kernel_rfl
@[simp] theorem Tryz.fo_41_0 : fieldOff prog 41 0 = some 0 := by kernel_rfl
@[simp] theorem Tryz.fo_41_1 : fieldOff prog 41 1 = some 1 := by kernel_rfl
@[simp] theorem Tryz.fo_41_2 : fieldOff prog 41 2 = some 4 := by kernel_rfl
@[simp] theorem Tryz.u_44 : Program.underlying prog 44 = some (.slice 39) ∧ sliceE prog 44 = some 39 ∧ esz prog 44 = some (1, 24) ∧ szOf prog 44 = some 1 ∧ tyk prog 44 = some (false, 1) ∧ zeroD prog 44 = some (.sl []) := by and_intros <;> kernel_rfl
@[simp] theorem Tryz.ez_46 : esz prog 46 = some (1, 8) ∧ szOf prog 46 = some 1 ∧ tyk prog 46 = some (false, 1) ∧ zeroD prog 46 = some (.raw .nilFunc) := by and_intros <;> kernel_rfl
@[simp] theorem Tryz.ez_48 : esz prog 48 = some (1, 8) ∧ szOf prog 48 = some 1 ∧ tyk prog 48 = some (false, 1) ∧ zeroD prog 48 = some (.raw .nilFunc) := by and_intros <;> kernel_rfl
@[simp] theorem Tryz.ez_50 : esz prog 50 = some (1, 8) ∧ szOf prog 50 = some 1 ∧ tyk prog 50 = some (false, 1) ∧ zeroD prog 50 = some (.raw .nilFunc) := by and_intros <;> kernel_rfl
@[simp] theorem Tryz.u_51 : Program.underlying prog 51 = some (.slice 9) ∧ sliceE prog 51 = some 9 ∧ esz prog 51 = some (1, 24) ∧ szOf prog 51 = some 1 ∧ tyk prog 51 = some (false, 1) ∧ zeroD prog 51 = some (.sl []) := by and_intros <;> kernel_rfl
@[simp] theorem Tryz.ez_57 : esz prog 57 = some (1, 8) ∧ szOf prog 57 = some 1 ∧ tyk prog 57 = some (false, 1) ∧ zeroD prog 57 = some (.raw .nilFunc) := by and_intros <;> kernel_rfl
@[simp] theorem Tryz.ez_58 : esz prog 58 = some (1, 8) ∧ szOf prog 58 = some 1 ∧ tyk prog 58 = some (false, 1) ∧ zeroD prog 58 = some (.raw .nilFunc) := by and_intros <;> kernel_rfl
@[simp] theorem Tryz.u_61 : Program.underlying prog 61 = some (.slice 5) ∧ sliceE prog 61 = some 5 ∧ esz prog 61 = some (1, 24) ∧ szOf prog 61 = some 1 ∧ tyk prog 61 = some (false, 1) ∧ zeroD prog 61 = some (.sl []) := by and_intros <;> kernel_rfl
@[simp] theorem Tryz.ez_65 : esz prog 65 = some (1, 8) ∧ szOf prog 65 = some 1 ∧ tyk prog 65 = some (false, 1) ∧ zeroD prog 65 = some (.raw .nilFunc) := by and_intros <;> kernel_rfl
@[simp] theorem Tryz.ez_71 : esz prog 71 = some (1, 8) ∧ szOf prog 71 = some 1 ∧ tyk prog 71 = some (false, 1) ∧ zeroD prog 71 = some (.raw (.map none)) := by and_intros <;> kernel_rfl
@[simp] theorem Tryz.ez_72 : esz prog 72 = some (1, 8) ∧ szOf prog 72 = some 1 ∧ tyk prog 72 = some (false, 1) ∧ zeroD prog 72 = some (.raw (.map none)) := by and_intros <;> kernel_rfl
@[simp] theorem Tryz.ez_74 : esz prog 74 = some (3, 24) ∧ szOf prog 74 = some 3 ∧ tyk prog 74 = some (true, 3) ∧ zeroD prog 74 = some (.agg [.raw (.map none), .raw (.map none), .int .i64 0]) ∧ structD prog 74 = some [.raw (.map none), .raw (.map none), .int .i64 0] := by and_intros <;> kernel_rfl
@[simp] theorem Tryz.fo_74_0 : fieldOff prog 74 0 = some 0 := by kernel_rfl
@[simp] theorem Tryz.fo_74_1 : fieldOff prog 74 1 = some 1 := by kernel_rfl
@[simp] theorem Tryz.fo_74_2 : fieldOff prog 74 2 = some 2 := by kernel_rfl
@[simp] theorem Tryz.ez_76 : esz prog 76 = some (1, 8) ∧ szOf prog 76 = some 1 ∧ tyk prog 76 = some (false, 1) ∧ zeroD prog 76 = some (.raw (.map none)) := by and_intros <;> kernel_rfl
@[simp] theorem Tryz.ez_78 : esz prog 78 = some (3, 40) ∧ szOf prog 78 = some 3 ∧ tyk prog 78 = some (true, 3) ∧ zeroD prog 78 = some (.agg [.int .i64 0, .raw (.map none), .sl []]) ∧ structD prog 78 = some [.int .i64 0, .raw (.map none), .sl []] := by and_intros <;> kernel_rfl
@[simp] theorem Tryz.fo_78_0 : fieldOff prog 78 0 = some 0 := by kernel_rfl
@[simp] theorem Tryz.fo_78_1 : fieldOff prog 78 1 = some 1 := by kernel_rfl
@[simp] theorem Tryz.fo_78_2 : fieldOff prog 78 2 = some 2 := by kernel_rfl
@[simp] theorem Tryz.ez_83 : esz prog 83 = some (4, 64) ∧ szOf prog 83 = some 4 ∧ tyk prog 83 = some (true, 4) ∧ zeroD prog 83 = some (.agg [.sl [], .sl [], .int .i64 0, .bool false]) ∧ structD prog 83 = some [.sl [], .sl [], .int .i64 0, .bool false] := by and_intros <;> kernel_rfl
@[simp] theorem Tryz.fo_83_0 : fieldOff prog 83 0 = some 0 := by kernel_rfl
@[simp] theorem Tryz.fo_83_1 : fieldOff prog 83 1 = some 1 := by kernel_rfl
@[simp] theorem Tryz.fo_83_2 : fieldOff prog 83 2 = some 2 := by kernel_rfl
@[simp] theorem Tryz.fo_83_3 : fieldOff prog 83 3 = some 3 := by kernel_rfl
@[simp] theorem Tryz.ez_86 : esz prog 86 = some (4, 80) ∧ szOf prog 86 = some 4 ∧ tyk prog 86 = some (true, 4) ∧ zeroD prog 86 = some (.agg [.int .i64 0, .sl [], .sl [], .sl []]) ∧ structD prog 86 = some [.int .i64 0, .sl [], .sl [], .sl []] := by and_intros <;> kernel_rfl
@[simp] theorem Tryz.fo_86_0 : fieldOff prog 86 0 = some 0 := by kernel_rfl
@[simp] theorem Tryz.fo_86_1 : fieldOff prog 86 1 = some 1 := by kernel_rfl
@[simp] theorem Tryz.fo_86_2 : fieldOff prog 86 2 = some 2 := by kernel_rfl
@[simp] theorem Tryz.fo_86_3 : fieldOff prog 86 3 = some 3 := by kernel_rfl
@[simp] theorem Tryz.ez_94 : esz prog 94 = some (1, 8) ∧ szOf prog 94 = some 1 ∧ tyk prog 94 = some (false, 1) ∧ zeroD prog 94 = some (.raw .nilFunc) := by and_intros <;> kernel_rfl
@[simp] theorem Tryz.ez_95 : esz prog 95 = some (1, 8) ∧ szOf prog 95 = some 1 ∧ tyk prog 95 = some (false, 1) ∧ zeroD prog 95 = some (.raw .nilFunc) := by and_intros <;> kernel_rfl
@[simp] theorem Tryz.ez_97 : esz prog 97 = some (5, 64) ∧ szOf prog 97 = some 5 ∧ tyk prog 97 = some (true, 5) := by and_intros <;> kernel_rfl
@[simp] theorem Tryz.zd_97 : zeroD prog 97 = some (.agg [.agg [.str [], .bool false, .sl []], .int .i64 0, .raw .nilFunc]) := by kernel_rfl
@[simp] theorem Tryz.sd_97 : structD prog 97 = some [.agg [.str [], .bool false, .sl []], .int .i64 0, .raw .nilFunc] := by kernel_rfl
@[simp] theorem Tryz.fo_97_0 : fieldOff prog 97 0 = some 0 := by kernel_rfl
@[simp] theorem Tryz.fo_97_1 : fieldOff prog 97 1 = some 3 := by kernel_rfl
@[simp] theorem Tryz.fo_97_2 : fieldOff prog 97 2 = some 4 := by kernel_rfl
@[simp] theorem Tryz.ez_99 : esz prog 99 = some (1, 8) ∧ szOf prog 99 = some 1 ∧ tyk prog 99 = some (false, 1) ∧ zeroD prog 99 = some (.raw .nilFunc) := by and_intros <;> kernel_rfl
@[simp] theorem Tryz.ez_104 : esz prog 104 = some (1, 8) ∧ szOf prog 104 = some 1 ∧ tyk prog 104 = some (false, 1) ∧ zeroD prog 104 = some (.raw .nilFunc) := by and_intros <;> kernel_rfl
@[simp] theorem Tryz.ez_105 : esz prog 105 = some (1, 8) ∧ szOf prog 105 = some 1 ∧ tyk prog 105 = some (false, 1) ∧ zeroD prog 105 = some (.raw .nilFunc) := by and_intros <;> kernel_rfl
@[simp] theorem Tryz.ez_112 : esz prog 112 = some (2, 40) := by kernel_rfl
@[simp] theorem Tryz.sz_112 : szOf prog 112 = some 2 := by kernel_rfl
@[simp] theorem Tryz.tk_112 : tyk prog 112 = some (true, 2) ∧ zeroD prog 112 = some (.agg [.str [], .sl []]) ∧ structD prog 112 = some [.str [], .sl []] := by and_intros <;> kernel_rfl
@[simp] theorem Tryz.fo_112_0 : fieldOff prog 112 0 = some 0 := by kernel_rfl
@[simp] theorem Tryz.fo_112_1 : fieldOff prog 112 1 = some 1 := by kernel_rfl
@[simp] theorem Tryz.ez_114 : esz prog 114 = some (1, 8) ∧ szOf prog 114 = some 1 ∧ tyk prog 114 = some (false, 1) ∧ zeroD prog 114 = some (.raw .nilFunc) := by and_intros <;> kernel_rfl
@[simp] theorem Tryz.ez_119 : esz prog 119 = some (1, 8) ∧ szOf prog 119 = some 1 ∧ tyk prog 119 = some (false, 1) ∧ zeroD prog 119 = some (.raw .nilFunc) := by and_intros <;> kernel_rfl
@[simp] theorem Tryz.ez_122 : esz prog 122 = some (1, 8) ∧ szOf prog 122 = some 1 ∧ tyk prog 122 = some (false, 1) ∧ zeroD prog 122 = some (.raw .nilFunc) := by and_intros <;> kernel_rfl
@[simp] theorem Tryz.ez_125 : esz prog 125 = some (1, 8) ∧ szOf prog 125 = some 1 ∧ tyk prog 125 = some (false, 1) ∧ zeroD prog 125 = some (.raw .nilFunc) := by and_intros <;> kernel_rfl
@[simp] theorem Tryz.ez_126 : esz prog 126 = some (1, 8) ∧ szOf prog 126 = some 1 ∧ tyk prog 126 = some (false, 1) ∧ zeroD prog 126 = some (.raw .nilFunc) := by and_intros <;> kernel_rfl
@[simp] theorem Tryz.ez_128 : esz prog 128 = some (1, 8) ∧ szOf prog 128 = some 1 ∧ tyk prog 128 = some (false, 1) ∧ zeroD prog 128 = some (.raw .nilFunc) := by and_intros <;> kernel_rfl
@[simp] theorem Tryz.u_136 : Program.underlying prog 136 = some (.int .u64) ∧ sliceE prog 136 = none ∧ esz prog 136 = some (1, 8) ∧ szOf prog 136 = some 1 ∧ tyk prog 136 = some (false, 1) ∧ zeroD prog 136 = some (.int .u64 0) := by and_intros <;> kernel_rfl
@[simp] theorem Tryz.u_147 : Program.underlying prog 147 = some (.int .u32) ∧ sliceE prog 147 = none ∧ esz prog 147 = some (1, 4) ∧ szOf prog 147 = some 1 ∧ tyk prog 147 = some (false, 1) ∧ zeroD prog 147 = some (.int .u32 0) := by and_intros <;> kernel_rfl
@[simp] theorem Tryz.u_149 : Program.underlying prog 149 = some (.int .u64) ∧ sliceE prog 149 = none ∧ esz prog 149 = some (1, 8) ∧ szOf prog 149 = some 1 ∧ tyk prog 149 = some (false, 1) ∧ zeroD prog 149 = some (.int .u64 0) := by and_intros <;> kernel_rfl
@[simp] theorem Tryz.u_159 : Program.underlying prog 159 = some (.pointer 3) ∧ esz prog 159 = some (1, 8) ∧ szOf prog 159 = some 1 ∧ tyk prog 159 = some (false, 1) ∧ zeroD prog 159 = some (.nilp) := by and_intros <;> kernel_rfl
end Go.Proofs
namespace Go.Proofs.Tz
open Go.Vw
theorem nbl {a b : Nat} (h : Nat.ble a b = true) : a ≤ b := Nat.le_of_ble_eq_true h
theorem ttl {α : Type} {i : Nat} {l : List α} (h : l.length ≤ i) : l.take i = l := List.take_of_length_le h
theorem ai {a b : Prop} (h : a) (k : b) : a ∧ b := ⟨h, k⟩
theorem gmm {α : Type} {l : List α} {n : Nat} (h : n < l.length) : l[n] ∈ l := List.getElem_mem h
theorem fv {f : FuncId} {fn : Func} {c : Code} {args : List AV} {t : Nat} {r : AV} (F : Nat → Bool) (hf : prog.funcs[f]? = some fn) (hk : (!(fn.name == "runtime.NumGoroutine") && okDst F fn.ntmps c) = true) (hb : fn.body = some c) (hres : fn.results = #[.tmp t]) (ha : Nat.ble args.length fn.ntmps = true) (harg : (args.all isArg) = true) (hone : oneOwn args = true) (h : vwp prog F c (EndV t r) (initS args)) : Ctr prog f args r :=
  fn_of_vwp F (by kernel_rfl) hf (by simpa using (Bool.and_eq_true_iff.1 hk).1) hb hres (Nat.le_of_ble_eq_true ha) (Bool.and_eq_true_iff.1 hk).2 harg hone h
set_option maxRecDepth 100000
set_option maxHeartbeats 4000000
def Again (N k : Nat) (I : Nat → St → Prop) (τ : St) : Prop := ∃ m', m' < N - k ∧ ∃ k', k' ≤ N ∧ m' = N - k' ∧ I k' τ
theorem again {N k : Nat} {I : Nat → St → Prop} {τ : St} (hk : k < N) (h : I (k + 1) τ) : Again N k I τ := ⟨N - (k + 1), by omega, k + 1, hk, rfl, h⟩
theorem loopN {body : (Exit → St → Prop) → St → Prop} {Q : Exit → St → Prop} {σ : St} (N : Nat) (I : Nat → St → Prop) (h0 : I 0 σ)
    (hr : ∀ k τ, k ≤ N → I k τ → body (thenV (Again N k I) Q) τ) : LoopK body Q σ :=
  ⟨fun m τ => ∃ k, k ≤ N ∧ m = N - k ∧ I k τ, N, ⟨0, Nat.zero_le _, rfl, h0⟩, by
    rintro m τ ⟨k, hk, rfl, hI⟩; exact hr k τ hk hI⟩
theorem take_s {α : Type} {l : List α} {k : Nat} (h : k < l.length) : l.take (k + 1) = l.take k ++ [l[k]] := by
  rw [List.take_succ_eq_append_getElem h]
def strs (l : List Str) : D := .sl (l.map .str)
def u8 (c : UInt8) : D := .int .u8 c.toNat
theorem has_fn (l : List Str) (s : Str) (hl : l.length < 1000000) : Ctr prog 119 [.d (strs l), .d (.str s)] (.d (.bool (decide (s ∈ l)))) := by
  refine fv (fun _ => false) func119 (by kernel_rfl) rfl rfl rfl rfl rfl ?_; simp -implicitDefEqProofs; refine loopN l.length (fun k τ => τ 0 = .d (strs l) ∧ τ 1 = .d (.str s) ∧ τ 5 = .d (.int .i64 k) ∧ s ∉ l.take k) (by simp) ?_; rintro k τ hk ⟨h0, h1, h5, hn⟩; by_cases hlt : k < l.length
  · by_cases he : l[k] = s
    · simp -implicitDefEqProofs [h0, h1, h5, strs, hlt, he]; exact he ▸ gmm _
    · simp -implicitDefEqProofs [h0, h1, h5, strs, hlt, he]; refine ⟨by omega, again hlt ⟨by simp [h0, strs], by simp [h1], by simp, ?_⟩⟩; rw [take_s hlt, List.mem_append, List.mem_singleton]; rintro (h | h)
      · exact hn h
      · exact he h.symm
  · simp -implicitDefEqProofs [h0, h5, strs, hlt]; rw [ttl (by omega)] at hn
    first | exact ⟨by omega, hn⟩ | exact hn
def isLetter (c : UInt8) : Bool := decide (97 ≤ (c.toNat : Int)) && decide ((c.toNat : Int) ≤ 122) || decide (65 ≤ (c.toNat : Int)) && decide ((c.toNat : Int) ≤ 90)
def isDigit (c : UInt8) : Bool := decide (48 ≤ (c.toNat : Int)) && decide ((c.toNat : Int) ≤ 57)
theorem letter_fn (c : UInt8) : Ctr prog 87 [.d (u8 c)] (.d (.bool (isLetter c))) := by
  refine fv (fun _ => false) func87 (by kernel_rfl) rfl rfl rfl rfl rfl ?_; by_cases h1 : 97 ≤ (c.toNat : Int) <;> by_cases h2 : (c.toNat : Int) ≤ 122 <;> by_cases h3 : 65 ≤ (c.toNat : Int) <;> simp -implicitDefEqProofs [u8, isLetter, h1, h2, h3]
theorem digit_fn (c : UInt8) : Ctr prog 88 [.d (u8 c)] (.d (.bool (isDigit c))) := by
  refine fv (fun _ => false) func88 (by kernel_rfl) rfl rfl rfl rfl rfl ?_; by_cases h1 : 48 ≤ (c.toNat : Int) <;> simp [u8, isDigit, h1]
def lowc (c : UInt8) : UInt8 := if 65 ≤ (c.toNat : Int) ∧ (c.toNat : Int) ≤ 90 then c + 32 else c
def lower (s : Str) : Str := s.map lowc
theorem lowc_toNat (c : UInt8) (h1 : 65 ≤ (c.toNat : Int)) (h2 : (c.toNat : Int) ≤ 90) : ((lowc c).toNat : Int) = c.toNat + 97 - 65 := by
  rw [lowc, if_pos ⟨h1, h2⟩, UInt8.toNat_add]; have : (32 : UInt8).toNat = 32 := rfl; omega
theorem bytes_u8 (s : Str) : s.map u8 = bytesD s := rfl
theorem lower_len (s : Str) : (lower s).length = s.length := by simp [lower]
theorem lower_take {s : Str} {k : Nat} (h : k < List.length s) : (lower (s.take (k + 1))).map u8 = (lower (s.take k)).map u8 ++ [u8 (lowc s[k])] := by
  rw [take_s h]; simp only [lower, List.map_append, List.map_cons, List.map_nil]
theorem lower_fn (s : Str) (hs : List.length s < 1000000) : Ctr prog 95 [.d (.str s)] (.d (.str (lower s))) := by
  refine fv (fun i => decide (i < 1000000)) func95 (by kernel_rfl) rfl rfl rfl rfl rfl ?_; simp -implicitDefEqProofs; refine loopN (List.length s) (fun k τ => τ 0 = .d (.str s) ∧ τ 4 = .d (.int .i64 k) ∧ τ 3 = .own true 5 ((lower (s.take k)).map u8)) (by simp [lower]) ?_; rintro k τ hk ⟨h0, h4, h3⟩; by_cases hlt : k < List.length s
  · by_cases h1 : 65 ≤ (s[k].toNat : Int)
    · by_cases h2 : (s[k].toNat : Int) ≤ 90
      · simp -implicitDefEqProofs [h0, h3, h4, hlt, h1, h2, lower_len]; refine ⟨by omega, by omega, by omega, by omega, again hlt ⟨by simp [h0], by simp, ?_⟩⟩; simp -implicitDefEqProofs [lower_take hlt, u8, lowc_toNat _ h1 h2]
      · simp -implicitDefEqProofs [h0, h3, h4, hlt, h1, h2, lower_len]; refine ⟨by omega, by omega, again hlt ⟨by simp [h0], by simp, ?_⟩⟩; simp -implicitDefEqProofs [lower_take hlt, u8, lowc, h2]
    · simp -implicitDefEqProofs [h0, h3, h4, hlt, h1, lower_len]; refine ⟨by omega, by omega, again hlt ⟨by simp [h0], by simp, ?_⟩⟩; simp -implicitDefEqProofs [lower_take hlt, u8, lowc, h1]
  · simp -implicitDefEqProofs [h0, h3, h4, hlt, bytes_u8]; rw [ttl (by omega)]
def nameC (c : UInt8) : Bool := isLetter c || isDigit c || decide ((c.toNat : Int) = 45)
def nameB (s : Str) : Bool := decide (1 ≤ s.length) && decide (s.length ≤ 64) && (s.head?.any isLetter) && s.all nameC
def cleanC (c : UInt8) : Bool := decide (32 ≤ (c.toNat : Int)) && decide ((c.toNat : Int) ≤ 126)
def cleanB (s : Str) : Bool := decide (1 ≤ s.length) && decide (s.length ≤ 256) && s.head? != some 32 && s.getLast? != some 32 && s.all cleanC
theorem all_take {s : Str} {p : UInt8 → Bool} {k : Nat} (h : k < List.length s) (ha : ∀ x ∈ s.take k, p x = true) (hp : p s[k] = true) : ∀ x ∈ s.take (k + 1), p x = true := by
  rw [take_s h]; intro x hx; rcases List.mem_append.1 hx with hx | hx
  · exact ha x hx
  · rw [List.mem_singleton.1 hx]; exact hp
theorem all_not {s : Str} {p : UInt8 → Bool} {k : Nat} (h : k < List.length s) (hp : p s[k] = false) : s.all p = false := by
  rw [List.all_eq_false]; exact ⟨_, gmm h, by simp [hp]⟩
theorem name_fn (s : Str) : Ctr prog 106 [.d (.str s)] (.d (.bool (nameB s))) := by
  refine fv (fun _ => false) func106 (by kernel_rfl) rfl rfl rfl rfl rfl ?_; by_cases hs : s = []
  · simp -implicitDefEqProofs [nameB, hs]
  obtain ⟨c, t, hct⟩ : ∃ c t, s = c :: t := List.exists_cons_of_ne_nil hs; have hpos : 0 < List.length s := by rw [hct]; simp
  have h1 : ¬ ((List.length s : Int) < 1) := (by omega); have hc0 : s[0] = c := (by simp [hct]); have hh : s.head? = some c := (by simp [hct]); by_cases h2 : 64 < (List.length s : Int)
  · have : ¬ List.length s ≤ 64 := (by omega); simp -implicitDefEqProofs [nameB, h1, h2, this]
  have h2' : List.length s ≤ 64 := (by omega); have h1' : 1 ≤ List.length s := hpos; simp -implicitDefEqProofs [h1, h2, hpos, hc0]; refine callK (letter_fn c) ?_; by_cases hc : isLetter c = true
  · simp -implicitDefEqProofs [hc]; refine loopN (List.length s) (fun k τ => τ 0 = .d (.str s) ∧ τ 3 = .d (.int .i64 k) ∧ ∀ x ∈ s.take k, nameC x = true) (by simp) ?_; rintro k τ hk ⟨h0, h3, ha⟩; by_cases hlt : k < List.length s
    · simp -implicitDefEqProofs [h0, h3, hlt]; refine callK (letter_fn s[k]) ?_; by_cases e1 : isLetter s[k] = true
      · simp -implicitDefEqProofs [e1, h0, h3, hlt]; refine ⟨by omega, again hlt ⟨by simp [h0], by simp, ?_⟩⟩; exact all_take hlt ha (by simp [nameC, e1])
      · simp -implicitDefEqProofs [e1, h0, h3, hlt]; refine callK (digit_fn s[k]) ?_; by_cases e2 : isDigit s[k] = true
        · simp -implicitDefEqProofs [e2, h0, h3, hlt]; refine ⟨by omega, again hlt ⟨by simp [h0], by simp, ?_⟩⟩; exact all_take hlt ha (by simp [nameC, e2])
        · by_cases e3 : (s[k].toNat : Int) = 45
          · simp -implicitDefEqProofs [e2, e3, h0, h3, hlt]; refine ⟨by omega, again hlt ⟨by simp [h0], by simp, ?_⟩⟩; exact all_take hlt ha (by simp [nameC, e3])
          · simp -implicitDefEqProofs [e2, e3, h0, h3, hlt]; simp -implicitDefEqProofs [nameB, all_not hlt (show nameC s[k] = false by simp [nameC, e1, e2, e3])]
    · simp -implicitDefEqProofs [h0, h3, hlt]; rw [ttl (by omega)] at ha; simp -implicitDefEqProofs [nameB, h1', h2', hh, hc]; exact ha
  · simp -implicitDefEqProofs [hc, nameB, hh]
end Go.Proofs.Tz
namespace Go.Proofs.Tz
open Go.Vw Go.Lib
theorem bl (x y : Str) : Op.bytesLess x y = decide (x < y) := bytesLess_eq x y
theorem bl_t {x y : Str} : Op.bytesLess x y = true ↔ x < y := by rw [bl]; simp
theorem bl_f {x y : Str} : Op.bytesLess x y = false ↔ ¬ x < y := by rw [bl]; simp
theorem s_irr (x : Str) : ¬ x < x := List.lt_irrefl x
theorem s_trans {x y z : Str} (h1 : x < y) (h2 : y < z) : x < z := List.lt_trans h1 h2
theorem s_tri {x y : Str} (h1 : ¬ x < y) (h2 : ¬ y < x) : x = y := List.le_antisymm (List.not_lt.1 h2) (List.not_lt.1 h1)
section
variable {α : Type} (k : α → Str)
def OrdK (l : List α) : Prop := l.Pairwise fun x y => k x < k y
def hasK (s : Str) (l : List α) : Bool := l.any fun x => decide (k x = s)
def getK (s : Str) (l : List α) : Option α := l.find? fun x => decide (k x = s)
def delK (s : Str) (l : List α) : List α := l.filter fun x => !decide (k x = s)
def lowL (s : Str) (l : List α) : List α := l.filter fun x => decide (k x < s)
def highL (s : Str) (l : List α) : List α := l.filter fun x => decide (s < k x)
def putK (a : α) (l : List α) : List α := lowL k (k a) l ++ a :: highL k (k a) l
def mapK (v : α → D) (l : List α) : List (D × D) := l.map fun x => (.str (k x), v x)
variable {k}
theorem OrdK.nodup {l : List α} (h : OrdK k l) : (l.map k).Nodup := List.pairwise_map.2 (List.Pairwise.imp (fun {a b} (hab : k a < k b) (e : k a = k b) => s_irr (k b) (by rw [e] at hab; exact hab)) h)
theorem hasK_get {s : Str} {l : List α} : hasK k s l = (getK k s l).isSome := by
  unfold hasK getK; rw [Bool.eq_iff_iff, List.any_eq_true, List.find?_isSome]
theorem getK_some {s : Str} {l : List α} {a : α} (h : getK k s l = some a) : a ∈ l ∧ k a = s := by
  have h1 := List.find?_some h; exact ⟨List.mem_of_find?_eq_some h, by simpa using h1⟩
theorem getK_mem {l : List α} (h : OrdK k l) {a : α} (ha : a ∈ l) : getK k (k a) l = some a := by
  induction l with
  | nil => simp at ha
  | cons x l ih =>
    have h2 := List.pairwise_cons.1 h; rcases List.mem_cons.1 ha with rfl | ha
    · simp [getK]
    · have hne : ¬ k x = k a := fun e => by have := h2.1 a ha; rw [e] at this; exact s_irr _ this
      have := ih h2.2 ha; unfold getK at this ⊢; rw [List.find?_cons]; simp only [hne, decide_false]; exact this
theorem hasK_false {s : Str} {l : List α} (h : hasK k s l = false) : ∀ x ∈ l, k x ≠ s := fun x hx e => by
  have : hasK k s l = true := List.any_eq_true.2 ⟨x, hx, by simp [e]⟩; rw [h] at this; cases this
theorem hasK_true {s : Str} {l : List α} (h : hasK k s l = true) : ∃ x ∈ l, k x = s := by
  obtain ⟨x, hx, e⟩ := List.any_eq_true.1 h; exact ⟨x, hx, by simpa using e⟩
theorem hasK_iff {s : Str} {l : List α} : hasK k s l = true ↔ s ∈ l.map k := by
  rw [hasK, List.any_eq_true, List.mem_map]; simp
theorem putK_OrdK {a : α} {l : List α} (h : OrdK k l) : OrdK k (putK k a l) := by
  unfold putK OrdK; rw [List.pairwise_append]; refine ⟨List.Pairwise.filter _ h, List.pairwise_cons.2 ⟨fun x hx => by simpa using (List.mem_filter.1 hx).2, List.Pairwise.filter _ h⟩, fun x hx y hy => ?_⟩; have h1 : k x < k a := by simpa using (List.mem_filter.1 hx).2
  rcases List.mem_cons.1 hy with rfl | hy
  · exact h1
  · exact s_trans h1 (by simpa using (List.mem_filter.1 hy).2)
theorem delK_OrdK {s : Str} {l : List α} (h : OrdK k l) : OrdK k (delK k s l) := List.Pairwise.filter _ h
theorem mem_putK {a x : α} {l : List α} : x ∈ putK k a l ↔ x = a ∨ (x ∈ l ∧ k x ≠ k a) := by
  unfold putK lowL highL; simp only [List.mem_append, List.mem_cons, List.mem_filter, decide_eq_true_eq]; constructor
  · rintro (⟨h1, h2⟩ | rfl | ⟨h1, h2⟩)
    · exact .inr ⟨h1, fun e => s_irr _ (e ▸ h2)⟩
    · exact .inl rfl
    · exact .inr ⟨h1, fun e => s_irr _ (e ▸ h2)⟩
  · rintro (rfl | ⟨h1, h2⟩)
    · exact .inr (.inl rfl)
    · by_cases h3 : k x < k a
      · exact .inl ⟨h1, h3⟩
      · by_cases h4 : k a < k x
        · exact .inr (.inr ⟨h1, h4⟩)
        · exact absurd (s_tri h3 h4) h2
theorem putK_perm (a : α) : ∀ (l : List α), (putK k a l).Perm (a :: delK k (k a) l)
  | [] => by simp [putK, lowL, highL, delK]
  | x :: l => by
    have ih := putK_perm a l; unfold putK lowL highL delK at ih ⊢; by_cases h1 : k x < k a
    · have h2 : ¬ k a < k x := fun h => s_irr _ (s_trans h1 h)
      have h3 : ¬ k x = k a := fun e => s_irr _ (e ▸ h1)
      simp only [List.filter_cons, h1, h2, h3, decide_true, decide_false, if_true, if_false, Bool.not_false, Bool.false_eq_true, List.cons_append]; exact (ih.cons x).trans (List.Perm.swap _ _ _)
    · by_cases h2 : k a < k x
      · have h3 : ¬ k x = k a := fun e => s_irr _ (e ▸ h2)
        simp only [List.filter_cons, h1, h2, h3, decide_true, decide_false, if_true, if_false, Bool.not_false, Bool.false_eq_true]; refine (List.perm_middle).trans ?_; refine (List.Perm.cons a (List.perm_middle)).trans ?_; refine (List.Perm.swap _ _ _).trans ?_; refine (List.Perm.cons x ((List.perm_middle).symm.trans ih)).trans (List.Perm.swap _ _ _)
      · have d1 : decide (k x < k a) = false := (by simp [h1]); have d2 : decide (k a < k x) = false := (by simp [h2]); have d3 : decide (k x = k a) = true := (by simp [s_tri h1 h2]); simp only [List.filter_cons, d1, d2, d3, if_true, if_false, Bool.not_true, Bool.false_eq_true]; exact ih
theorem takeWhile_low {s : Str} : ∀ {l : List α}, OrdK k l → l.takeWhile (fun x => decide (k x < s)) = lowL k s l ∧ ∀ x ∈ l.dropWhile (fun x => decide (k x < s)), ¬ k x < s
  | [], _ => ⟨rfl, by simp⟩
  | x :: l, h => by
    have h2 := List.pairwise_cons.1 h; obtain ⟨i1, i2⟩ := takeWhile_low (s := s) h2.2; by_cases h1 : k x < s
    · simp only [List.takeWhile_cons, List.dropWhile_cons, h1, decide_true, if_true, lowL, List.filter_cons]; exact ⟨by rw [i1]; rfl, i2⟩
    · have hall : ∀ y ∈ l, ¬ k y < s := fun y hy h3 => h1 (s_trans (h2.1 y hy) h3)
      simp only [List.takeWhile_cons, List.dropWhile_cons, h1, decide_false, lowL, List.filter_cons, if_false, Bool.false_eq_true]; refine ⟨(List.filter_eq_nil_iff.2 fun y hy => by simp [hall y hy]).symm, fun y hy => ?_⟩; rcases List.mem_cons.1 hy with rfl | hy
      · exact h1
      · exact hall y hy
def posK (k : α → Str) (s : Str) (l : List α) : Nat := (lowL k s l).length
theorem pos_take {s : Str} {l : List α} (h : OrdK k l) : l.take (posK k s l) = lowL k s l := by
  have h1 := (takeWhile_low (s := s) h).1; unfold posK; rw [← h1]; have := List.takeWhile_append_dropWhile (p := fun x => decide (k x < s)) (l := l)
  conv => lhs; arg 2; rw [← this]
  rw [List.take_left']; rfl
theorem pos_drop {s : Str} {l : List α} (h : OrdK k l) : l.drop (posK k s l) = (getK k s l).toList ++ highL k s l := by
  induction l with
  | nil => simp [posK, lowL, getK, highL]
  | cons x l ih =>
    have h2 := List.pairwise_cons.1 h; by_cases h1 : k x < s
    · have h3 : ¬ s < k x := fun h => s_irr _ (s_trans h1 h)
      have h4 : ¬ k x = s := fun e => s_irr s (by rw [e] at h1; exact h1)
      have : posK k s (x :: l) = posK k s l + 1 := (by simp [posK, lowL, List.filter_cons, h1]); rw [this, List.drop_succ_cons, ih h2.2]; simp [getK, highL, List.find?_cons, List.filter_cons, h3, h4]
    · have hall : ∀ y ∈ l, ¬ k y < s := fun y hy h3 => h1 (s_trans (h2.1 y hy) h3)
      have hp : posK k s (x :: l) = 0 := by
        have : lowL k s (x :: l) = [] := List.filter_eq_nil_iff.2 fun y hy => by
          rcases List.mem_cons.1 hy with rfl | hy
          · simp [h1]
          · simp [hall y hy]
        simp [posK, this]
      rw [hp, List.drop_zero]; by_cases h4 : k x = s
      · have h5 : ¬ s < k x := by rw [h4]; exact s_irr s
        have h6 : l.filter (fun x => decide (s < k x)) = l := List.filter_eq_self.2 fun y hy => by
          have := h2.1 y hy; rw [h4] at this; simp [this]
        simp [getK, highL, List.find?_cons, List.filter_cons, h4, s_irr, h6]
      · have h5 : s < k x := by
          by_cases h : s < k x
          · exact h
          · exact absurd (s_tri h1 h) h4
        have h6 : l.filter (fun x => decide (s < k x)) = l := List.filter_eq_self.2 fun y hy => by
          simp [s_trans h5 (h2.1 y hy)]
        have h7 : getK k s l = none := by
          rw [getK, List.find?_eq_none]; intro y hy; have := s_trans h5 (h2.1 y hy); simp only [decide_eq_true_eq]; exact fun e => s_irr s (by rw [e] at this; exact this)
        unfold getK at h7; simp [getK, highL, List.find?_cons, List.filter_cons, h4, h5, h6, h7]
theorem pos_get {s : Str} {l : List α} (h : OrdK k l) : (∃ x, l[posK k s l]? = some x ∧ k x = s ∧ getK k s l = some x) ∨ (getK k s l = none ∧ ∀ x, l[posK k s l]? = some x → k x ≠ s) := by
  have hd := pos_drop (s := s) h; have h0 : l[posK k s l]? = (l.drop (posK k s l))[0]? := by rw [List.getElem?_drop]; rfl
  cases hg : getK k s l with
  | some x =>
    refine .inl ⟨x, ?_, (getK_some hg).2, rfl⟩; rw [h0, hd, hg]; rfl
  | none =>
    refine .inr ⟨rfl, fun x hx => ?_⟩; rw [h0, hd, hg] at hx; have hm : x ∈ highL k s l := List.mem_of_getElem? (by simpa using hx); have : s < k x := by simpa using (List.mem_filter.1 hm).2
    exact fun e => s_irr s (by rw [e] at this; exact this)
theorem put_list {a : α} {l : List α} (h : OrdK k l) : l.take (posK k (k a) l) ++ a :: l.drop (posK k (k a) l + if hasK k (k a) l then 1 else 0) = putK k a l := by
  rw [pos_take h, hasK_get]; cases hg : getK k (k a) l with
  | none =>
    rw [if_neg (by simp), Nat.add_zero, pos_drop h, hg]; rfl
  | some x =>
    rw [if_pos (by simp), ← List.drop_drop, pos_drop h, hg]; rfl
theorem del_list {s : Str} {l : List α} (h : OrdK k l) (hs : hasK k s l = true) : l.take (posK k s l) ++ l.drop (posK k s l + 1) = delK k s l := by
  have h1 : l.drop (posK k s l + 1) = highL k s l := by
    rw [hasK_get] at hs; obtain ⟨x, hx⟩ := Option.isSome_iff_exists.1 hs; rw [← List.drop_drop, pos_drop h, hx]; rfl
  rw [h1, pos_take h]; clear h1 hs
  induction l with
  | nil => rfl
  | cons x l ih =>
    have h2 := List.pairwise_cons.1 h; have ih := ih h2.2; unfold lowL highL delK at ih ⊢; by_cases h1 : k x < s
    · have h3 : ¬ s < k x := fun h => s_irr _ (s_trans h1 h)
      have h4 : ¬ k x = s := fun e => s_irr s (by rw [e] at h1; exact h1)
      simp only [List.filter_cons, h1, h3, h4, decide_true, decide_false, if_true, if_false, Bool.not_false, Bool.false_eq_true, List.cons_append]; rw [ih]
    · have hall : l.filter (fun x => decide (k x < s)) = [] := List.filter_eq_nil_iff.2 fun y hy => by
        simp only [decide_eq_true_eq]; exact fun h3 => h1 (s_trans (h2.1 y hy) h3)
      rw [hall, List.nil_append] at ih; by_cases h3 : s < k x
      · have h4 : ¬ k x = s := fun e => s_irr s (by rw [e] at h3; exact h3)
        simp only [List.filter_cons, h1, h3, h4, decide_true, decide_false, if_true, if_false, Bool.not_false, Bool.false_eq_true, hall, List.nil_append]; rw [ih]
      · have h4 : k x = s := s_tri h1 h3; simp only [List.filter_cons, h1, h3, h4, decide_true, decide_false, if_true, if_false, Bool.not_true, Bool.false_eq_true, hall, List.nil_append]; simp only [h4, s_irr, decide_false, Bool.false_eq_true, if_false]; exact ih
theorem getK_put {a : α} {l : List α} (h : OrdK k l) (s : Str) : getK k s (putK k a l) = if k a = s then some a else getK k s l := by
  by_cases hs : k a = s
  · rw [if_pos hs, ← hs]; exact getK_mem (putK_OrdK h) (mem_putK.2 (.inl rfl))
  · rw [if_neg hs]; cases hg : getK k s l with
    | some x =>
      obtain ⟨h1, h2⟩ := getK_some hg; rw [← h2]; refine getK_mem (putK_OrdK h) (mem_putK.2 (.inr ⟨h1, fun e => hs (by rw [← e, h2])⟩))
    | none =>
      rw [getK, List.find?_eq_none] at hg ⊢; intro x hx; rcases mem_putK.1 hx with rfl | ⟨h1, h2⟩
      · simpa using hs
      · exact hg x h1
theorem putK_len {a : α} {l : List α} (h : OrdK k l) : (putK k a l).length = l.length + if hasK k (k a) l then 0 else 1 := by
  rw [(putK_perm a l).length_eq, List.length_cons]; cases hh : hasK k (k a) l with
  | false =>
    have : delK k (k a) l = l := List.filter_eq_self.2 fun x hx => by simp [hasK_false hh x hx]
    rw [this]; simp
  | true =>
    rw [← del_list h hh, List.length_append, List.length_take, List.length_drop, if_pos rfl]; rcases pos_get (s := k a) h with ⟨x, hx, _⟩ | ⟨hn, _⟩
    · have := (List.getElem?_eq_some_iff.1 hx).1; omega
    · rw [hasK_get, hn] at hh; cases hh
theorem putK_le {a : α} {l : List α} (h : OrdK k l) : (putK k a l).length ≤ l.length + 1 := by
  rw [putK_len h]; split <;> omega
theorem delK_le {s : Str} {l : List α} : (delK k s l).length ≤ l.length := List.length_filter_le _ _
variable {v : α → D}
theorem mget_K (l : List α) (s : Str) : mget (mapK k v l) (.str s) = (getK k s l).map v := by
  unfold mget mapK getK; rw [List.find?_map]; have : ((fun p : D × D => keyEq p.1 (.str s)) ∘ fun x : α => ((.str (k x) : D), v x)) = fun x : α => decide (k x = s) := by
    funext x; simp [keyEq]
  rw [this]; cases List.find? (fun x : α => decide (k x = s)) l <;> rfl
theorem mapK_len (l : List α) : (mapK k v l).length = l.length := by simp [mapK]
theorem mdel_K (l : List α) (s : Str) : mdel (mapK k v l) (.str s) = mapK k v (delK k s l) := by
  unfold mdel mapK delK; rw [List.filter_map]; congr 1
theorem any_K (l : List α) (s : Str) : (mapK k v l).any (fun p => keyEq p.1 (.str s)) = hasK k s l := by
  unfold mapK hasK; rw [List.any_map]; congr 1
theorem repK_perm {a : α} : ∀ {l : List α}, (l.map k).Nodup → hasK k (k a) l = true → List.Perm (l.map fun x => if k x = k a then a else x) (a :: delK k (k a) l)
  | [], _, h => by simp [hasK] at h
  | x :: l, hn, h => by
    have hn2 := List.nodup_cons.1 hn; by_cases hx : k x = k a
    · have hno : ∀ y ∈ l, k y ≠ k a := fun y hy q => hn2.1 (List.mem_map.2 ⟨y, hy, q.trans hx.symm⟩)
      have e1 : (l.map fun x => if k x = k a then a else x) = l := by
        conv => rhs; rw [← List.map_id l]
        exact List.map_congr_left fun y hy => by rw [if_neg (hno y hy)]; rfl
      have e2 : delK k (k a) l = l := List.filter_eq_self.2 fun y hy => by simp [hno y hy]
      have e3 : delK k (k a) (x :: l) = delK k (k a) l := (by simp [delK, hx]); rw [List.map_cons, if_pos hx, e1, e3, e2]
    · have h' : hasK k (k a) l = true := (by simpa [hasK, hx] using h); have e3 : delK k (k a) (x :: l) = x :: delK k (k a) l := (by simp [delK, hx]); rw [List.map_cons, if_neg hx, e3]; exact ((repK_perm hn2.2 h').cons x).trans (List.Perm.swap _ _ _)
theorem mset_K {l : List α} (h : OrdK k l) (a : α) : List.Perm (mapK k v (putK k a l)) (mset (mapK k v l) (.str (k a)) (v a)) := by
  unfold mset; rw [any_K]; cases hh : hasK k (k a) l with
  | false =>
    rw [if_neg (by simp)]; have e2 : delK k (k a) l = l := List.filter_eq_self.2 fun y hy => by simp [hasK_false hh y hy]
    refine (((putK_perm a l).map _).trans ?_ : List.Perm (mapK k v (putK k a l)) _); rw [e2, List.map_cons]; exact (List.perm_append_singleton _ _).symm
  | true =>
    rw [if_pos rfl]; have e1 : (mapK k v l).map (fun p => if keyEq p.1 (.str (k a)) = true then (p.1, v a) else p) = mapK k v (l.map fun x => if k x = k a then a else x) := by
      unfold mapK; rw [List.map_map, List.map_map]; refine List.map_congr_left fun x _ => ?_
      by_cases q : k x = k a <;> simp [keyEq, q]
    rw [e1]; exact (((putK_perm a l).trans (repK_perm h.nodup hh).symm).map _)
theorem keysS_K {l : List α} (h : OrdK k l) : keysS (mapK k v l) = l.map k := by
  have e : ((mapK k v l).map fun p => keyS p.1) = l.map k := by
    unfold mapK; rw [List.map_map]; rfl
  unfold keysS; rw [e]; refine List.mergeSort_of_pairwise (List.pairwise_map.2 (h.imp fun hxy => ?_)); simp only [decide_eq_true_eq]; exact List.le_of_lt hxy
theorem keyS_K {l : List α} {n : Nat} (h : ∀ x ∈ l, (k x).length ≤ n) : ∀ p ∈ mapK k v l, (keyS p.1).length ≤ n := fun p hp => by
  obtain ⟨x, hx, rfl⟩ := List.mem_map.1 hp; exact h x hx
end
end Go.Proofs.Tz
namespace Go.Proofs.Tz
open Go.Vw
set_option maxRecDepth 100000
theorem clean_fn (s : Str) : Ctr prog 118 [.d (.str s)] (.d (.bool (cleanB s))) := by
  refine fv (fun _ => false) func118 (by kernel_rfl) rfl rfl rfl rfl rfl ?_; by_cases hs : s = []
  · simp -implicitDefEqProofs [cleanB, hs]
  have hpos : 0 < List.length s := by
    cases s with
    | nil => exact absurd rfl hs
    | cons => simp
  have h1 : ¬ ((List.length s : Int) < 1) := (by omega); have hh : s.head? = some s[0] := (by simp [List.head?_eq_getElem?, hpos]); have hl : s.getLast? = some s[List.length s - 1] := by rw [List.getLast?_eq_getElem?, List.getElem?_eq_getElem (by omega)]
  have hi : 0 ≤ (List.length s : Int) - 1 := (by omega); have hi2 : ((List.length s : Int) - 1).toNat = List.length s - 1 := (by omega); have hi3 : List.length s - 1 < List.length s := (by omega); have hi4 : -9223372036854775808 ≤ (List.length s : Int) - 1 := (by omega); by_cases h2 : 256 < (List.length s : Int)
  · have : ¬ List.length s ≤ 256 := (by omega); simp -implicitDefEqProofs [cleanB, h1, h2, this]
  have h2' : List.length s ≤ 256 := (by omega); have h1' : 1 ≤ List.length s := hpos; have hi5 : (List.length s : Int) - 1 ≤ 9223372036854775807 := (by omega); by_cases ha : (s[0].toNat : Int) = 32
  · have : s[0] = 32 := by apply UInt8.toNat_inj.1; rw [show (32 : UInt8).toNat = 32 from rfl]; omega
    simp -implicitDefEqProofs [cleanB, h1, h2, hpos, ha, hh, this]
  have ha' : ¬ s[0] = 32 := fun e => ha (by rw [e]; rfl)
  by_cases hb : (s[List.length s - 1].toNat : Int) = 32
  · have : s[List.length s - 1] = 32 := by apply UInt8.toNat_inj.1; rw [show (32 : UInt8).toNat = 32 from rfl]; omega
    simp -implicitDefEqProofs [cleanB, h1, h2, hpos, ha, hh, hl, hb, hi, hi2, hi3, hi4, hi5, this]
    all_goals omega
  have hb' : ¬ s[List.length s - 1] = 32 := fun e => hb (by rw [e]; rfl)
  simp -implicitDefEqProofs [h1, h2, hpos, ha, hb, hi, hi2, hi3, hi4, hi5]; refine ⟨by omega, ?_⟩; refine loopN (List.length s) (fun k τ => τ 0 = .d (.str s) ∧ τ 3 = .d (.int .i64 k) ∧ ∀ x ∈ s.take k, cleanC x = true) (by simp) ?_; rintro k τ hk ⟨h0, h3, hall⟩; by_cases hlt : k < List.length s
  · by_cases e1 : (s[k].toNat : Int) < 32
    · have e1' : ¬ 32 ≤ (s[k].toNat : Int) := (by omega); simp -implicitDefEqProofs [h0, h3, hlt, e1]; simp -implicitDefEqProofs [cleanB, all_not hlt (show cleanC s[k] = false by simp [cleanC, e1'])]
    · by_cases e2 : 126 < (s[k].toNat : Int)
      · have e2' : ¬ (s[k].toNat : Int) ≤ 126 := (by omega); simp -implicitDefEqProofs [h0, h3, hlt, e1, e2]; simp -implicitDefEqProofs [cleanB, all_not hlt (show cleanC s[k] = false by simp [cleanC, e2'])]
      · have e1' : 32 ≤ (s[k].toNat : Int) := (by omega); have e2' : (s[k].toNat : Int) ≤ 126 := (by omega); simp -implicitDefEqProofs [h0, h3, hlt, e1, e2]; refine ⟨by omega, again hlt ⟨by simp [h0], by simp, ?_⟩⟩; exact all_take hlt hall (by simp [cleanC, e1', e2'])
  · simp -implicitDefEqProofs [h0, h3, hlt]; rw [ttl (by omega)] at hall; simp -implicitDefEqProofs [cleanB, h1', h2', hh, hl, ha', hb']; exact hall
theorem same_fn (l m : List Str) (hl : l.length < 1000000) (hm : m.length < 1000000) : Ctr prog 109 [.d (strs l), .d (strs m)] (.d (.bool (decide (l = m)))) := by
  refine fv (fun _ => false) func109 (by kernel_rfl) rfl rfl rfl rfl rfl ?_; by_cases hlm : l.length = m.length
  · simp -implicitDefEqProofs [strs, hlm]; refine loopN m.length (fun k τ => τ 0 = .d (strs l) ∧ τ 1 = .d (strs m) ∧ τ 5 = .d (.int .i64 k) ∧ l.take k = m.take k) (by simp [strs]) ?_; rintro k τ hk ⟨h0, h1, h5, ht⟩; by_cases hlt : k < m.length
    · have hlt' : k < l.length := (by omega); by_cases he : l[k] = m[k]
      · simp -implicitDefEqProofs [h0, h1, h5, strs, hlm, hlt, hlt', he]; refine ⟨by omega, again hlt ⟨by simp [h0, strs], by simp [h1, strs], by simp, ?_⟩⟩; rw [take_s hlt, take_s hlt', ht, he]
      · simp -implicitDefEqProofs [h0, h1, h5, strs, hlm, hlt, hlt', he]; rintro rfl; exact he rfl
    · simp -implicitDefEqProofs [h0, h1, h5, strs, hlm, hlt]; rw [ttl (by omega), ttl (by omega)] at ht
      first | exact ⟨by omega, ht⟩ | exact ht
  · have hlm' : ¬ (l.length : Int) = m.length := (by omega); simp -implicitDefEqProofs [strs, hlm']; rintro rfl; exact hlm rfl
def insS (s : Str) (r : Bool × List Str) (x : Str) : Bool × List Str :=
  (r.1 || !Op.bytesLess x s, r.2 ++ (if r.1 = false ∧ Op.bytesLess x s = false then [s] else []) ++ (if x = s then [] else [x]))
def insF (s : Str) (l : List Str) : Bool × List Str := l.foldl (insS s) (false, [])
def ins (l : List Str) (s : Str) : List Str := (insF s l).2 ++ (if (insF s l).1 then [] else [s])
theorem insF_take {s : Str} {l : List Str} {k : Nat} (h : k < l.length) : insF s (l.take (k + 1)) = insS s (insF s (l.take k)) l[k] := by
  rw [take_s h]; simp only [insF, List.foldl_append, List.foldl_cons, List.foldl_nil]
theorem insF_len (s : Str) : ∀ (l : List Str) (r : Bool × List Str), (l.foldl (insS s) r).2.length ≤ r.2.length + 2 * l.length
  | [], r => by simp
  | x :: l, r => by
    have := insF_len s l (insS s r x); simp only [List.foldl_cons, List.length_cons]; have h2 : (insS s r x).2.length ≤ r.2.length + 2 := by
      simp only [insS, List.length_append]; split <;> split <;> simp <;> omega
    all_goals omega
theorem insF_len' (s : Str) (l : List Str) : (insF s l).2.length ≤ 2 * l.length := by simpa [insF] using insF_len s l (false, [])
theorem ins_fn (l : List Str) (s : Str) (hl : l.length < 1000000) : Ctr prog 94 [.d (strs l), .d (.str s)] (.own true 9 ((ins l s).map .str)) := by
  refine fv (fun i => decide (i < 1000000)) func94 (by kernel_rfl) rfl rfl rfl rfl rfl ?_; simp -implicitDefEqProofs; refine loopN l.length (fun k τ => τ 0 = .d (strs l) ∧ τ 1 = .d (.str s) ∧ τ 6 = .d (.bool (insF s (l.take k)).1) ∧ τ 5 = .own true 9 ((insF s (l.take k)).2.map .str) ∧ τ 7 = .d (.int .i64 k)) (by simp [insF]) ?_; rintro k τ hk ⟨h0, h1, h6, h5, h7⟩; have hlen := insF_len' s (l.take k); rw [List.length_take, Nat.min_eq_left hk] at hlen; have ht := fun h => insF_take (s := s) (l := l) (k := k) h
  generalize hr : insF s (l.take k) = r at *; obtain ⟨d, out⟩ := r; simp only at hlen h6 h5; by_cases hlt : k < l.length
  · have ht := ht hlt; cases d with
    | true =>
      by_cases he : l[k] = s
      · simp -implicitDefEqProofs [h0, h1, h6, h5, h7, strs, hlt, he]; refine ⟨by omega, again hlt ⟨by simp [h0, strs], by simp [h1], ?_, ?_, by simp⟩⟩
        · rw [ht]; simp [h6, insS]
        · rw [ht]; simp [h5, insS, he]
      · simp -implicitDefEqProofs [h0, h1, h6, h5, h7, strs, hlt, he]; refine ⟨by omega, by omega, by omega, again hlt ⟨by simp [h0, strs], by simp [h1], ?_, ?_, by simp⟩⟩
        · rw [ht]; simp [h6, insS]
        · rw [ht]; simp [h5, insS, he]
    | false =>
      by_cases hb : Op.bytesLess l[k] s = true
      · by_cases he : l[k] = s
        · have hb' : Op.bytesLess s s = true := by rw [he] at hb; exact hb
          simp -implicitDefEqProofs [h0, h1, h6, h5, h7, strs, hlt, he, hb']; refine ⟨by omega, again hlt ⟨by simp [h0, strs], by simp [h1], ?_, ?_, by simp⟩⟩
          · rw [ht]; simp [h6, insS, he, hb']
          · rw [ht]; simp [h5, insS, he, hb']
        · simp -implicitDefEqProofs [h0, h1, h6, h5, h7, strs, hlt, he, hb]; refine ⟨by omega, by omega, by omega, again hlt ⟨by simp [h0, strs], by simp [h1], ?_, ?_, by simp⟩⟩
          · rw [ht]; simp [h6, insS, he, hb]
          · rw [ht]; simp [h5, insS, he, hb]
      · by_cases he : l[k] = s
        · have hb' : Op.bytesLess s s = false := by rw [he] at hb; simpa using hb
          simp -implicitDefEqProofs [h0, h1, h6, h5, h7, strs, hlt, he, hb']; refine ⟨by omega, by omega, by omega, again hlt ⟨by simp [h0, strs], by simp [h1], ?_, ?_, by simp⟩⟩
          · rw [ht]; simp [h6, insS, he, hb']
          · rw [ht]; simp [h5, insS, he, hb']
        · simp -implicitDefEqProofs [h0, h1, h6, h5, h7, strs, hlt, he, hb]; refine ⟨by omega, by omega, by omega, by omega, by omega, again hlt ⟨by simp [h0, strs], by simp [h1], ?_, ?_, by simp⟩⟩
          · rw [ht]; simp [h6, insS, he, hb]
          · rw [ht]; simp [h5, insS, he, hb]
  · rw [ttl (by omega)] at hr; cases d with
    | true =>
      simp -implicitDefEqProofs [h0, h1, h6, h5, h7, strs, hlt, ins, hr]
      all_goals omega
    | false =>
      simp -implicitDefEqProofs [h0, h1, h6, h5, h7, strs, hlt, ins, hr]
      all_goals omega
abbrev Att := Str × List Str
def att (a : Att) : D := .agg [.str a.1, strs a.2]
def atts (l : List Att) : D := .sl (l.map att)
def Fits (l : List Att) : Prop := l.length < 1000000 ∧ ∀ a ∈ l, List.length a.1 < 1000000 ∧ a.2.length < 1000000
theorem twice_fn (l : List Att) (i : Nat) (hi : i < l.length) (hl : Fits l) : Ctr prog 107 [.d (atts l), .d (.int .i64 i)] (.d (.bool ((l.take i).any fun a => decide (lower a.1 = lower l[i].1)))) := by
  refine fv (fun _ => false) func107 (by kernel_rfl) rfl rfl rfl rfl rfl ?_; simp -implicitDefEqProofs; have hl1 := hl.1; refine loopN i (fun k τ => τ 0 = .d (atts l) ∧ τ 1 = .d (.int .i64 i) ∧ τ 5 = .d (.int .i64 k) ∧ ∀ a ∈ l.take k, ¬ lower a.1 = lower l[i].1) (by simp) ?_; rintro k τ hk ⟨h0, h1, h5, ha⟩; by_cases hlt : k < i
  · have hlt2 : k < l.length := (by omega); simp -implicitDefEqProofs [h0, h1, h5, hlt, hlt2, atts, att, strs, hi]; refine callP (lower_fn _ (hl.2 _ (gmm hlt2)).1) ?_; simp -implicitDefEqProofs [h0, h1, h5, hlt, hlt2, atts, att, strs, hi]; refine callP (lower_fn _ (hl.2 _ (gmm hi)).1) ?_; by_cases he : lower l[k].1 = lower l[i].1
    · simp -implicitDefEqProofs [h0, h1, h5, hlt, hlt2, atts, att, strs, hi, he]; refine ⟨l[k].1, ⟨l[k].2, ?_⟩, he⟩; rw [List.mem_take_iff_getElem]; exact ⟨k, by omega, rfl⟩
    · simp -implicitDefEqProofs [h0, h1, h5, hlt, hlt2, atts, att, strs, hi, he]; refine ⟨by omega, again hlt ⟨by simp [h0, atts, att, strs], by simp [h1], by simp, ?_⟩⟩; rw [take_s hlt2]; intro a b hm; rcases List.mem_append.1 hm with hm | hm
      · exact ha _ hm
      · have := List.mem_singleton.1 hm; rw [← this] at he; exact he
  · simp -implicitDefEqProofs [h0, h1, h5, hlt]; obtain rfl : k = i := by omega
    exact fun a b h => ha (a, b) h
def chkV (old : List Str) : List Str → List Str → Int
  | _, [] => 0
  | b, v :: l => if cleanB v = false then 4 else if v ∈ old ∨ v ∈ b then 7 else chkV old (b ++ [v]) l
theorem chkV_drop {old l : List Str} {k : Nat} (h : k < l.length) : chkV old (l.take k) (l.drop k) = if cleanB l[k] = false then 4 else if l[k] ∈ old ∨ l[k] ∈ l.take k then 7 else chkV old (l.take (k + 1)) (l.drop (k + 1)) := by
  rw [List.drop_eq_getElem_cons h, chkV, take_s h]
theorem checkValues_fn (l old : List Str) (hl : l.length < 1000000) (ho : old.length < 1000000) : Ctr prog 108 [.d (strs l), .d (strs old)] (.d (.int .i64 (chkV old [] l))) := by
  refine fv (fun _ => false) func108 (by kernel_rfl) rfl rfl rfl rfl rfl ?_; simp -implicitDefEqProofs; refine loopN l.length (fun k τ => τ 0 = .d (strs l) ∧ τ 1 = .d (strs old) ∧ τ 5 = .d (.int .i64 k) ∧ chkV old [] l = chkV old (l.take k) (l.drop k)) (by simp) ?_; rintro k τ hk ⟨h0, h1, h5, hc⟩; by_cases hlt : k < l.length
  · rw [chkV_drop hlt] at hc; have hw : ∀ y ∈ List.map D.str l, width y = 1 := (by simp [width]); simp -implicitDefEqProofs [h0, h1, h5, hlt, strs]; refine callK (clean_fn l[k]) ?_; by_cases e1 : cleanB l[k] = true
    · simp -implicitDefEqProofs [h0, h1, h5, hlt, strs, e1]; refine callP (has_fn old l[k] ho) ?_; by_cases e2 : l[k] ∈ old
      · simp -implicitDefEqProofs [h0, h1, h5, hlt, strs, e1, e2]; rw [hc]; simp [e1, e2]
      · simp -implicitDefEqProofs [h0, h1, h5, hlt, strs, e1, e2]; have hf := has_fn (l.take k) l[k] (by rw [List.length_take]; omega); simp only [strs, List.map_take] at hf; refine ⟨hk, callP hf ?_⟩; by_cases e3 : l[k] ∈ l.take k
        · simp -implicitDefEqProofs [h0, h1, h5, hlt, strs, e1, e2, e3]; rw [hc]; simp [e1, e2, e3]
        · simp -implicitDefEqProofs [h0, h1, h5, hlt, strs, e1, e2, e3]; refine ⟨by omega, again hlt ⟨by simp [h0, strs], by simp [h1, strs], by simp, ?_⟩⟩; rw [hc]; simp [e1, e2, e3]
    · simp -implicitDefEqProofs [h0, h1, h5, hlt, strs, e1]; rw [hc]; simp [e1]
  · simp -implicitDefEqProofs [h0, h1, h5, hlt, strs]; rw [hc, List.drop_eq_nil_of_le (by omega)]
    first | exact ⟨by omega, by simp [chkV]⟩ | (simp [chkV]; done)
theorem sameA_fn (l m : List Att) (hl : Fits l) (hm : Fits m) : Ctr prog 79 [.d (atts l), .d (atts m)] (.d (.bool (decide (l = m)))) := by
  refine fv (fun _ => false) func79 (by kernel_rfl) rfl rfl rfl rfl rfl ?_; have hl1 := hl.1; have hm1 := hm.1; by_cases hlm : l.length = m.length
  · simp -implicitDefEqProofs [atts, hlm]; refine loopN m.length (fun k τ => τ 0 = .d (atts l) ∧ τ 1 = .d (atts m) ∧ τ 5 = .d (.int .i64 k) ∧ l.take k = m.take k) (by simp [atts]) ?_; rintro k τ hk ⟨h0, h1, h5, ht⟩; by_cases hlt : k < m.length
    · have hlt' : k < l.length := (by omega); by_cases he : l[k].1 = m[k].1
      · simp -implicitDefEqProofs [h0, h1, h5, atts, att, strs, hlm, hlt, hlt', he]; refine callP (same_fn _ _ (hl.2 _ (gmm hlt')).2 (hm.2 _ (gmm hlt)).2) ?_; by_cases he2 : l[k].2 = m[k].2
        · simp -implicitDefEqProofs [h0, h1, h5, atts, att, strs, hlm, hlt, hlt', he, he2]; refine ⟨by omega, again hlt ⟨by simp [h0, atts, att, strs], by simp [h1, atts, att, strs], by simp, ?_⟩⟩; rw [take_s hlt, take_s hlt', ht, Prod.ext he he2]
        · simp -implicitDefEqProofs [h0, h1, h5, atts, att, strs, hlm, hlt, hlt', he, he2]; rintro rfl; exact he2 rfl
      · simp -implicitDefEqProofs [h0, h1, h5, atts, att, strs, hlm, hlt, hlt', he]; rintro rfl; exact he rfl
    · simp -implicitDefEqProofs [h0, h1, h5, atts, hlm, hlt]; rw [ttl (by omega), ttl (by omega)] at ht
      first | exact ⟨by omega, ht⟩ | exact ht
  · have hlm' : ¬ (l.length : Int) = m.length := (by omega); simp -implicitDefEqProofs [atts, hlm']; rintro rfl; exact hlm rfl
def chkA : List Att → List Att → Int
  | _, [] => 0
  | b, a :: l => if nameB a.1 = false then 5 else if b.any (fun c => decide (lower c.1 = lower a.1)) then 7 else if a.2.length = 0 then 6 else if 16 < a.2.length then 3
      else if chkV [] [] a.2 ≠ 0 then chkV [] [] a.2 else chkA (b ++ [a]) l
def checkL (l : List Att) : Int := if 32 < l.length then 3 else chkA [] l
theorem chkA_drop {l : List Att} {k : Nat} (h : k < l.length) : chkA (l.take k) (l.drop k) = if nameB l[k].1 = false then 5 else if (l.take k).any (fun c => decide (lower c.1 = lower l[k].1)) then 7 else if l[k].2.length = 0 then 6 else if 16 < l[k].2.length then 3
      else if chkV [] [] l[k].2 ≠ 0 then chkV [] [] l[k].2 else chkA (l.take (k + 1)) (l.drop (k + 1)) := by
  rw [List.drop_eq_getElem_cons h, chkA, take_s h]
theorem checkR_fn (l : List Att) (hl : Fits l) : Ctr prog 78 [.d (atts l)] (.d (.int .i64 (checkL l))) := by
  refine fv (fun _ => false) func78 (by kernel_rfl) rfl rfl rfl rfl rfl ?_; have hl1 := hl.1; by_cases h32 : 32 < (l.length : Int)
  · have : 32 < l.length := (by omega); simp -implicitDefEqProofs [atts, checkL, h32, this]
    all_goals (intro h; omega)
  have h32' : ¬ 32 < l.length := (by omega); simp -implicitDefEqProofs [atts, h32]; refine loopN l.length (fun k τ => τ 0 = .d (atts l) ∧ τ 3 = .d (.int .i64 k) ∧ checkL l = chkA (l.take k) (l.drop k)) (by simp [atts, checkL, h32']) ?_; rintro k τ hk ⟨h0, h3, hc⟩; by_cases hlt : k < l.length
  · rw [chkA_drop hlt] at hc; simp -implicitDefEqProofs [h0, h3, hlt, atts, att, strs]; refine callK (name_fn l[k].1) ?_; by_cases e1 : nameB l[k].1 = true
    · simp -implicitDefEqProofs [h0, h3, hlt, atts, att, strs, e1]; have hf := twice_fn l k hlt hl; simp only [atts] at hf; refine callK hf ?_; by_cases e2 : (l.take k).any (fun c => decide (lower c.1 = lower l[k].1)) = true
      · simp only [e2]; simp -implicitDefEqProofs [h0, h3, hlt, atts, att, strs]; rw [hc]; simp [e1, e2]
      · rw [Bool.not_eq_true] at e2; simp only [e2]; by_cases e3 : l[k].2 = []
        · simp -implicitDefEqProofs [h0, h3, hlt, atts, att, strs, e3]; rw [hc]; simp [e1, e2, e3]
        · have e3' : ¬ (l[k].2.length : Int) = 0 := (by simpa using e3); by_cases e4 : 16 < (l[k].2.length : Int)
          · have e4' : 16 < l[k].2.length := (by omega); simp -implicitDefEqProofs [h0, h3, hlt, atts, att, strs, e3, e4]; rw [hc]; simp [e1, e2, e3, e4']
          · have e4' : ¬ 16 < l[k].2.length := (by omega); simp -implicitDefEqProofs [h0, h3, hlt, atts, att, strs, e3, e4]; have hf := checkValues_fn l[k].2 [] (hl.2 _ (gmm hlt)).2 (by simp); simp only [strs, List.map_nil] at hf; refine callK hf ?_; by_cases e5 : chkV [] [] l[k].2 = 0
            · simp -implicitDefEqProofs [h0, h3, hlt, atts, att, strs, e3, e4, e5]; refine ⟨by omega, again hlt ⟨by simp [h0, atts, att, strs], by simp, ?_⟩⟩; rw [hc]; simp only [e1, e2, e3, e4', e5, if_false, Bool.true_eq_false, Bool.false_eq_true, List.length_eq_zero_iff, ne_eq, not_true_eq_false]
            · simp -implicitDefEqProofs [h0, h3, hlt, atts, att, strs, e3, e4, e5]; rw [hc]; simp [e1, e2, e3, e4', e5]
    · simp -implicitDefEqProofs [h0, h3, hlt, atts, att, strs, e1]; rw [hc]; simp [e1]
  · simp -implicitDefEqProofs [h0, h3, hlt, atts]; rw [hc, List.drop_eq_nil_of_le (by omega)]
    first | exact ⟨by omega, by simp [chkA]⟩ | (simp [chkV, chkA]; done)
theorem upper_fn (c : UInt8) : Ctr prog 111 [.d (u8 c)] (.d (.bool (decide (65 ≤ (c.toNat : Int)) && decide ((c.toNat : Int) ≤ 90)))) := by
  refine fv (fun _ => false) func111 (by kernel_rfl) rfl rfl rfl rfl rfl ?_; by_cases h1 : 65 ≤ (c.toNat : Int) <;> simp [u8, h1]
theorem fletter_fn (c : UInt8) : Ctr prog 85 [.d (u8 c)] (.d (.bool (isLetter c))) := by
  refine fv (fun _ => false) func85 (by kernel_rfl) rfl rfl rfl rfl rfl ?_; simp -implicitDefEqProofs; refine callK (upper_fn c) ?_; by_cases h1 : 97 ≤ (c.toNat : Int) <;> by_cases h2 : (c.toNat : Int) ≤ 122 <;> by_cases h3 : 65 ≤ (c.toNat : Int) <;> by_cases h4 : (c.toNat : Int) ≤ 90 <;> simp -implicitDefEqProofs [u8, isLetter, h1, h2, h3, h4]
theorem fdigit_fn (c : UInt8) : Ctr prog 86 [.d (u8 c)] (.d (.bool (isDigit c))) := by
  refine fv (fun _ => false) func86 (by kernel_rfl) rfl rfl rfl rfl rfl ?_; by_cases h1 : 48 ≤ (c.toNat : Int) <;> simp [u8, isDigit, h1]
theorem allowed_fn (c : UInt8) : Ctr prog 116 [.d (u8 c)] (.d (.bool (nameC c))) := by
  refine fv (fun _ => false) func116 (by kernel_rfl) rfl rfl rfl rfl rfl ?_; simp -implicitDefEqProofs [u8]; refine callK (fletter_fn c) ?_; by_cases h1 : isLetter c = true
  · simp -implicitDefEqProofs [h1, nameC]
  · simp -implicitDefEqProofs [h1]; refine callK (fdigit_fn c) ?_; by_cases h2 : isDigit c = true <;> by_cases h3 : (c.toNat : Int) = 45 <;> simp [h1, h2, h3, nameC]
theorem lowc_not {c : UInt8} (h : ¬ (65 ≤ (c.toNat : Int) ∧ (c.toNat : Int) ≤ 90)) : lowc c = c := if_neg h
def halfL (s : Str) (k : Nat) : List D := ((lower (s.take k)) ++ s.drop k).map u8
theorem halfL_len (s : Str) (k : Nat) (h : k ≤ List.length s) : (halfL s k).length = List.length s := by simp [halfL, lower]; omega
theorem halfL_get (s : Str) (k : Nat) (h : k < List.length s) : (halfL s k)[k]? = some (u8 s[k]) := by
  have hl : (lower (s.take k)).length = k := by simp [lower]; omega
  simp only [halfL, List.getElem?_map]; rw [List.getElem?_append_right (by omega), hl, Nat.sub_self]; simp [h]
theorem halfL_set (s : Str) (k : Nat) (h : k < List.length s) : (halfL s k).set k (u8 (lowc s[k])) = halfL s (k + 1) := by
  have hl : (lower (s.take k)).length = k := by simp [lower]; omega
  simp only [halfL, ← List.map_set]; rw [List.set_append_right _ _ (by omega), hl, Nat.sub_self, List.drop_eq_getElem_cons h, List.set_cons_zero, take_s h]; simp only [lower, List.map_append, List.map_cons, List.map_nil, List.append_assoc, List.singleton_append]
theorem foldLower_fn (s : Str) (hs : List.length s < 1000000) : Ctr prog 96 [.d (.str s)] (.d (.str (lower s))) := by
  refine fv (fun i => decide (i < 1000000)) func96 (by kernel_rfl) rfl rfl rfl rfl rfl ?_; simp -implicitDefEqProofs; refine ⟨by omega, ?_⟩; refine loopN (List.length s) (fun k τ => τ 9 = .d (.int .i64 k) ∧ τ 8 = .d (.int .i64 (List.length s)) ∧ τ 3 = .own true 100005 (halfL s k)) (by simp [halfL, lower, bytesD, u8]) ?_; rintro k τ hk ⟨h9, h8, h3⟩; have hlen := halfL_len s k hk; by_cases hlt : k < List.length s
  · have hg := halfL_get s k hlt; have hset := halfL_set s k hlt; generalize halfL s k = M at *; have hlt2 : k < M.length := (by omega); have hg2 : M[k] = u8 s[k] := (List.getElem?_eq_some_iff.1 hg).2; simp -implicitDefEqProofs [h9, h8, h3, hlt, hlt2, hg2, u8]; refine callK (upper_fn _) ?_; by_cases h1 : 65 ≤ (s[k].toNat : Int) ∧ (s[k].toNat : Int) ≤ 90
    · simp -implicitDefEqProofs [h9, h8, h3, hlt, hlt2, hg2, u8, h1.1, h1.2]; have e : u8 (lowc s[k]) = .int .u8 ((s[k].toNat : Int) + 32) := by
        simp only [u8, lowc_toNat _ h1.1 h1.2]; congr 1; omega
      rw [e] at hset; exact ⟨by omega, by omega, again hlt ⟨by simp, by simp [h8], by simp [hset]⟩⟩
    · have hb : (decide (65 ≤ (s[k].toNat : Int)) && decide ((s[k].toNat : Int) ≤ 90)) = false := (by simpa using h1); simp -implicitDefEqProofs [h9, h8, h3, hlt, hlt2, hg2, u8, hb]; rw [lowc_not h1, ← hg2, List.set_getElem_self] at hset; exact ⟨by omega, again hlt ⟨by simp, by simp [h8], by simp [h3, hset]⟩⟩
  · simp -implicitDefEqProofs [h9, h8, h3, hlt]; have e : halfL s k = bytesD (lower s) := by
      have : k = List.length s := (by omega); subst this; simp [halfL, bytesD, u8]
    simp -implicitDefEqProofs [e, h3]
theorem u8ne {x c : UInt8} (h : ¬ x = c) : ¬ ((x.toNat : Int) = c.toNat) := fun e => h (UInt8.toNat_inj.1 (by omega))
def trimLB (c : UInt8) (s : Str) : Str := s.dropWhile fun x => decide (x = c)
def trimRB (c : UInt8) (s : Str) : Str := (s.reverse.dropWhile fun x => decide (x = c)).reverse
theorem trimL_fn (s : Str) (c : UInt8) : Ctr prog 152 [.d (.str s), .d (u8 c)] (.d (.str (trimLB c s))) := by
  refine fv (fun _ => false) func152 (by kernel_rfl) rfl rfl rfl rfl rfl ?_; simp -implicitDefEqProofs [u8]; refine loopK (fun n τ => ∃ t : Str, n = t.length ∧ τ 0 = .d (.str t) ∧ τ 1 = .d (.int .u8 c.toNat) ∧ trimLB c t = trimLB c s) s.length ⟨s, rfl, by simp, by simp, rfl⟩ ?_; rintro n τ ⟨t, rfl, h0, h1, ht⟩; cases t with
  | nil =>
    simp -implicitDefEqProofs [h0, h1]; rw [← ht]; rfl
  | cons x t =>
    by_cases hx : x = c
    · subst hx; simp -implicitDefEqProofs [h0, h1]; exact ⟨_, by omega, t, rfl, rfl, by rw [← ht, trimLB, trimLB, List.dropWhile_cons, if_pos (by simp)]⟩
    · have := u8ne hx; simp -implicitDefEqProofs [h0, h1, this]; rw [← ht, trimLB, List.dropWhile_cons, if_neg (by simp [hx])]
theorem trimRB_last {c : UInt8} {t : Str} (h : 0 < List.length t) : trimRB c t = if t[List.length t - 1] = c then trimRB c (t.take (List.length t - 1)) else t := by
  have e : t = t.take (List.length t - 1) ++ [t[List.length t - 1]] := by
    have := take_s (l := t) (k := List.length t - 1) (by omega); rw [show List.length t - 1 + 1 = List.length t by omega, List.take_length] at this; exact this
  conv => lhs; rw [e]
  rw [trimRB, List.reverse_append, List.reverse_singleton, List.singleton_append, List.dropWhile_cons]; by_cases hx : t[List.length t - 1] = c
  · rw [if_pos (by simpa using hx), if_pos hx, trimRB]
  · rw [if_neg (by simpa using hx), if_neg hx, List.reverse_cons, List.reverse_reverse]; exact e.symm
theorem trimR_fn (s : Str) (c : UInt8) (hs : List.length s < 1000000) : Ctr prog 153 [.d (.str s), .d (u8 c)] (.d (.str (trimRB c s))) := by
  refine fv (fun _ => false) func153 (by kernel_rfl) rfl rfl rfl rfl rfl ?_; simp -implicitDefEqProofs [u8]; refine loopK (fun n τ => ∃ t : Str, n = t.length ∧ τ 0 = .d (.str t) ∧ τ 1 = .d (.int .u8 c.toNat) ∧ List.length t < 1000000 ∧ trimRB c t = trimRB c s) s.length ⟨s, rfl, by simp, by simp, hs, rfl⟩ ?_; rintro n τ ⟨t, rfl, h0, h1, hl, ht⟩; by_cases hpos : 0 < List.length t
  · have hi : 0 ≤ (List.length t : Int) - 1 := (by omega); have hi2 : ((List.length t : Int) - 1).toNat = List.length t - 1 := (by omega); have hi3 : List.length t - 1 < List.length t := (by omega); have hi4 : -9223372036854775808 ≤ (List.length t : Int) - 1 := (by omega); have hi5 : (List.length t : Int) - 1 ≤ 9223372036854775807 := (by omega); have hi6 : 1 ≤ (List.length t : Int) := (by omega); have hz : ¬ t = [] := fun e => by subst e; simp at hpos
    rw [trimRB_last hpos] at ht; by_cases hx : t[List.length t - 1] = c
    · rw [if_pos hx] at ht; simp -implicitDefEqProofs [h0, h1, hpos, hi, hi2, hi3, hi4, hi5, hi6, hx, hz]; exact ⟨List.length t - 1, by omega, t.take (List.length t - 1), by rw [List.length_take]; omega, rfl, by rw [List.length_take]; omega, ht⟩
    · have := u8ne hx; rw [if_neg hx] at ht; simp -implicitDefEqProofs [h0, h1, hpos, hi, hi2, hi3, hi4, hi5, hi6, this, hz]; exact ht
  · obtain rfl : t = [] := List.eq_nil_of_length_eq_zero (by omega); simp -implicitDefEqProofs [h0, h1]; rw [← ht]; rfl
def trimB (s : Str) : Str := trimLB 32 (trimRB 32 s)
theorem trim102_fn (s : Str) (hs : List.length s < 1000000) : Ctr prog 149 [.d (.str s), .d (.str [32])] (.d (.str (trimB s))) := by
  refine fv (fun _ => false) func149 (by kernel_rfl) rfl rfl rfl rfl rfl ?_; by_cases hz : s = []
  · subst hz; simp -implicitDefEqProofs; try rfl
  simp -implicitDefEqProofs [hz]; have h1 : Ctr prog 153 [.d (.str s), .d (.int .u8 32)] (.d (.str (trimRB 32 s))) := trimR_fn s 32 hs; have h2 : Ctr prog 152 [.d (.str (trimRB 32 s)), .d (.int .u8 32)] (.d (.str (trimB s))) := trimL_fn (trimRB 32 s) 32; refine callP h1 ?_; simp -implicitDefEqProofs [hz]; refine callP h2 ?_; simp -implicitDefEqProofs [hz]
theorem trim_fn (s : Str) (hs : List.length s < 1000000) : Ctr prog 139 [.d (.str s)] (.d (.str (trimB s))) := by
  refine fv (fun _ => false) func139 (by kernel_rfl) rfl rfl rfl rfl rfl ?_; simp -implicitDefEqProofs; refine callK (trim102_fn s hs) ?_; simp -implicitDefEqProofs
def cleanF (s : Str) : Bool := s.all cleanC && decide (s ≠ []) && decide (List.length s ≤ 256) && decide (trimB s = s)
theorem dec_lo {s : Str} {k : Nat} (h : k < List.length s) (hc : s[k].toNat < 128) : Go.Utf8.decode ⟨s.toArray⟩ k = (s[k].toNat, 1) := by
  have hb : k < (⟨s.toArray⟩ : ByteArray).size := (by simpa [ByteArray.size] using h); have e : (⟨s.toArray⟩ : ByteArray)[k]'hb = s[k] := rfl; have := decode_ascii ⟨s.toArray⟩ k hb (by rw [e]; exact hc); rw [e] at this; exact this
theorem dec_hi {s : Str} {k : Nat} (h : k < List.length s) (hc : 128 ≤ s[k].toNat) : 128 ≤ (Go.Utf8.decode ⟨s.toArray⟩ k).1 := by
  have hb : k < (⟨s.toArray⟩ : ByteArray).size := (by simpa [ByteArray.size] using h); have e : (⟨s.toArray⟩ : ByteArray)[k]'hb = s[k] := rfl; exact (decode_high ⟨s.toArray⟩ k hb (by rw [e]; exact hc)).1
theorem trimLB_len (c : UInt8) (s : Str) : List.length (trimLB c s) ≤ List.length s := (List.dropWhile_sublist _).length_le
theorem trimRB_len (c : UInt8) (s : Str) : List.length (trimRB c s) ≤ List.length s := by
  have := (List.dropWhile_sublist (fun x : UInt8 => decide (x = c)) (l := s.reverse)).length_le; simpa [trimRB] using this
theorem trimB_iff {s : Str} (h : 0 < List.length s) : trimB s = s ↔ s[0] ≠ 32 ∧ s[List.length s - 1] ≠ 32 := by
  constructor
  · intro e; have h1 := trimLB_len 32 (trimRB 32 s); have h2 := trimRB_len 32 s; have h3 : List.length (trimB s) = List.length s := by rw [e]
    rw [trimB] at h3; have hr : s[List.length s - 1] ≠ 32 := by
      intro h4; rw [trimRB_last h, if_pos h4] at h3 h1; have h5 := trimRB_len 32 (s.take (List.length s - 1)); rw [List.length_take] at h5; omega
    refine ⟨fun h4 => ?_, hr⟩; rw [trimB, trimRB_last h, if_neg hr] at e; cases s with
    | nil => simp at h
    | cons x t =>
      simp only [List.getElem_cons_zero] at h4; rw [trimLB, List.dropWhile_cons, if_pos (by simp [h4])] at e; have := trimLB_len 32 t; rw [trimLB, e, List.length_cons] at this; omega
  · rintro ⟨h1, h2⟩; rw [trimB, trimRB_last h, if_neg h2]; cases s with
    | nil => rfl
    | cons x t => rw [trimLB, List.dropWhile_cons, if_neg (by simpa using h1)]
theorem cleanF_eq (s : Str) : cleanF s = cleanB s := by
  by_cases h : 0 < List.length s
  · have hne : s ≠ [] := fun e => by subst e; simp at h
    have hh : s.head? = some s[0] := (by simp [List.head?_eq_getElem?, h]); have hl : s.getLast? = some s[List.length s - 1] := by rw [List.getLast?_eq_getElem?, List.getElem?_eq_getElem (by omega)]
    rw [Bool.eq_iff_iff]; simp only [cleanF, cleanB, Bool.and_eq_true, decide_eq_true_eq, trimB_iff h, hh, hl, bne_iff_ne, ne_eq, Option.some.injEq]; have : 1 ≤ List.length s := h; constructor
    · rintro ⟨⟨⟨a, b⟩, c⟩, d, e⟩; exact ⟨⟨⟨⟨this, c⟩, d⟩, e⟩, a⟩
    · rintro ⟨⟨⟨⟨_, c⟩, d⟩, e⟩, a⟩; exact ⟨⟨⟨a, hne⟩, c⟩, d, e⟩
  · obtain rfl : s = [] := List.eq_nil_of_length_eq_zero (by omega); rfl
theorem fclean_fn (s : Str) (hs : List.length s < 1000000) : Ctr prog 117 [.d (.str s)] (.d (.bool (cleanF s))) := by
  refine fv (fun _ => false) func117 (by kernel_rfl) rfl rfl rfl rfl rfl ?_; simp -implicitDefEqProofs; refine loopN (List.length s) (fun k τ => τ 0 = .d (.str s) ∧ τ 6 = .iter s k ∧ ∀ x ∈ s.take k, cleanC x = true) (by simp) ?_; rintro k τ hk ⟨h0, h6, hall⟩; by_cases hlt : k < List.length s
  · by_cases ha : s[k].toNat < 128
    · have hd := dec_lo hlt ha; by_cases e1 : (s[k].toNat : Int) < 32
      · have e1' : ¬ 32 ≤ (s[k].toNat : Int) := (by omega); simp -implicitDefEqProofs [h0, h6, hlt, hd, e1]; simp [cleanF, all_not hlt (show cleanC s[k] = false by simp [cleanC, e1'])]
      · by_cases e2 : 126 < (s[k].toNat : Int)
        · have e2' : ¬ (s[k].toNat : Int) ≤ 126 := (by omega); simp -implicitDefEqProofs [h0, h6, hlt, hd, e1, e2]; simp [cleanF, all_not hlt (show cleanC s[k] = false by simp [cleanC, e2'])]
        · have e1' : 32 ≤ (s[k].toNat : Int) := (by omega); have e2' : (s[k].toNat : Int) ≤ 126 := (by omega); simp -implicitDefEqProofs [h0, h6, hlt, hd, e1, e2]; exact again hlt ⟨by simp [h0], by simp, all_take hlt hall (by simp [cleanC, e1', e2'])⟩
    · have hd := dec_hi hlt (by omega); have e1 : ¬ ((Go.Utf8.decode ⟨s.toArray⟩ k).1 : Int) < 32 := (by omega); have e2 : 126 < ((Go.Utf8.decode ⟨s.toArray⟩ k).1 : Int) := (by omega); have e2' : ¬ (s[k].toNat : Int) ≤ 126 := (by omega); simp -implicitDefEqProofs [h0, h6, hlt, e1, e2]; simp [cleanF, all_not hlt (show cleanC s[k] = false by simp [cleanC, e2'])]
  · rw [ttl (by omega)] at hall; have hall' : s.all cleanC = true := List.all_eq_true.2 hall; by_cases hz : s = []
    · subst hz; simp -implicitDefEqProofs [h0, h6, cleanF]
    · by_cases h2 : (List.length s : Int) ≤ 256
      · have h2' : List.length s ≤ 256 := (by omega); simp -implicitDefEqProofs [h0, h6, hlt, hz, h2]; refine callK (trim_fn s hs) ?_; simp -implicitDefEqProofs [h0, h6, hlt, hz, h2, cleanF, hall', h2']
      · have h2' : ¬ List.length s ≤ 256 := (by omega); simp -implicitDefEqProofs [h0, h6, hlt, hz, h2, cleanF, h2']
theorem insF_len2 (s : Str) : ∀ (l : List Str) (r : Bool × List Str) (c : Nat), r.2.length ≤ c + r.1.toNat → (l.foldl (insS s) r).2.length ≤ c + l.length + (l.foldl (insS s) r).1.toNat
  | [], _, _, h => h
  | x :: l, (d, out), c, h => by
    have h2 : (insS s (d, out) x).2.length ≤ (c + 1) + (insS s (d, out) x).1.toNat := by
      simp only at h; cases d <;> by_cases hb : Op.bytesLess x s = true <;> by_cases he : x = s <;> simp [insS, hb, he] at h ⊢ <;> first
        | omega
        | (split <;> simp <;> omega)
    have := insF_len2 s l (insS s (d, out) x) (c + 1) h2; simp only [List.foldl_cons, List.length_cons]; omega
theorem ins_len (l : List Str) (s : Str) : (ins l s).length ≤ l.length + 1 := by
  have : (insF s l).2.length ≤ 0 + l.length + (insF s l).1.toNat := insF_len2 s l (false, []) 0 (by simp); simp only [ins, List.length_append]; cases h : (insF s l).1 <;> simp [h] at this ⊢ <;> omega
def namesS (ns : List Str) (a : Att) : List Str := if a.2 = [] then ns else ins ns (lower a.1)
def namesF (l : List Att) : List Str := l.foldl namesS []
def valsS (n : Str) (vs : List Str) (a : Att) : List Str := if lower a.1 = n then a.2.foldl ins vs else vs
def valsF (l : List Att) (n : Str) : List Str := l.foldl (valsS n) []
def sortedL (l : List Att) : List Att := (namesF l).map fun n => (n, valsF l n)
theorem namesF_take {l : List Att} {k : Nat} (h : k < l.length) : namesF (l.take (k + 1)) = namesS (namesF (l.take k)) l[k] := by
  rw [take_s h]; simp only [namesF, List.foldl_append, List.foldl_cons, List.foldl_nil]
theorem valsF_take {l : List Att} {n : Str} {k : Nat} (h : k < l.length) : valsF (l.take (k + 1)) n = valsS n (valsF (l.take k) n) l[k] := by
  rw [take_s h]; simp only [valsF, List.foldl_append, List.foldl_cons, List.foldl_nil]
theorem names_len : ∀ (l : List Att) (ns : List Str), (l.foldl namesS ns).length ≤ ns.length + l.length
  | [], ns => by simp
  | a :: l, ns => by
    have := names_len l (namesS ns a); have h2 : (namesS ns a).length ≤ ns.length + 1 := by
      unfold namesS; split
      · omega
      · exact ins_len _ _
    simp only [List.foldl_cons, List.length_cons]; omega
theorem insAll_len : ∀ (l ns : List Str), (l.foldl ins ns).length ≤ ns.length + l.length
  | [], ns => by simp
  | a :: l, ns => by
    have := insAll_len l (ins ns a); have := ins_len ns a; simp only [List.foldl_cons, List.length_cons]; omega
def total (l : List Att) : Nat := (l.map (·.2.length)).sum
theorem vals_len (n : Str) : ∀ (l : List Att) (vs : List Str), (l.foldl (valsS n) vs).length ≤ vs.length + total l
  | [], vs => by simp [total]
  | a :: l, vs => by
    have := vals_len n l (valsS n vs a); have h2 : (valsS n vs a).length ≤ vs.length + a.2.length := by
      unfold valsS; split
      · exact insAll_len _ _
      · omega
    simp only [List.foldl_cons, total, List.map_cons, List.sum_cons] at this ⊢
    all_goals omega
def Fit2 (l : List Att) : Prop := Fits l ∧ total l < 500000
theorem total_take (l : List Att) (k : Nat) (h : k < l.length) : total (l.take k) + l[k].2.length ≤ total l := by
  have e : total l = total (l.take k) + (l[k].2.length + total (l.drop (k + 1))) := by
    conv => lhs; rw [← List.take_append_drop k l, List.drop_eq_getElem_cons h]
    simp only [total, List.map_append, List.map_cons, List.sum_append, List.sum_cons]
  all_goals omega
def outA (l : List Att) (ns : List Str) (i : Nat) : List D := ((ns.take i).map fun n => (n, valsF l n)).map att
theorem outA_zero (l : List Att) (ns : List Str) : outA l ns 0 = [] := rfl
theorem outA_succ (l : List Att) {ns : List Str} {i : Nat} (h : i < ns.length) : outA l ns (i + 1) = outA l ns i ++ [.agg [.str ns[i], strs (valsF l ns[i])]] := by
  rw [outA, take_s h]; simp only [List.map_append, List.map_cons, List.map_nil]; rfl
theorem outA_len (l : List Att) {ns : List Str} {i : Nat} (h : i ≤ ns.length) : (outA l ns i).length = i := by simp [outA, Nat.min_eq_left h]
theorem outA_all (l : List Att) (i : Nat) (h : (namesF l).length ≤ i) : outA l (namesF l) i = (sortedL l).map att := by rw [outA, ttl h]; rfl
theorem outA_width (l : List Att) (ns : List Str) (i : Nat) : ∀ u ∈ outA l ns i, width u = 2 := by
  intro u hu; simp only [outA, List.map_map, List.mem_map] at hu; obtain ⟨n, _, rfl⟩ := hu; rfl
theorem sortedR_fn (l : List Att) (hl : Fit2 l) : Ctr prog 70 [.d (atts l)] (.own true 112 ((sortedL l).map att)) := by
  refine fv (fun i => i == 5) func70 (by kernel_rfl) rfl rfl rfl rfl rfl ?_; obtain ⟨⟨hl1, hl2⟩, hl3⟩ := hl; simp -implicitDefEqProofs; refine loopN l.length (fun k τ => τ 0 = .d (atts l) ∧ τ 4 = .d (.int .i64 k) ∧ τ 3 = .own false 9 ((namesF (l.take k)).map .str)) (by simp [namesF]) ?_; rintro k τ hk ⟨h0, h4, h3⟩; by_cases hlt : k < l.length
  · have hn := names_len (l.take k) []; rw [List.length_take] at hn; by_cases he : l[k].2 = []
    · simp -implicitDefEqProofs [h0, h4, h3, hlt, atts, att, strs, he]; refine ⟨by omega, again hlt ⟨by simp [h0, atts, att, strs], by simp, ?_⟩⟩; rw [namesF_take hlt]; simp [h3, namesS, he]
    · have he' : 0 < l[k].2.length := List.length_pos_iff.2 he; simp -implicitDefEqProofs [h0, h4, h3, hlt, atts, att, strs, he']; refine callK (lower_fn _ (hl2 _ (gmm hlt)).1) ?_; simp -implicitDefEqProofs [h0, h4, h3, hlt, atts, att, strs, he']; have hf := ins_fn (namesF (l.take k)) (lower l[k].1) (by simp only [List.length_nil] at hn; unfold namesF; omega); simp only [strs] at hf; refine callK hf ?_; simp -implicitDefEqProofs [h0, h4, h3, hlt, atts, att, strs, he']; refine ⟨by omega, again hlt ⟨by simp [h0, atts, att, strs], by simp, ?_⟩⟩; rw [namesF_take hlt]; simp [namesS, he]
  · simp -implicitDefEqProofs [h0, h4, h3, hlt, atts]; rw [ttl (by omega)] at h3; have hn := names_len l []; generalize hN : namesF l = ns at *; rw [show List.foldl namesS [] l = namesF l from rfl, hN] at hn; simp only [List.length_nil, Nat.zero_add] at hn; refine loopN ns.length (fun i τ => τ 0 = .d (atts l) ∧ τ 3 = .own false 9 (ns.map .str) ∧ τ 6 = .d (.int .i64 i) ∧ τ 5 = .own true 112 (outA l ns i)) (by simp [h0, h3, hN, atts, outA_zero]) ?_; clear h0 h3 h4 τ; rintro i τ hi ⟨h0, h3, h6, h5⟩; by_cases hlt2 : i < ns.length
    · simp -implicitDefEqProofs [h0, h3, h5, h6, hlt2, atts, att, strs]; refine loopN l.length (fun k τ => τ 0 = .d (atts l) ∧ τ 3 = .own false 9 (ns.map .str) ∧ τ 6 = .d (.int .i64 i) ∧ τ 5 = .own true 112 (outA l ns i) ∧ τ 8 = .d (.int .i64 k) ∧ τ 7 = .box (.agg [.str ns[i], strs (valsF (l.take k) ns[i])])) (by simp [h0, h3, h5, h6, hN, atts, att, strs, valsF]) ?_; clear h0 h3 h6 h5 τ hk hlt k; rintro k τ hk ⟨h0, h3, h6, h5, h8, h7⟩; by_cases hlt : k < l.length
      · have hv := vals_len ns[i] (l.take k) []; have ht := total_take l k hlt; rw [show (l.take k).foldl (valsS ns[i]) [] = valsF (l.take k) ns[i] from rfl] at hv; have hst := valsF_take (n := ns[i]) hlt; generalize valsF (l.take k) ns[i] = vs at *; simp -implicitDefEqProofs [h0, h3, h5, h6, h7, h8, hlt, hlt2, atts, att, strs]; refine loopN l[k].2.length (fun j τ => τ 0 = .d (atts l) ∧ τ 3 = .own false 9 (ns.map .str) ∧ τ 6 = .d (.int .i64 i) ∧ τ 5 = .own true 112 (outA l ns i) ∧ τ 8 = .d (.int .i64 k) ∧ τ 9 = .d (.int .i64 j) ∧ τ 7 = .box (.agg [.str ns[i], strs (if lower l[k].1 = ns[i] then (l[k].2.take j).foldl ins vs else vs)])) (by simp [h0, h3, h5, h6, h7, h8, atts, att, strs]) ?_; clear h0 h3 h6 h5 h8 h7 τ; rintro j τ hj ⟨h0, h3, h6, h5, h8, h9, h7⟩; have hal := (hl2 _ (gmm hlt)); by_cases hn : lower l[k].1 = ns[i]
        · rw [if_pos hn] at h7; by_cases hlt3 : j < l[k].2.length
          · simp -implicitDefEqProofs [h0, h3, h5, h6, h7, h8, h9, hlt, hlt2, hlt3, atts, att, strs]; refine callP (lower_fn _ hal.1) ?_; simp -implicitDefEqProofs [h0, h3, h5, h6, h7, h8, h9, hlt, hlt2, hlt3, atts, att, strs, hn]; have hal2 := insAll_len (l[k].2.take j) vs; have hf := ins_fn ((l[k].2.take j).foldl ins vs) l[k].2[j] (by simp only [List.length_take, List.length_nil] at hal2 hv; omega); simp only [strs] at hf; refine callP hf ?_; simp -implicitDefEqProofs [h0, h3, h5, h6, h7, h8, h9, hlt, hlt2, hlt3, atts, att, strs, hn]; refine ⟨by omega, again hlt3 ⟨by simp [h0, atts, att, strs], by simp [h3], by simp [h6], by simp [h5], by simp [h8], by simp, ?_⟩⟩; rw [take_s hlt3, List.foldl_append]; simp -implicitDefEqProofs [strs]
          · simp -implicitDefEqProofs [h0, h3, h5, h6, h7, h8, h9, hlt, hlt2, hlt3, atts, att, strs]; refine callP (lower_fn _ hal.1) ?_; simp -implicitDefEqProofs [h0, h3, h5, h6, h7, h8, h9, hlt, hlt2, hlt3, atts, att, strs, hn]; refine ⟨by omega, again hlt ⟨by simp [h0, atts, att, strs], by simp [h3], by simp [h6], by simp [h5], by simp, ?_⟩⟩; rw [hst, valsS, if_pos hn]; rw [ttl (by omega)] at h7; simp -implicitDefEqProofs [h7, strs]
        · rw [if_neg hn] at h7; simp -implicitDefEqProofs [h0, h3, h5, h6, h7, h8, h9, hlt, hlt2, atts, att, strs]; refine callP (lower_fn _ hal.1) ?_; simp (config := { maxSteps := 1000000 }) [h0, h3, h5, h6, h7, h8, h9, hlt, hlt2, atts, att, strs, hn]; refine ⟨by omega, again hlt ⟨by simp [h0, atts, att, strs], by simp [h3], by simp [h6], by simp [h5], by simp, ?_⟩⟩; rw [hst, valsS, if_neg hn]; simp -implicitDefEqProofs [h7, strs]
      · have hw := outA_width l ns i; rw [ttl (by omega)] at h7; simp -implicitDefEqProofs [h0, h3, h5, h6, h7, h8, hlt, hlt2, atts, att, strs]; rw [outA_len l hi]; refine ⟨by omega, by omega, by omega, again hlt2 ⟨by simp [h0, atts, att, strs], by simp [h3], by simp, ?_⟩⟩; simp -implicitDefEqProofs [outA_succ l hlt2, strs]
    · simp -implicitDefEqProofs [h0, h3, h5, h6, hlt2, atts, att, strs]; rw [← hN]; exact outA_all l i (by rw [hN]; omega)
def findA (n : Str) : List Att → List Str
  | [] => []
  | a :: l => if a.1 = n then a.2 else findA n l
def getL (l : List Att) (name : Str) : List Str := findA (lower name) (sortedL l)
theorem sorted_len (l : List Att) : (sortedL l).length ≤ l.length := by
  have := names_len l []; simp only [List.length_nil, Nat.zero_add] at this; simpa [sortedL, namesF] using this
theorem made_fn (s : Str) (hs : List.length s < 1000000) : Ctr prog 83 [.d (.str s), .d (.clo 116 [])] (.d (.bool (s.all nameC && decide (s ≠ []) && decide (s.length ≤ 64)))) := by
  refine fv (fun _ => false) func83 (by kernel_rfl) rfl rfl rfl rfl rfl ?_; simp -implicitDefEqProofs; refine loopN (List.length s) (fun k τ => τ 0 = .d (.str s) ∧ τ 1 = .d (.clo 116 []) ∧ τ 7 = .d (.int .i64 (List.length s)) ∧ τ 8 = .d (.int .i64 k) ∧ ∀ x ∈ s.take k, nameC x = true) (by simp) ?_; rintro k τ hk ⟨h0, h1, h7, h8, ha⟩; by_cases hlt : k < List.length s
  · simp -implicitDefEqProofs [h0, h1, h7, h8, hlt]; refine callK (allowed_fn s[k]) ?_; by_cases e1 : nameC s[k] = true
    · simp -implicitDefEqProofs [h0, h1, h7, h8, hlt, e1]; exact ⟨by omega, again hlt ⟨by simp [h0], by simp [h1], by simp [h7], by simp, all_take hlt ha e1⟩⟩
    · simp -implicitDefEqProofs [h0, h1, h7, h8, hlt, e1]; intro h; exact absurd (h _ (gmm hlt)) e1
  · rw [ttl (by omega)] at ha; have hall : List.all s nameC = true := (by simpa using ha); by_cases e2 : s = []
    · simp -implicitDefEqProofs [h0, h1, h7, h8, hlt, e2]
    · simp -implicitDefEqProofs [h0, h1, h7, h8, hlt, e2, hall]
      all_goals omega
theorem fname_fn (s : Str) (hs : List.length s < 1000000) : Ctr prog 104 [.d (.str s)] (.d (.bool (nameB s))) := by
  refine fv (fun _ => false) func104 (by kernel_rfl) rfl rfl rfl rfl rfl ?_; simp -implicitDefEqProofs; refine callK (made_fn s hs) ?_; by_cases e : (s.all nameC && decide (s ≠ []) && decide (s.length ≤ 64)) = true
  · have e0 := e; simp only [Bool.and_eq_true, decide_eq_true_eq] at e; obtain ⟨⟨e1, e2⟩, e3⟩ := e; obtain ⟨c, t, rfl⟩ := List.exists_cons_of_ne_nil e2; simp only [e0]; simp -implicitDefEqProofs; refine callK (fletter_fn c) ?_; have e4 : (List.length (c :: t)) ≤ 64 := e3; simp -implicitDefEqProofs [nameB, e1, e4]; intro _; simpa using e4
  · rw [Bool.not_eq_true] at e; simp only [e]; simp -implicitDefEqProofs [nameB]; intro h1 h2 _; have hne : s ≠ [] := by
      rintro rfl; simp at h1
    simpa [hne, h2] using e
def idxG {α : Type} (p : α → Bool) : Nat → List α → Int
  | _, [] => -1
  | k, x :: l => if p x = true then k else idxG p (k + 1) l
theorem idxG_drop {α : Type} {p : α → Bool} {l : List α} {k : Nat} (h : k < l.length) : idxG p k (l.drop k) = if p l[k] = true then (k : Int) else idxG p (k + 1) (l.drop (k + 1)) := by
  rw [List.drop_eq_getElem_cons h, idxG]
theorem index_fn (l : List Str) (s : Str) (hl : l.length < 1000000) : Ctr prog 110 [.d (strs l), .d (.str s)] (.d (.int .i64 (idxG (fun x => decide (s = x)) 0 l))) := by
  refine fv (fun _ => false) func110 (by kernel_rfl) rfl rfl rfl rfl rfl ?_; simp -implicitDefEqProofs [strs]; refine loopN l.length (fun k τ => τ 0 = .d (strs l) ∧ τ 1 = .d (.str s) ∧ τ 7 = .d (.int .i64 l.length) ∧ τ 8 = .d (.int .i64 k) ∧ idxG (fun x => decide (s = x)) 0 l = idxG (fun x => decide (s = x)) k (l.drop k)) (by simp [strs]) ?_; rintro k τ hk ⟨h0, h1, h7, h8, hi⟩; by_cases hlt : k < l.length
  · rw [idxG_drop hlt] at hi; by_cases he : s = l[k]
    · simp -implicitDefEqProofs [h0, h1, h7, h8, strs, hlt, ← he]; rw [hi]; simp [← he]
    · simp -implicitDefEqProofs [h0, h1, h7, h8, strs, hlt, he]; refine ⟨by omega, again hlt ⟨by simp [h0, strs], by simp [h1], by simp [h7], by simp, ?_⟩⟩; rw [hi]; simp [he]
  · simp -implicitDefEqProofs [h0, h1, h7, h8, strs, hlt]; rw [hi, List.drop_eq_nil_of_le (by omega)]; simp -implicitDefEqProofs [idxG]
theorem eqS_fn (l m : List Str) (hl : l.length < 1000000) (hm : m.length < 1000000) : Ctr prog 76 [.d (strs l), .d (strs m)] (.d (.bool (decide (l = m)))) := by
  refine fv (fun _ => false) func76 (by kernel_rfl) rfl rfl rfl rfl rfl ?_; by_cases hlm : l.length = m.length
  · simp -implicitDefEqProofs [strs, hlm]; refine loopN m.length (fun k τ => τ 0 = .d (strs l) ∧ τ 1 = .d (strs m) ∧ τ 12 = .d (.int .i64 m.length) ∧ τ 13 = .d (.int .i64 k) ∧ l.take k = m.take k) (by simp [strs, hlm]) ?_; rintro k τ hk ⟨h0, h1, h12, h13, ht⟩; by_cases hlt : k < m.length
    · have hlt' : k < l.length := (by omega); by_cases he : l[k] = m[k]
      · simp -implicitDefEqProofs [h0, h1, h12, h13, strs, hlm, hlt, hlt', he]; refine ⟨by omega, again hlt ⟨by simp [h0, strs], by simp [h1, strs], by simp [h12], by simp, ?_⟩⟩; rw [take_s hlt, take_s hlt', ht, he]
      · simp -implicitDefEqProofs [h0, h1, h12, h13, strs, hlm, hlt, hlt', he]; rintro rfl; exact he rfl
    · rw [ttl (by omega), ttl (by omega)] at ht; simp -implicitDefEqProofs [h0, h1, h12, h13, strs, hlm, hlt, ht]
  · have hlm' : ¬ (l.length : Int) = m.length := (by omega); simp -implicitDefEqProofs [strs, hlm']; rintro rfl; exact hlm rfl
theorem idxG_ge {α : Type} (p : α → Bool) : ∀ (l : List α) (k : Nat), (0 ≤ idxG p k l) = (∃ x ∈ l, p x = true)
  | [], k => by simp [idxG]
  | x :: l, k => by
    rw [idxG]; by_cases h : p x = true
    · simp -implicitDefEqProofs [h]
    · rw [if_neg h, idxG_ge p l (k + 1)]; simp [h]
theorem contains_fn (l : List Str) (s : Str) (hl : l.length < 1000000) : Ctr prog 80 [.d (strs l), .d (.str s)] (.d (.bool (decide (s ∈ l)))) := by
  refine fv (fun _ => false) func80 (by kernel_rfl) rfl rfl rfl rfl rfl ?_; simp -implicitDefEqProofs; refine callK (index_fn l s hl) ?_; simp -implicitDefEqProofs [idxG_ge]
def FitS (l : List Str) : Prop := l.length < 1000000 ∧ ∀ v ∈ l, List.length v < 1000000
theorem values_fn (l : List Str) (hl : FitS l) : Ctr prog 105 [.d (strs l)] (.d (.int .i64 (chkV [] [] l))) := by
  refine fv (fun _ => false) func105 (by kernel_rfl) rfl rfl rfl rfl rfl ?_; obtain ⟨hl, hv⟩ := hl; simp -implicitDefEqProofs [strs]; refine loopN l.length (fun k τ => τ 0 = .d (.sl (l.map .str)) ∧ τ 5 = .d (.sl (l.map .str)) ∧ τ 6 = .d (.int .i64 l.length) ∧ τ 7 = .d (.int .i64 k) ∧ chkV [] [] l = chkV [] (l.take k) (l.drop k)) (by simp) ?_; rintro k τ hk ⟨h0, h5, h6, h7, hc⟩; by_cases hlt : k < l.length
  · rw [chkV_drop hlt] at hc; simp -implicitDefEqProofs [h0, h5, h6, h7, hlt]; refine callK (fclean_fn l[k] (hv _ (gmm hlt))) ?_; rw [cleanF_eq]; by_cases e1 : cleanB l[k] = true
    · simp -implicitDefEqProofs [h0, h5, h6, h7, hlt, e1]; have hf := contains_fn (l.take k) l[k] (by rw [List.length_take]; omega); simp only [strs, List.map_take] at hf; refine ⟨hk, callK hf ?_⟩; by_cases e3 : l[k] ∈ l.take k
      · simp -implicitDefEqProofs [h0, h5, h6, h7, hlt, e1, e3]; rw [hc]; simp [e1, e3]
      · simp -implicitDefEqProofs [h0, h5, h6, h7, hlt, e1, e3]; refine ⟨by omega, again hlt ⟨by simp [h0], by simp [h5], by simp [h6], by simp, ?_⟩⟩; rw [hc]; simp [e1, e3]
    · simp -implicitDefEqProofs [h0, h5, h6, h7, hlt, e1]; rw [hc]; simp [e1]
  · simp -implicitDefEqProofs [h0, h5, h6, h7, hlt]; rw [hc, List.drop_eq_nil_of_le (by omega)]; simp [chkV]
def FitV (l : List Att) : Prop := ∀ a ∈ l, ∀ v ∈ a.2, List.length v < 1000000
theorem check_fn (l : List Att) (hl : Fits l) (hv : FitV l) : Ctr prog 77 [.d (atts l)] (.d (.int .i64 (checkL l))) := by
  refine fv (fun _ => false) func77 (by kernel_rfl) rfl rfl rfl rfl rfl ?_; have hl1 := hl.1; by_cases h32 : 32 < (l.length : Int)
  · have : 32 < l.length := (by omega); simp -implicitDefEqProofs [atts, checkL, h32, this]
    all_goals (intro h; omega)
  have h32' : ¬ 32 < l.length := (by omega); simp -implicitDefEqProofs [atts, h32]; refine loopN l.length (fun k τ => τ 0 = .d (atts l) ∧ τ 11 = .d (atts l) ∧ τ 12 = .d (.int .i64 l.length) ∧ τ 13 = .d (.int .i64 k) ∧ checkL l = chkA (l.take k) (l.drop k)) (by simp [atts, checkL, h32']) ?_; rintro k τ hk ⟨h0, h11, h12, h13, hc⟩; by_cases hlt : k < l.length
  · rw [chkA_drop hlt] at hc; simp -implicitDefEqProofs [h0, h11, h12, h13, hlt, atts, att, strs]; refine callK (fname_fn l[k].1 (hl.2 _ (gmm hlt)).1) ?_; by_cases e1 : nameB l[k].1 = true
    · simp -implicitDefEqProofs [h0, h11, h12, h13, hlt, atts, att, strs, e1]; refine ⟨hk, by rintro y n v _ rfl; rfl, ?_⟩; refine loopN k (fun j τ => τ 0 = .d (atts l) ∧ τ 3 = .d (.int .i64 k) ∧ τ 4 = .box (att l[k]) ∧ τ 11 = .d (atts l) ∧ τ 12 = .d (.int .i64 l.length) ∧ τ 13 = .d (.int .i64 k) ∧ τ 24 = .d (atts (l.take k)) ∧ τ 25 = .d (.int .i64 k) ∧ τ 26 = .d (.int .i64 j) ∧ (l.take j).any (fun c => decide (lower c.1 = lower l[k].1)) = false) ?_ ?_
      · refine ⟨?_, ?_, ?_, ?_, ?_, ?_, ?_, ?_, ?_, ?_⟩
        all_goals simp [h0, h11, h12, h13, atts, att, strs, List.map_take]
        all_goals omega
      clear h0 h11 h12 h13 τ; rintro j τ hj ⟨h0, h3, h4, h11, h12, h13, h24, h25, h26, hn⟩; by_cases hjk : j < k
      · have hjl : j < l.length := (by omega); simp -implicitDefEqProofs [h0, h3, h4, h11, h12, h13, h24, h25, h26, hjk, hjl, hlt, atts, att, strs]; refine callP (foldLower_fn _ (hl.2 _ (gmm hlt)).1) ?_; simp -implicitDefEqProofs [h0, h3, h4, h11, h12, h13, h24, h25, h26, hjk, hjl, hlt, atts, att, strs]; refine callP (foldLower_fn _ (hl.2 _ (gmm hjl)).1) ?_; by_cases he : lower l[j].1 = lower l[k].1
        · simp -implicitDefEqProofs [h0, h3, h4, h11, h12, h13, h24, h25, h26, hjk, hjl, hlt, atts, att, strs, he]; have e2 : (l.take k).any (fun c => decide (lower c.1 = lower l[k].1)) = true := List.any_eq_true.2 ⟨l[j], List.mem_iff_getElem.2 ⟨j, by simp; omega, by simp⟩, by simpa using he⟩; rw [hc, if_neg (by simp [e1]), if_pos e2]
        · have he' : ¬ lower l[k].1 = lower l[j].1 := fun e => he e.symm
          simp -implicitDefEqProofs [h0, h3, h4, h11, h12, h13, h24, h25, h26, hjk, hjl, hlt, atts, att, strs, he, he']; refine ⟨by omega, again hjk ⟨?_, ?_, ?_, ?_, ?_, ?_, ?_, ?_, ?_, ?_⟩⟩
          all_goals first | (simp [h0, h3, h4, h11, h12, h13, h24, h25, h26, atts, att, strs]; done) | skip
          rw [take_s hjl]; intro a b hab e; rcases List.mem_append.1 hab with h | h
          · exact List.any_eq_false.1 hn _ h (by simpa using e)
          · have : l[j].1 = a := by rw [← List.mem_singleton.1 h]
            exact he (by rw [this]; exact e)
      · have hjk2 : j = k := (by omega); subst hjk2; by_cases e3 : l[j].2 = []
        · simp -implicitDefEqProofs [h0, h3, h4, h11, h12, h13, h24, h25, h26, hlt, atts, att, strs, e3]; rw [hc]; simp [e1, hn, e3]
        · by_cases e4 : 16 < (l[j].2.length : Int)
          · have e4' : 16 < l[j].2.length := (by omega); simp -implicitDefEqProofs [h0, h3, h4, h11, h12, h13, h24, h25, h26, hlt, atts, att, strs, e3, e4]; rw [hc]; simp only [e1, hn, if_false, Bool.true_eq_false, Bool.false_eq_true, List.length_eq_zero_iff, e3, e4', if_true]
          · have e4' : ¬ 16 < l[j].2.length := (by omega); simp -implicitDefEqProofs [h0, h3, h4, h11, h12, h13, h24, h25, h26, hlt, atts, att, strs, e3, e4]; have hf := values_fn l[j].2 ⟨(hl.2 _ (gmm hlt)).2, hv _ (gmm hlt)⟩; simp only [strs] at hf; refine callK hf ?_; by_cases e5 : chkV [] [] l[j].2 = 0
            · simp -implicitDefEqProofs [h0, h3, h4, h11, h12, h13, h24, h25, h26, hlt, atts, att, strs, e3, e4, e5]; refine ⟨by omega, again hlt ⟨by simp [h0, atts, att, strs], by simp [h11, atts, att, strs], by simp [h12], by simp, ?_⟩⟩; rw [hc]; simp only [e1, hn, e3, e4', e5, if_false, Bool.true_eq_false, Bool.false_eq_true, List.length_eq_zero_iff, ne_eq, not_true_eq_false]
            · simp -implicitDefEqProofs [h0, h3, h4, h11, h12, h13, h24, h25, h26, hlt, atts, att, strs, e3, e4, e5]; rw [hc]; simp only [e1, hn, e3, e4', e5, if_false, Bool.true_eq_false, Bool.false_eq_true, List.length_eq_zero_iff, ne_eq, not_false_eq_true, if_true]
    · simp -implicitDefEqProofs [h0, h11, h12, h13, hlt, atts, att, strs, e1]; rw [hc]; simp [e1]
  · simp -implicitDefEqProofs [h0, h11, h12, h13, hlt, atts]; rw [hc, List.drop_eq_nil_of_le (by omega)]
    first | exact ⟨by omega, by simp [chkA]⟩ | (simp [chkV, chkA]; done)
abbrev Sl := Option Addr × Nat × Nat
def rw2 (x : Str × Sl) : D := .agg [.str x.1, .raw (.slice x.2.1 x.2.2.1 x.2.2.2)]
def idxR {α : Type} (p : α → Bool) : Nat → List α → Int
  | _, [] => -1
  | k, x :: l => if p x then k else idxR p (k + 1) l
theorem idxR_drop {α : Type} {p : α → Bool} {l : List α} {k : Nat} (h : k < l.length) : idxR p k (l.drop k) = if p l[k] then (k : Int) else idxR p (k + 1) (l.drop (k + 1)) := by
  rw [List.drop_eq_getElem_cons h, idxR]
theorem indexR_fn (g : FuncId) (cs : List D) (hcs : (cs.all fun c => !c.isAgg) = true) (p : Str × Sl → Bool) (l : List (Str × Sl)) (hl : l.length < 1000000) (hp : ∀ a ∈ l, Ctr prog g ([.d (rw2 a)] ++ cs.map .d) (.d (.bool (p a)))) :
    Ctr prog 97 [.d (.sl (l.map rw2)), .d (.clo g cs)] (.d (.int .i64 (idxR p 0 l))) := by
  refine fv (fun _ => false) func97 (by kernel_rfl) rfl rfl rfl rfl rfl ?_; simp -implicitDefEqProofs; refine loopN l.length (fun k τ => τ 0 = .d (.sl (l.map rw2)) ∧ τ 1 = .d (.clo g cs) ∧ τ 7 = .d (.int .i64 l.length) ∧ τ 8 = .d (.int .i64 k) ∧ idxR p 0 l = idxR p k (l.drop k)) (by simp) ?_; rintro k τ hk ⟨h0, h1, h7, h8, hi⟩; by_cases hlt : k < l.length
  · rw [idxR_drop hlt] at hi; have hf := hp _ (gmm hlt); simp only [rw2, List.cons_append, List.nil_append] at hf; simp -implicitDefEqProofs [h0, h1, h7, h8, rw2, hlt]; refine ⟨by simpa using hcs, callK hf ?_⟩; by_cases he : p l[k] = true
    · simp -implicitDefEqProofs [h0, h1, h7, h8, rw2, hlt, he]; rw [hi, if_pos he]
    · simp -implicitDefEqProofs [h0, h1, h7, h8, rw2, hlt, he]; refine ⟨by omega, again hlt ⟨by simp [h0, rw2], by simp [h1], by simp [h7], by simp, ?_⟩⟩; rw [hi, if_neg he]
  · simp -implicitDefEqProofs [h0, h1, h7, h8, hlt]; rw [hi, List.drop_eq_nil_of_le (by omega)]; simp -implicitDefEqProofs [idxR]
theorem idxR_neg {α : Type} (p : α → Bool) : ∀ (l : List α) (k : Nat), idxR p k l = -1 → l.filter (fun x => !p x) = l
  | [], k, _ => rfl
  | x :: l, k, h => by
    rw [idxR] at h; by_cases hx : p x = true
    · rw [if_pos hx] at h; omega
    · rw [if_neg hx] at h; simp -implicitDefEqProofs [hx, idxR_neg p l (k + 1) h]
theorem idxR_pos {α : Type} (p : α → Bool) : ∀ (l : List α) (k : Nat), idxR p k l ≠ -1 → ∃ i : Nat, idxR p k l = ((k + i : Nat) : Int) ∧ i < l.length ∧ (l.take i).filter (fun x => !p x) = l.take i ∧ (l.take (i + 1)).filter (fun x => !p x) = l.take i
  | [], k, h => absurd rfl h
  | x :: l, k, h => by
    rw [idxR] at h ⊢; by_cases hx : p x = true
    · rw [if_pos hx]; exact ⟨0, by simp, by simp, by simp, by simp [hx]⟩
    · rw [if_neg hx] at h ⊢; obtain ⟨i, h1, h2, h3, h4⟩ := idxR_pos p l (k + 1) h; refine ⟨i + 1, by rw [h1]; omega, by simpa using h2, ?_, ?_⟩
      · simp -implicitDefEqProofs [hx, h3]
      · rw [List.take_succ_cons, List.filter_cons, if_pos (by simp [hx]), h4, List.take_succ_cons]
theorem deleteR_fn (g : FuncId) (cs : List D) (hcs : (cs.all fun c => !c.isAgg) = true) (p : Str × Sl → Bool) (l : List (Str × Sl)) (hl : l.length < 1000000) (hp : ∀ a ∈ l, Ctr prog g ([.d (rw2 a)] ++ cs.map .d) (.d (.bool (p a)))) :
    Ctr prog 99 [.own true 112 (l.map rw2), .d (.clo g cs)] (.own true 112 ((l.filter fun x => !p x).map rw2)) := by
  refine fv (fun i => i == 2000010) func99 (by kernel_rfl) rfl rfl rfl rfl rfl ?_; simp -implicitDefEqProofs; refine ⟨_, rfl, indexR_fn g cs hcs p l hl hp, ?_⟩; by_cases hn : idxR p 0 l = -1
  · simp -implicitDefEqProofs [hn, idxR_neg p l 0 hn]
  · obtain ⟨i, h1, h2, h3, h4⟩ := idxR_pos p l 0 hn; simp only [Nat.zero_add] at h1; have e1 : ¬ ((i : Int) = -1) := (by omega); simp -implicitDefEqProofs [h1, e1]; refine ⟨by omega, ?_⟩; refine loopK (fun n τ => ∃ (j q : Nat) (m : List (Str × Sl)), n = l.length - j ∧ j ≤ l.length ∧ τ 0 = .own true 112 (m.map rw2) ∧ τ 1 = .d (.clo g cs) ∧ τ 5 = .d (.int .i64 q) ∧ τ 6 = .d (.int .i64 j) ∧ m.length = l.length ∧ q < j ∧ m.take q = (l.take j).filter (fun x => !p x) ∧ m.drop j = l.drop j)
      (l.length - (i + 1)) ⟨i + 1, i, l, rfl, by omega, by simp, by simp, by simp, by simp, rfl, by omega, h4.symm, rfl⟩ ?_
    rintro n τ ⟨j, q, m, rfl, hj, g0, g1, g5, g6, hm, hq, ht, hd⟩; by_cases hlt : j < l.length
    · have hmj : m[j]'(by omega) = l[j] := by
        have := congrArg (fun x : List (Str × Sl) => x[0]?) hd; simpa [hlt, hm] using this
      have hf := hp _ (gmm hlt); simp only [rw2, List.cons_append, List.nil_append] at hf; have hlt' : (j : Int) < l.length := (by omega); have hf' := hf; simp -implicitDefEqProofs [g0, g1, g5, g6, hm, hlt', hlt, rw2, hmj]; refine ⟨by simpa using hcs, callK hf ?_⟩; by_cases he : p l[j] = true
      · simp -implicitDefEqProofs [g0, g1, g5, g6, hm, hlt', hlt, rw2, hmj, he]; refine ⟨by omega, _, ?_, j + 1, rfl, by omega, q, m, rfl, rfl, by omega, hm, by omega, ?_, ?_⟩
        · omega
        · rw [take_s hlt, List.filter_append, ht]; simp [he]
        · rw [← List.drop_drop, hd, List.drop_drop]
      · have hq2 : q < m.length := (by omega); have hqq : m[q]? = some m[q] := List.getElem?_eq_getElem hq2; simp -implicitDefEqProofs [g0, g1, g5, g6, hm, hlt', hlt, rw2, hmj, he, hqq]; refine ⟨by omega, by omega, by omega, _, ?_, j + 1, rfl, by omega, q + 1, m.set q l[j], ?_, by simp, by simp, by simpa using hm, by omega, ?_, ?_⟩
        · omega
        · rw [List.map_set]; rfl
        · rw [List.take_set, take_s hq2, List.set_append_right _ _ (by simp; omega)]; simp only [List.length_take, Nat.min_eq_left (Nat.le_of_lt hq2), Nat.sub_self, List.set_cons_zero]; rw [take_s hlt, List.filter_append, ht]; simp [he]
        · rw [List.drop_set_of_lt (by omega), ← List.drop_drop, hd, List.drop_drop]
    · simp -implicitDefEqProofs [g0, g1, g5, g6, hm, hlt]; have hjl : j = l.length := (by omega); subst hjl; refine ⟨by omega, by omega, ?_⟩; rw [List.take_append_of_le_length (by simp; omega), List.take_take, Nat.min_self, ← List.map_take, ht, List.take_length]
end Go.Proofs.Tz
/-
  DERIVED: THE SHELF's CONTRACTS AT THIS DUMP, IN PLAIN WORDS (tools/lay-plain.mjs out of 'DcShP.lean', which tools/lay-shelf.mjs wrote): THE SAME DECLARATIONS UNDER THE SAME NAMES: 'import', 'namespace', 'open', 'def', 'theorem' AND NOTHING ELSE: no command of the shelf's: FOR A HAND-IN. Each laying: the table of numbers ('.._ren') and one theorem, a field a fact of the dump's own or the kernel's comparison; each contract: ONE APPLICATION.
-/
namespace Go.Proofs
open Go.Shelf
def Tryz.layS_ren : Go.Shelf.Ren := ⟨fun | 6 => 91 | 8 => 114 | 9 => 113 | 19 => 129 | 20 => 130 | 21 => 120 | 22 => 121 | 23 => 122 | 24 => 123 | 25 => 124 | 26 => 125 | 27 => 126 | 28 => 127 | 29 => 128 | 36 => 140 | 31 => 141 | 32 => 142 | 37 => 143 | 38 => 144 | 39 => 145 | 41 => 150 | n => n, fun | 27 => 51 | 29 => 9 | 3 => 3 | 32 => 136 | 26 => 51 | 0 => 0 | 44 => 147 | 46 => 149 | 4 => 4 | 36 => 140 | 35 => 139 | 41 => 90 | 5 => 5 | 9 => 9 | 53 => 155 | 57 => 159 | 63 => 164 | 64 => 165 | n => n, fun | n => n⟩
theorem Tryz.layS : Go.Proofs.SlLaysM.n6 prog Tryz.layS_ren := {
  mixed := by kernel_rfl
  f6 := ⟨Tryz.f91.name, by decide, func91.trans (congrArg some (by kernel_rfl))⟩
  f8 := func114.trans (congrArg some (by kernel_rfl))
  f9 := ⟨Tryz.f113.name, by decide, func113.trans (congrArg some (by kernel_rfl))⟩
  f19 := func129.trans (congrArg some (by kernel_rfl))
  f20 := func130.trans (congrArg some (by kernel_rfl))
  f21 := ⟨Tryz.f120.name, by decide, func120.trans (congrArg some (by kernel_rfl))⟩
  f22 := ⟨Tryz.f121.name, by decide, func121.trans (congrArg some (by kernel_rfl))⟩
  f23 := ⟨Tryz.f122.name, by decide, func122.trans (congrArg some (by kernel_rfl))⟩
  f24 := ⟨Tryz.f123.name, by decide, func123.trans (congrArg some (by kernel_rfl))⟩
  f25 := ⟨Tryz.f124.name, by decide, func124.trans (congrArg some (by kernel_rfl))⟩
  f26 := ⟨Tryz.f125.name, by decide, func125.trans (congrArg some (by kernel_rfl))⟩
  f27 := ⟨Tryz.f126.name, by decide, func126.trans (congrArg some (by kernel_rfl))⟩
  f28 := ⟨Tryz.f127.name, by decide, func127.trans (congrArg some (by kernel_rfl))⟩
  f29 := ⟨Tryz.f128.name, by decide, func128.trans (congrArg some (by kernel_rfl))⟩
  f31 := func141.trans (congrArg some (by kernel_rfl))
  f32 := func142.trans (congrArg some (by kernel_rfl))
  f36 := ⟨Tryz.f140.name, by decide, func140.trans (congrArg some (by kernel_rfl))⟩
  f37 := ⟨Tryz.f143.name, by decide, func143.trans (congrArg some (by kernel_rfl))⟩
  f38 := ⟨Tryz.f144.name, by decide, func144.trans (congrArg some (by kernel_rfl))⟩
  f39 := ⟨Tryz.f145.name, by decide, func145.trans (congrArg some (by kernel_rfl))⟩
  f41 := ⟨Tryz.f150.name, by decide, func150.trans (congrArg some (by kernel_rfl))⟩
  t0 := Tryz.underlying0
  a0 := Tryz.isAgg0
  z0 := Tryz.sizeOf0
  v0 := Tryz.zeroValue0
  t3 := Tryz.underlying3
  a3 := Tryz.isAgg3
  z3 := Tryz.sizeOf3
  v3 := Tryz.zeroValue3
  t4 := Tryz.underlying4
  a4 := Tryz.isAgg4
  z4 := Tryz.sizeOf4
  v4 := Tryz.zeroValue4
  t5 := Tryz.underlying5
  a5 := Tryz.isAgg5
  z5 := Tryz.sizeOf5
  v5 := Tryz.zeroValue5
  t9 := Tryz.underlying9
  a9 := Tryz.isAgg9
  z9 := Tryz.sizeOf9
  v9 := Tryz.zeroValue9
  t26 := Tryz.underlying51
  a26 := Tryz.isAgg51
  z26 := Tryz.sizeOf51
  v26 := Tryz.zeroValue51
  t27 := Tryz.underlying51
  a27 := Tryz.isAgg51
  z27 := Tryz.sizeOf51
  v27 := Tryz.zeroValue51
  t29 := Tryz.underlying9
  a29 := Tryz.isAgg9
  z29 := Tryz.sizeOf9
  v29 := Tryz.zeroValue9
  t32 := Tryz.underlying136
  a32 := Tryz.isAgg136
  z32 := Tryz.sizeOf136
  v32 := Tryz.zeroValue136
  t35 := Tryz.underlying139
  a35 := Tryz.isAgg139
  z35 := Tryz.sizeOf139
  v35 := Tryz.zeroValue139
  t36 := Tryz.underlying140
  a36 := Tryz.isAgg140
  z36 := Tryz.sizeOf140
  v36 := Tryz.zeroValue140
  t41 := Tryz.underlying90
  a41 := Tryz.isAgg90
  z41 := Tryz.sizeOf90
  v41 := Tryz.zeroValue90
  t44 := Tryz.underlying147
  a44 := Tryz.isAgg147
  z44 := Tryz.sizeOf147
  v44 := Tryz.zeroValue147
  t46 := Tryz.underlying149
  a46 := Tryz.isAgg149
  z46 := Tryz.sizeOf149
  v46 := Tryz.zeroValue149
  t53 := Tryz.underlying155
  a53 := Tryz.isAgg155
  z53 := Tryz.sizeOf155
  v53 := Tryz.zeroValue155
  t57 := Tryz.underlying159
  a57 := Tryz.isAgg159
  z57 := Tryz.sizeOf159
  v57 := Tryz.zeroValue159
  t63 := Tryz.underlying164
  a63 := Tryz.isAgg164
  z63 := Tryz.sizeOf164
  v63 := Tryz.zeroValue164
  t64 := Tryz.underlying165
  a64 := Tryz.isAgg165
  z64 := Tryz.sizeOf165
  v64 := Tryz.zeroValue165 }
def Tryz.layF_ren : Go.Shelf.Ren := ⟨fun | 6 => 102 | 15 => 114 | 14 => 115 | 28 => 129 | 29 => 130 | 20 => 131 | 21 => 132 | 22 => 133 | 23 => 134 | 24 => 135 | 25 => 136 | 26 => 137 | 27 => 138 | 46 => 146 | 47 => 141 | 48 => 142 | 49 => 147 | 50 => 148 | 57 => 151 | n => n, fun | 22 => 37 | 24 => 112 | 25 => 128 | 3 => 3 | 39 => 136 | 0 => 0 | 53 => 147 | 55 => 149 | 4 => 4 | 46 => 140 | 45 => 139 | 50 => 90 | 5 => 5 | 9 => 9 | 66 => 155 | 70 => 159 | 76 => 164 | 77 => 165 | n => n, fun | n => n⟩
theorem Tryz.layF : Go.Proofs.SlLaysF0.n6 prog Tryz.layF_ren := {
  mixed := by kernel_rfl
  f6 := ⟨Tryz.f102.name, by decide, func102.trans (congrArg some (by kernel_rfl))⟩
  f14 := ⟨Tryz.f115.name, by decide, func115.trans (congrArg some (by kernel_rfl))⟩
  f15 := func114.trans (congrArg some (by kernel_rfl))
  f20 := ⟨Tryz.f131.name, by decide, func131.trans (congrArg some (by kernel_rfl))⟩
  f21 := ⟨Tryz.f132.name, by decide, func132.trans (congrArg some (by kernel_rfl))⟩
  f22 := ⟨Tryz.f133.name, by decide, func133.trans (congrArg some (by kernel_rfl))⟩
  f23 := ⟨Tryz.f134.name, by decide, func134.trans (congrArg some (by kernel_rfl))⟩
  f24 := ⟨Tryz.f135.name, by decide, func135.trans (congrArg some (by kernel_rfl))⟩
  f25 := ⟨Tryz.f136.name, by decide, func136.trans (congrArg some (by kernel_rfl))⟩
  f26 := ⟨Tryz.f137.name, by decide, func137.trans (congrArg some (by kernel_rfl))⟩
  f27 := ⟨Tryz.f138.name, by decide, func138.trans (congrArg some (by kernel_rfl))⟩
  f28 := func129.trans (congrArg some (by kernel_rfl))
  f29 := func130.trans (congrArg some (by kernel_rfl))
  f46 := ⟨Tryz.f146.name, by decide, func146.trans (congrArg some (by kernel_rfl))⟩
  f47 := func141.trans (congrArg some (by kernel_rfl))
  f48 := func142.trans (congrArg some (by kernel_rfl))
  f49 := ⟨Tryz.f147.name, by decide, func147.trans (congrArg some (by kernel_rfl))⟩
  f50 := ⟨Tryz.f148.name, by decide, func148.trans (congrArg some (by kernel_rfl))⟩
  f57 := ⟨Tryz.f151.name, by decide, func151.trans (congrArg some (by kernel_rfl))⟩
  t0 := Tryz.underlying0
  a0 := Tryz.isAgg0
  z0 := Tryz.sizeOf0
  v0 := Tryz.zeroValue0
  t3 := Tryz.underlying3
  a3 := Tryz.isAgg3
  z3 := Tryz.sizeOf3
  v3 := Tryz.zeroValue3
  t4 := Tryz.underlying4
  a4 := Tryz.isAgg4
  z4 := Tryz.sizeOf4
  v4 := Tryz.zeroValue4
  t5 := Tryz.underlying5
  a5 := Tryz.isAgg5
  z5 := Tryz.sizeOf5
  v5 := Tryz.zeroValue5
  t9 := Tryz.underlying9
  a9 := Tryz.isAgg9
  z9 := Tryz.sizeOf9
  v9 := Tryz.zeroValue9
  t22 := Tryz.underlying37
  a22 := Tryz.isAgg37
  z22 := Tryz.sizeOf37
  v22 := Tryz.zeroValue37
  t25 := Tryz.underlying128
  a25 := Tryz.isAgg128
  z25 := Tryz.sizeOf128
  v25 := Tryz.zeroValue128
  t39 := Tryz.underlying136
  a39 := Tryz.isAgg136
  z39 := Tryz.sizeOf136
  v39 := Tryz.zeroValue136
  t45 := Tryz.underlying139
  a45 := Tryz.isAgg139
  z45 := Tryz.sizeOf139
  v45 := Tryz.zeroValue139
  t46 := Tryz.underlying140
  a46 := Tryz.isAgg140
  z46 := Tryz.sizeOf140
  v46 := Tryz.zeroValue140
  t50 := Tryz.underlying90
  a50 := Tryz.isAgg90
  z50 := Tryz.sizeOf90
  v50 := Tryz.zeroValue90
  t53 := Tryz.underlying147
  a53 := Tryz.isAgg147
  z53 := Tryz.sizeOf147
  v53 := Tryz.zeroValue147
  t55 := Tryz.underlying149
  a55 := Tryz.isAgg149
  z55 := Tryz.sizeOf149
  v55 := Tryz.zeroValue149
  t66 := Tryz.underlying155
  a66 := Tryz.isAgg155
  z66 := Tryz.sizeOf155
  v66 := Tryz.zeroValue155
  t70 := Tryz.underlying159
  a70 := Tryz.isAgg159
  z70 := Tryz.sizeOf159
  v70 := Tryz.zeroValue159
  t76 := Tryz.underlying164
  a76 := Tryz.isAgg164
  z76 := Tryz.sizeOf164
  v76 := Tryz.zeroValue164
  t77 := Tryz.underlying165
  a77 := Tryz.isAgg165
  z77 := Tryz.sizeOf165
  v77 := Tryz.zeroValue165 }
def Tryz.layC_ren : Go.Shelf.Ren := ⟨fun | 44 => 101 | n => n, fun | 25 => 51 | 26 => 9 | 3 => 3 | 4 => 4 | 0 => 0 | n => n, fun | n => n⟩
theorem Tryz.layC : Go.Proofs.SlLaysN.n44 prog Tryz.layC_ren := {
  mixed := by kernel_rfl
  f44 := ⟨Tryz.f101.name, by decide, func101.trans (congrArg some (by kernel_rfl))⟩
  t0 := Tryz.underlying0
  a0 := Tryz.isAgg0
  z0 := Tryz.sizeOf0
  v0 := Tryz.zeroValue0
  t3 := Tryz.underlying3
  a3 := Tryz.isAgg3
  z3 := Tryz.sizeOf3
  v3 := Tryz.zeroValue3
  t4 := Tryz.underlying4
  a4 := Tryz.isAgg4
  z4 := Tryz.sizeOf4
  v4 := Tryz.zeroValue4
  t25 := Tryz.underlying51
  a25 := Tryz.isAgg51
  z25 := Tryz.sizeOf51
  v25 := Tryz.zeroValue51
  t26 := Tryz.underlying9
  a26 := Tryz.isAgg9
  z26 := Tryz.sizeOf9
  v26 := Tryz.zeroValue9
  i26 := by kernel_rfl }
def Tryz.keysA_ren : Go.Shelf.Ren := ⟨fun | 7 => 69 | 10 => 93 | n => n, fun | 23 => 71 | 26 => 9 | 3 => 39 | 28 => 105 | 0 => 0 | 27 => 104 | 33 => 99 | 4 => 4 | n => n, fun | n => n⟩
theorem Tryz.keysA : Go.Proofs.SlLaysZ.n7 prog Tryz.keysA_ren := {
  mixed := by kernel_rfl
  f7 := ⟨Tryz.f69.name, by decide, func69.trans (congrArg some (by kernel_rfl))⟩
  f10 := ⟨Tryz.f93.name, by decide, func93.trans (congrArg some (by kernel_rfl))⟩
  t0 := Tryz.underlying0
  a0 := Tryz.isAgg0
  z0 := Tryz.sizeOf0
  v0 := Tryz.zeroValue0
  t4 := Tryz.underlying4
  a4 := Tryz.isAgg4
  z4 := Tryz.sizeOf4
  v4 := Tryz.zeroValue4
  t23 := Tryz.underlying71
  a23 := Tryz.isAgg71
  z23 := Tryz.sizeOf71
  v23 := Tryz.zeroValue71
  t26 := Tryz.underlying9
  a26 := Tryz.isAgg9
  z26 := Tryz.sizeOf9
  v26 := Tryz.zeroValue9
  t27 := Tryz.underlying104
  a27 := Tryz.isAgg104
  z27 := Tryz.sizeOf104
  v27 := Tryz.zeroValue104
  t28 := Tryz.underlying105
  a28 := Tryz.isAgg105
  z28 := Tryz.sizeOf105
  v28 := Tryz.zeroValue105
  t33 := Tryz.underlying99
  a33 := Tryz.isAgg99
  z33 := Tryz.sizeOf99
  v33 := Tryz.zeroValue99 }
def Tryz.keysW_ren : Go.Shelf.Ren := ⟨fun | 7 => 66 | 10 => 92 | n => n, fun | 23 => 76 | 26 => 9 | 3 => 97 | 28 => 105 | 0 => 0 | 27 => 104 | 33 => 99 | 4 => 4 | n => n, fun | n => n⟩
theorem Tryz.keysW : Go.Proofs.SlLaysZ.n7 prog Tryz.keysW_ren := {
  mixed := by kernel_rfl
  f7 := ⟨Tryz.f66.name, by decide, func66.trans (congrArg some (by kernel_rfl))⟩
  f10 := ⟨Tryz.f92.name, by decide, func92.trans (congrArg some (by kernel_rfl))⟩
  t0 := Tryz.underlying0
  a0 := Tryz.isAgg0
  z0 := Tryz.sizeOf0
  v0 := Tryz.zeroValue0
  t4 := Tryz.underlying4
  a4 := Tryz.isAgg4
  z4 := Tryz.sizeOf4
  v4 := Tryz.zeroValue4
  t23 := Tryz.underlying76
  a23 := Tryz.isAgg76
  z23 := Tryz.sizeOf76
  v23 := Tryz.zeroValue76
  t26 := Tryz.underlying9
  a26 := Tryz.isAgg9
  z26 := Tryz.sizeOf9
  v26 := Tryz.zeroValue9
  t27 := Tryz.underlying104
  a27 := Tryz.isAgg104
  z27 := Tryz.sizeOf104
  v27 := Tryz.zeroValue104
  t28 := Tryz.underlying105
  a28 := Tryz.isAgg105
  z28 := Tryz.sizeOf105
  v28 := Tryz.zeroValue105
  t33 := Tryz.underlying99
  a33 := Tryz.isAgg99
  z33 := Tryz.sizeOf99
  v33 := Tryz.zeroValue99 }
def Tryz.sorted_ren : Go.Shelf.Ren := ⟨fun | 6 => 65 | 8 => 90 | 9 => 91 | 11 => 112 | 13 => 114 | 12 => 113 | 23 => 129 | 24 => 130 | 14 => 120 | 15 => 121 | 16 => 122 | 17 => 123 | 18 => 124 | 19 => 125 | 20 => 126 | 21 => 127 | 22 => 128 | 25 => 140 | 26 => 141 | 27 => 142 | 28 => 143 | 29 => 144 | 30 => 145 | 31 => 150 | n => n, fun | 26 => 9 | 28 => 105 | 24 => 51 | 0 => 0 | 3 => 3 | 37 => 136 | 48 => 147 | 50 => 149 | 4 => 4 | 40 => 140 | 39 => 139 | 45 => 90 | 5 => 5 | 9 => 9 | 51 => 155 | 55 => 159 | 57 => 164 | 58 => 165 | 33 => 99 | n => n, fun | n => n⟩
theorem Tryz.sorted : Go.Proofs.SlLaysZ.n6 prog Tryz.sorted_ren := {
  mixed := by kernel_rfl
  f6 := ⟨Tryz.f65.name, by decide, func65.trans (congrArg some (by kernel_rfl))⟩
  f8 := ⟨Tryz.f90.name, by decide, func90.trans (congrArg some (by kernel_rfl))⟩
  f11 := ⟨Tryz.f112.name, by decide, func112.trans (congrArg some (by kernel_rfl))⟩
  t0 := Tryz.underlying0
  a0 := Tryz.isAgg0
  z0 := Tryz.sizeOf0
  v0 := Tryz.zeroValue0
  t24 := Tryz.underlying51
  a24 := Tryz.isAgg51
  z24 := Tryz.sizeOf51
  v24 := Tryz.zeroValue51
  t26 := Tryz.underlying9
  a26 := Tryz.isAgg9
  z26 := Tryz.sizeOf9
  v26 := Tryz.zeroValue9
  t28 := Tryz.underlying105
  a28 := Tryz.isAgg105
  z28 := Tryz.sizeOf105
  v28 := Tryz.zeroValue105
  i26 := by kernel_rfl }
end Go.Proofs
namespace Go.Proofs.Tz
open Go.Vw Go.Sort Go.RowKit
set_option maxRecDepth 100000
theorem strs_rep (w : World) (L : Nat → Nat → Prop) : ∀ (l : List Str), RepL w L (l.map .str) (l.map fun s => [encStr s])
  | [] => by simp [RepL]
  | s :: l => by
    simp only [List.map_cons, RepL]; exact ⟨_, _, rfl, by simp [Rep, encStr], strs_rep w L l⟩
theorem strs_flat : ∀ (l : List Str), (l.map fun s => [encStr s]).flatten = l.map encStr
  | [] => rfl
  | s :: l => by simp [strs_flat l]
theorem strs_only {w : World} {L : Nat → Nat → Prop} : ∀ {l : List Str} {css : List (List Value)}, RepL w L (l.map .str) css → css = l.map fun s => [encStr s]
  | [], css, h => by simpa [RepL] using h
  | s :: l, css, h => by
    simp only [List.map_cons, RepL] at h; obtain ⟨c, cs, rfl, h1, h2⟩ := h; rw [strs_only h2]; simp only [Rep] at h1; subst h1; rfl
def sortS (l : List Str) : List Str := l.mergeSort fun x y => decide (x ≤ y)
theorem holds_strs {w : World} {g : Nat} {l : List Str} (h : Holds id w g 0 (l.map encStr).toArray) : Holds encStr w g 0 l.toArray := by
  intro j hj; have hj' : j < l.length := (by simpa using hj); have := h j (by simpa using hj'); simpa [hj'] using this
theorem sort_fn (l : List Str) (hl : l.length < 1000000) : CtrI prog 91 9 (l.map .str) [] ((sortS l).map .str) := by
  refine ⟨enters_of func91 (by kernel_rfl) rfl, fun w L og v vals hlok hgl hown hrc => ?_⟩; simp only [RCs] at hrc; subst hrc; obtain ⟨css0, sz0, g1, g2, g3, g4, g5⟩ := id hown; rcases g4.2 with ⟨hv, hn⟩ | ⟨g, cap, cur, hv, _⟩
  · have hl0 : l = [] := (by simpa using hn); subst hl0; subst hv; have h := AnyM.slices_Sort_string_none Tryz.layS none 0 w
    change Calls prog 91 _ _ _ at h
    refine h.mono ?_; rintro e w' ⟨rfl, rfl⟩; exact ⟨L, rfl, GrownS.refl _ _, hlok, fun _ _ _ _ => Iff.rfl, by simpa [sortS] using hown⟩
  · subst hv; obtain ⟨css, h1, h2, h3, h4, h5⟩ := hown.holds; have hcss := strs_only h1; subst hcss; rw [strs_flat] at h3; have h := AnyM.slices_Sort_string Tryz.layS g 0 cap l w (holds_strs h3) h4 (by omega)
    change Calls prog 91 _ _ _ at h
    rw [List.length_map]; refine h.mono ?_; rintro e w' ⟨rfl, n, os, rfl⟩; rw [putRow_map encStr]; have hlen : (sortS l).length = l.length := (by simp [sortS]); have hog := (hown.blk (g := g) rfl).1; have hs := hown.sorted hlok (strs_rep w L (sortS l)) (by simp [hlen]) (fun sz hsz c hc => by
      obtain ⟨s, _, rfl⟩ := List.mem_map.1 hc; rw [show (prog.info? (ety 9)).map (·.size) = some 1 from Tryz.sz_9] at hsz; simpa using hsz) n os (F := ((sortS l).map encStr).toArray) (by rw [strs_flat])
    rw [List.length_map] at hs; have e : (List.map encStr (sortS l)).toArray = Array.map encStr (l.mergeSort fun x y => decide (x ≤ y)).toArray := by simp [sortS]
    rw [sortedW, e] at hs; refine ⟨L, rfl, ?_, hs.2.2, fun _ _ _ _ => Iff.rfl, hs.1⟩; rw [hog]; exact hs.2.1
def encR (x : Str × Sl) : List Value := [encStr x.1, .slice x.2.1 x.2.2.1 x.2.2.2]
theorem rows_rep (w : World) (L : Nat → Nat → Prop) : ∀ (l : List (Str × Sl)), RepL w L (l.map rw2) (l.map encR)
  | [] => by simp [RepL]
  | s :: l => by
    simp only [List.map_cons, RepL]; refine ⟨_, _, rfl, ?_, rows_rep w L l⟩; simp only [rw2, Rep, RepL]; exact ⟨[[encStr s.1], [.slice s.2.1 s.2.2.1 s.2.2.2]], ⟨_, _, rfl, by simp [encStr], _, _, rfl, ⟨rfl, by simp [Value.oneCell'], rfl⟩, rfl⟩, rfl⟩
theorem rows_only {w : World} {L : Nat → Nat → Prop} : ∀ {l : List (Str × Sl)} {css : List (List Value)}, RepL w L (l.map rw2) css → css = l.map encR
  | [], css, h => by simpa [RepL] using h
  | s :: l, css, h => by
    simp only [List.map_cons, RepL] at h; obtain ⟨c, cs, rfl, h1, h2⟩ := h; simp only [rw2, Rep, RepL] at h1; obtain ⟨css, ⟨_, _, rfl, rfl, _, _, rfl, ⟨rfl, h3, h4⟩, rfl⟩, rfl⟩ := h1; rw [rows_only h2]; rfl
def cmpR (x y : Str × Sl) : Int := if Op.bytesLess x.1 y.1 then -1 else 1
end Go.Proofs.Tz
namespace Go.Proofs.Tz
open Go.Vw Go.Sort Go.RowKit Go.Lib
set_option maxRecDepth 100000
theorem ltR (x y : Str × Sl) : ltOf cmpR x y = Op.bytesLess x.1 y.1 := by
  unfold ltOf cmpR; cases Op.bytesLess x.1 y.1 <;> simp
theorem swoR : SWO (ltOf cmpR) where
  irrefl x := by rw [ltR, bytesLess_eq]; simp
  trans x y z h1 h2 := by
    rw [ltR, bytesLess_eq] at *; simp only [decide_eq_true_eq] at *; exact List.lt_trans h1 h2
  ntrans x y z h1 h2 := by
    rw [ltR, bytesLess_eq] at *; simp only [decide_eq_false_iff_not, List.not_lt] at *; exact List.le_trans h2 h1
theorem cmp_calls (a b : ByteArray) (u v : Value) (W : World) : Calls prog 103 #[.agg #[.string a, u], .agg #[.string b, v]] W fun e w' => e = .returned (.int .i64 (if Op.bytesLess a.toList b.toList then -1 else 1)) ∧ ∃ q os', w' = grow (W.drewN q) os' := by
  cases hb : Op.bytesLess a.toList b.toList
  · go_enter func103, Tryz.ntmps103
    go_wp2
    go_ret
    exact ⟨rfl, 0, _, by rw [alloc_eq_grow, alloc_eq_grow, grow_grow]; rfl⟩
  · go_enter func103, Tryz.ntmps103
    go_wp2
    go_ret
    exact ⟨rfl, 0, _, by rw [alloc_eq_grow, alloc_eq_grow, grow_grow]; rfl⟩
instance : Inhabited (Str × Sl) := ⟨([], none, 0, 0)⟩
def sortR (l : List (Str × Sl)) : List (Str × Sl) := (pdq (ltOf cmpR) l.toArray 0 l.length (Lib.bitLen l.length) true true).toList
theorem sortR_perm (l : List (Str × Sl)) : (sortR l).Perm l ∧ ∀ i j (hij : i < j) (hj : j < (sortR l).length), Op.bytesLess (sortR l)[j].1 ((sortR l)[i]'(by omega)).1 = false := by
  have h := pdq_sorts (ltOf cmpR) swoR l.toArray 0 l.length (Lib.bitLen l.length) true true (Nat.zero_le _) (by simp) (Or.inl rfl); obtain ⟨⟨h1, h2, h3⟩, h4⟩ := h; have hs : (sortR l).length = l.length := (by simpa [sortR] using h1); refine ⟨?_, fun i j hij hj => ?_⟩
  · have e1 : (pdq (ltOf cmpR) l.toArray 0 l.length (Lib.bitLen l.length) true true).extract 0 l.length = pdq (ltOf cmpR) l.toArray 0 l.length (Lib.bitLen l.length) true true := by
      apply Array.extract_eq_self_of_le; rw [h1]; simp
    rw [e1] at h3; simpa [sortR] using h3
  · have := h4 i j (Nat.zero_le _) hij (by omega); rw [ltR] at this; have hj' : j < (pdq (ltOf cmpR) l.toArray 0 l.length (Lib.bitLen l.length) true true).size := (by simpa [sortR] using hj); rw [getElem!_pos _ j hj', getElem!_pos _ i (by omega)] at this; simpa [sortR] using this
theorem flatK_eq {α : Type} [Inhabited α] (enc : α → List Value) (k : Nat) (l : List α) (hk : ∀ x, (enc x).length = k) (hp : 0 < k) : flatK enc k l.toArray = (l.map enc).flatten.toArray := by
  have hfl : (l.map enc).flatten.length = l.length * k := by rw [flatten_sized (fun c hc => by obtain ⟨x, _, rfl⟩ := List.mem_map.1 hc; exact hk x), List.length_map]
  apply Array.ext
  · simp [flatK, hfl]
  · intro t h1 h2; have ht : t < l.length * k := (by simpa [flatK] using h1); have hq : t / k < l.length := Nat.div_lt_of_lt_mul (by rw [Nat.mul_comm]; exact ht); have hr : t % k < (enc l[t / k]).length := by rw [hk]; exact Nat.mod_lt _ hp
    have := flatten_get (css := l.map enc) (sz := k) (fun c hc => by obtain ⟨x, _, rfl⟩ := List.mem_map.1 hc; exact hk x) (i := t / k) (c := enc l[t / k]) (by simp [hq]) (t % k) ((enc l[t / k])[t % k]) (List.getElem?_eq_getElem hr); rw [show t / k * k + t % k = t by rw [Nat.mul_comm]; exact Nat.div_add_mod t k] at this; have e2 := (List.getElem?_eq_some_iff.1 this).2; simp only [flatK, List.size_toArray, Array.getElem_map, Array.getElem_range, List.getElem_toArray]; rw [e2, show (l.toArray[t / k]! : α) = l[t / k] by rw [getElem!_pos l.toArray _ (by simpa using hq)]; simp]; exact getElem!_pos (enc l[t / k]) (t % k) hr
theorem sortR_fn (l : List (Str × Sl)) (hl : l.length < 1000000) : CtrI prog 102 112 (l.map rw2) [.d (.clo 103 [])] ((sortR l).map rw2) := by
  refine ⟨enters_of func102 (by kernel_rfl) rfl, fun w L og v vals hlok hgl hown hrc => ?_⟩; simp only [RCs] at hrc; obtain ⟨cv, us, rfl, hc1, rfl⟩ := hrc; simp only [RC] at hc1; obtain ⟨ccs, hcc, rfl⟩ := clo_inv hc1; simp only [RepL] at hcc; subst hcc; simp only [List.flatten_nil]; obtain ⟨css0, sz0, g1, g2, g3, g4, g5⟩ := id hown; rcases g4.2 with ⟨hv, hn⟩ | ⟨g, cap, cur, hv, _⟩
  · have hl0 : l = [] := (by simpa using hn); subst hl0; subst hv; have h := AnyF.slices_SortFunc_none Tryz.layF none 0 (.func (.func 103) #[] #[]) w
    change Calls prog 102 _ _ _ at h
    refine h.mono ?_; rintro e w' ⟨rfl, rfl⟩; have hnil : sortR [] = [] := List.Perm.eq_nil (sortR_perm []).1; exact ⟨L, rfl, GrownS.refl _ _, hlok, fun _ _ _ _ => Iff.rfl, by rw [hnil]; exact hown⟩
  · subst hv; obtain ⟨css, h1, h2, h3, h4, h5⟩ := hown.holds; have hcss := rows_only h1; subst hcss; have hK : HoldsK encR 2 w g 0 l.toArray := by
      unfold HoldsK; rw [flatK_eq encR 2 l (fun _ => rfl) (by omega)]; exact h3
    have eg : ∀ args w, (callFunc 103 args).run prog w = .ok (.enter 103 args) w := enters_of func103 (by kernel_rfl) rfl; have hcmp : CmpLays prog 103 #[] encR 2 cmpR g 0 l.toArray.size w := fun m os dk _ x y => by
      have := cmp_calls ⟨x.1.toArray⟩ ⟨y.1.toArray⟩ (.slice x.2.1 x.2.2.1 x.2.2.2) (.slice y.2.1 y.2.2.1 y.2.2.2) (sortWorldK encR 2 w g 0 m dk os); simp only [Lib.toList_data] at this; exact this
    have h := AnyQ.slices_SortFunc_eq Tryz.layF 2 Tryz.isAgg112 Tryz.sizeOf112 encR (fun _ => rfl) (fun x v hv => ?_) cmpR swoR 103 #[] g 0 cap l.toArray w eg hcmp hK h4 (by simp; omega)
    · change Calls prog 102 _ _ _ at h
      simp only [List.size_toArray] at h; rw [List.length_map]; refine h.mono ?_; rintro e w' ⟨rfl, n, os, rfl⟩; have hp := (sortR_perm l).1; have hlen : (sortR l).length = l.length := hp.length_eq; have hog := (hown.blk (g := g) rfl).1; have hs := hown.sorted hlok (rows_rep w L (sortR l)) (by simp [hlen]) (fun sz hsz c hc => by
        obtain ⟨s, _, rfl⟩ := List.mem_map.1 hc; rw [show (prog.info? (ety 112)).map (·.size) = some 2 from Tryz.sz_112] at hsz; simpa [encR] using hsz) n os (F := ((sortR l).map encR).flatten.toArray) rfl
      rw [List.length_map] at hs; have e : sortedW w g n ((sortR l).map encR).flatten.toArray os = sortWorldK encR 2 w g 0 n (pdq (ltOf cmpR) l.toArray 0 l.length (Lib.bitLen l.length) true true) os := by
        unfold sortedW sortWorldK putRowK; rw [← flatK_eq encR 2 (sortR l) (fun _ => rfl) (by omega)]; rfl
      rw [e] at hs; refine ⟨L, rfl, ?_, hs.2.2, fun _ _ _ _ => Iff.rfl, hs.1⟩; rw [hog]; exact hs.2.1
    · simp only [encR, List.mem_cons, List.not_mem_nil, or_false] at hv; rcases hv with rfl | rfl <;> rfl
end Go.Proofs.Tz