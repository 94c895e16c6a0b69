/-
  What attrs.Sorted computes, with the sorts of the library: contracts, for lists and strings of bounded size (each theorem states its bound).
-/
import Derived.Shelf.SlSortCmp.WholeK
import Derived.Shelf.SlSortCmp.NoneTotal
import Derived.Shelf.SlicesG.Cmp
import Derived.Shelf.SlicesG.CompactS
import Derived.Shelf.SlicesG.Delete
import Derived.Shelf.SortM.Plain
import Derived.Shelf.SortM.SortNone
import Derived.Shelf.SlGeneric
import Derived.Ground.SlgmProg
import Derived.Ground.SlgnProg
import Derived.Ground.SlsfProg
import Derived.Test.YtfljbolhljafdaaGreatDoorProg
import Derived.Test.YtfljbolhljafdaaGreatDoorTb
import Derived.Test.YtfljbolhljafdaaGreatDoorWd
import Derived.WalkKit
import Derived.Lib.RowBridge

set_option linter.unusedSimpArgs false
set_option linter.unusedVariables false

/-
  DERIVED: THE SHELF's CONTRACTS AT THIS DUMP, IN PLAIN WORDS (tools/lay-plain.mjs out of 'TzShP.lean', which tools/lay-shelf.mjs wrote): THE SAME DECLARATIONS UNDER THE SAME NAMES: 'import', 'namespace', 'open', 'def', 'theorem' AND NOTHING ELSE: no command of the shelf's: FOR A HAND-IN. Each laying: the table of numbers ('.._ren') and one theorem, a field a fact of the dump's own or the kernel's comparison; each contract: ONE APPLICATION.
-/
namespace Go.Proofs
open Go.Shelf
def Tryz.layS_ren : Go.Shelf.Ren := ⟨fun | 6 => 46 | 8 => 77 | 9 => 76 | 19 => 92 | 20 => 93 | 21 => 83 | 22 => 84 | 23 => 85 | 24 => 86 | 25 => 87 | 26 => 88 | 27 => 89 | 28 => 90 | 29 => 91 | 36 => 103 | 31 => 104 | 32 => 105 | 37 => 106 | 38 => 107 | 39 => 108 | 41 => 119 | n => n, fun | 27 => 29 | 29 => 9 | 3 => 3 | 32 => 70 | 26 => 29 | 0 => 0 | 44 => 83 | 46 => 85 | 4 => 4 | 36 => 75 | 35 => 74 | 41 => 80 | 5 => 5 | 9 => 9 | 53 => 92 | 57 => 96 | 63 => 107 | 64 => 108 | n => n, fun | n => n⟩
theorem Tryz.layS : Go.Proofs.SlLaysM.n6 Tryz.prog Tryz.layS_ren := {
  mixed := by kernel_rfl
  f6 := ⟨Tryz.f46.name, by decide, Tryz.func46.trans (congrArg some (by kernel_rfl))⟩
  f8 := Tryz.func77.trans (congrArg some (by kernel_rfl))
  f9 := ⟨Tryz.f76.name, by decide, Tryz.func76.trans (congrArg some (by kernel_rfl))⟩
  f19 := Tryz.func92.trans (congrArg some (by kernel_rfl))
  f20 := Tryz.func93.trans (congrArg some (by kernel_rfl))
  f21 := ⟨Tryz.f83.name, by decide, Tryz.func83.trans (congrArg some (by kernel_rfl))⟩
  f22 := ⟨Tryz.f84.name, by decide, Tryz.func84.trans (congrArg some (by kernel_rfl))⟩
  f23 := ⟨Tryz.f85.name, by decide, Tryz.func85.trans (congrArg some (by kernel_rfl))⟩
  f24 := ⟨Tryz.f86.name, by decide, Tryz.func86.trans (congrArg some (by kernel_rfl))⟩
  f25 := ⟨Tryz.f87.name, by decide, Tryz.func87.trans (congrArg some (by kernel_rfl))⟩
  f26 := ⟨Tryz.f88.name, by decide, Tryz.func88.trans (congrArg some (by kernel_rfl))⟩
  f27 := ⟨Tryz.f89.name, by decide, Tryz.func89.trans (congrArg some (by kernel_rfl))⟩
  f28 := ⟨Tryz.f90.name, by decide, Tryz.func90.trans (congrArg some (by kernel_rfl))⟩
  f29 := ⟨Tryz.f91.name, by decide, Tryz.func91.trans (congrArg some (by kernel_rfl))⟩
  f31 := Tryz.func104.trans (congrArg some (by kernel_rfl))
  f32 := Tryz.func105.trans (congrArg some (by kernel_rfl))
  f36 := ⟨Tryz.f103.name, by decide, Tryz.func103.trans (congrArg some (by kernel_rfl))⟩
  f37 := ⟨Tryz.f106.name, by decide, Tryz.func106.trans (congrArg some (by kernel_rfl))⟩
  f38 := ⟨Tryz.f107.name, by decide, Tryz.func107.trans (congrArg some (by kernel_rfl))⟩
  f39 := ⟨Tryz.f108.name, by decide, Tryz.func108.trans (congrArg some (by kernel_rfl))⟩
  f41 := ⟨Tryz.f119.name, by decide, Tryz.func119.trans (congrArg some (by kernel_rfl))⟩
  t0 := Tryz.underlying0
  a0 := Tryz.isAgg0
  z0 := Tryz.sizeOf0
  v0 := Tryz.zeroValue0
  t3 := Tryz.underlying3
  a3 := Tryz.isAgg3
  z3 := Tryz.sizeOf3
  v3 := Tryz.zeroValue3
  t4 := Tryz.underlying4
  a4 := Tryz.isAgg4
  z4 := Tryz.sizeOf4
  v4 := Tryz.zeroValue4
  t5 := Tryz.underlying5
  a5 := Tryz.isAgg5
  z5 := Tryz.sizeOf5
  v5 := Tryz.zeroValue5
  t9 := Tryz.underlying9
  a9 := Tryz.isAgg9
  z9 := Tryz.sizeOf9
  v9 := Tryz.zeroValue9
  t26 := Tryz.underlying29
  a26 := Tryz.isAgg29
  z26 := Tryz.sizeOf29
  v26 := Tryz.zeroValue29
  t27 := Tryz.underlying29
  a27 := Tryz.isAgg29
  z27 := Tryz.sizeOf29
  v27 := Tryz.zeroValue29
  t29 := Tryz.underlying9
  a29 := Tryz.isAgg9
  z29 := Tryz.sizeOf9
  v29 := Tryz.zeroValue9
  t32 := Tryz.underlying70
  a32 := Tryz.isAgg70
  z32 := Tryz.sizeOf70
  v32 := Tryz.zeroValue70
  t35 := Tryz.underlying74
  a35 := Tryz.isAgg74
  z35 := Tryz.sizeOf74
  v35 := Tryz.zeroValue74
  t36 := Tryz.underlying75
  a36 := Tryz.isAgg75
  z36 := Tryz.sizeOf75
  v36 := Tryz.zeroValue75
  t41 := Tryz.underlying80
  a41 := Tryz.isAgg80
  z41 := Tryz.sizeOf80
  v41 := Tryz.zeroValue80
  t44 := Tryz.underlying83
  a44 := Tryz.isAgg83
  z44 := Tryz.sizeOf83
  v44 := Tryz.zeroValue83
  t46 := Tryz.underlying85
  a46 := Tryz.isAgg85
  z46 := Tryz.sizeOf85
  v46 := Tryz.zeroValue85
  t53 := Tryz.underlying92
  a53 := Tryz.isAgg92
  z53 := Tryz.sizeOf92
  v53 := Tryz.zeroValue92
  t57 := Tryz.underlying96
  a57 := Tryz.isAgg96
  z57 := Tryz.sizeOf96
  v57 := Tryz.zeroValue96
  t63 := Tryz.underlying107
  a63 := Tryz.isAgg107
  z63 := Tryz.sizeOf107
  v63 := Tryz.zeroValue107
  t64 := Tryz.underlying108
  a64 := Tryz.isAgg108
  z64 := Tryz.sizeOf108
  v64 := Tryz.zeroValue108 }
def Tryz.layF_ren : Go.Shelf.Ren := ⟨fun | 6 => 48 | 15 => 77 | 14 => 78 | 28 => 92 | 29 => 93 | 20 => 94 | 21 => 95 | 22 => 96 | 23 => 97 | 24 => 98 | 25 => 99 | 26 => 100 | 27 => 101 | 46 => 109 | 47 => 104 | 48 => 105 | 49 => 110 | 50 => 111 | 57 => 120 | n => n, fun | 22 => 22 | 24 => 42 | 25 => 53 | 3 => 3 | 39 => 70 | 0 => 0 | 53 => 83 | 55 => 85 | 4 => 4 | 46 => 75 | 45 => 74 | 50 => 80 | 5 => 5 | 9 => 9 | 66 => 92 | 70 => 96 | 76 => 107 | 77 => 108 | n => n, fun | n => n⟩
theorem Tryz.layF : Go.Proofs.SlLaysF0.n6 Tryz.prog Tryz.layF_ren := {
  mixed := by kernel_rfl
  f6 := ⟨Tryz.f48.name, by decide, Tryz.func48.trans (congrArg some (by kernel_rfl))⟩
  f14 := ⟨Tryz.f78.name, by decide, Tryz.func78.trans (congrArg some (by kernel_rfl))⟩
  f15 := Tryz.func77.trans (congrArg some (by kernel_rfl))
  f20 := ⟨Tryz.f94.name, by decide, Tryz.func94.trans (congrArg some (by kernel_rfl))⟩
  f21 := ⟨Tryz.f95.name, by decide, Tryz.func95.trans (congrArg some (by kernel_rfl))⟩
  f22 := ⟨Tryz.f96.name, by decide, Tryz.func96.trans (congrArg some (by kernel_rfl))⟩
  f23 := ⟨Tryz.f97.name, by decide, Tryz.func97.trans (congrArg some (by kernel_rfl))⟩
  f24 := ⟨Tryz.f98.name, by decide, Tryz.func98.trans (congrArg some (by kernel_rfl))⟩
  f25 := ⟨Tryz.f99.name, by decide, Tryz.func99.trans (congrArg some (by kernel_rfl))⟩
  f26 := ⟨Tryz.f100.name, by decide, Tryz.func100.trans (congrArg some (by kernel_rfl))⟩
  f27 := ⟨Tryz.f101.name, by decide, Tryz.func101.trans (congrArg some (by kernel_rfl))⟩
  f28 := Tryz.func92.trans (congrArg some (by kernel_rfl))
  f29 := Tryz.func93.trans (congrArg some (by kernel_rfl))
  f46 := ⟨Tryz.f109.name, by decide, Tryz.func109.trans (congrArg some (by kernel_rfl))⟩
  f47 := Tryz.func104.trans (congrArg some (by kernel_rfl))
  f48 := Tryz.func105.trans (congrArg some (by kernel_rfl))
  f49 := ⟨Tryz.f110.name, by decide, Tryz.func110.trans (congrArg some (by kernel_rfl))⟩
  f50 := ⟨Tryz.f111.name, by decide, Tryz.func111.trans (congrArg some (by kernel_rfl))⟩
  f57 := ⟨Tryz.f120.name, by decide, Tryz.func120.trans (congrArg some (by kernel_rfl))⟩
  t0 := Tryz.underlying0
  a0 := Tryz.isAgg0
  z0 := Tryz.sizeOf0
  v0 := Tryz.zeroValue0
  t3 := Tryz.underlying3
  a3 := Tryz.isAgg3
  z3 := Tryz.sizeOf3
  v3 := Tryz.zeroValue3
  t4 := Tryz.underlying4
  a4 := Tryz.isAgg4
  z4 := Tryz.sizeOf4
  v4 := Tryz.zeroValue4
  t5 := Tryz.underlying5
  a5 := Tryz.isAgg5
  z5 := Tryz.sizeOf5
  v5 := Tryz.zeroValue5
  t9 := Tryz.underlying9
  a9 := Tryz.isAgg9
  z9 := Tryz.sizeOf9
  v9 := Tryz.zeroValue9
  t22 := Tryz.underlying22
  a22 := Tryz.isAgg22
  z22 := Tryz.sizeOf22
  v22 := Tryz.zeroValue22
  t25 := Tryz.underlying53
  a25 := Tryz.isAgg53
  z25 := Tryz.sizeOf53
  v25 := Tryz.zeroValue53
  t39 := Tryz.underlying70
  a39 := Tryz.isAgg70
  z39 := Tryz.sizeOf70
  v39 := Tryz.zeroValue70
  t45 := Tryz.underlying74
  a45 := Tryz.isAgg74
  z45 := Tryz.sizeOf74
  v45 := Tryz.zeroValue74
  t46 := Tryz.underlying75
  a46 := Tryz.isAgg75
  z46 := Tryz.sizeOf75
  v46 := Tryz.zeroValue75
  t50 := Tryz.underlying80
  a50 := Tryz.isAgg80
  z50 := Tryz.sizeOf80
  v50 := Tryz.zeroValue80
  t53 := Tryz.underlying83
  a53 := Tryz.isAgg83
  z53 := Tryz.sizeOf83
  v53 := Tryz.zeroValue83
  t55 := Tryz.underlying85
  a55 := Tryz.isAgg85
  z55 := Tryz.sizeOf85
  v55 := Tryz.zeroValue85
  t66 := Tryz.underlying92
  a66 := Tryz.isAgg92
  z66 := Tryz.sizeOf92
  v66 := Tryz.zeroValue92
  t70 := Tryz.underlying96
  a70 := Tryz.isAgg96
  z70 := Tryz.sizeOf96
  v70 := Tryz.zeroValue96
  t76 := Tryz.underlying107
  a76 := Tryz.isAgg107
  z76 := Tryz.sizeOf107
  v76 := Tryz.zeroValue107
  t77 := Tryz.underlying108
  a77 := Tryz.isAgg108
  z77 := Tryz.sizeOf108
  v77 := Tryz.zeroValue108 }
def Tryz.layC_ren : Go.Shelf.Ren := ⟨fun | 44 => 47 | n => n, fun | 25 => 29 | 26 => 9 | 3 => 3 | 4 => 4 | 0 => 0 | n => n, fun | n => n⟩
theorem Tryz.layC : Go.Proofs.SlLaysN.n44 Tryz.prog Tryz.layC_ren := {
  mixed := by kernel_rfl
  f44 := ⟨Tryz.f47.name, by decide, Tryz.func47.trans (congrArg some (by kernel_rfl))⟩
  t0 := Tryz.underlying0
  a0 := Tryz.isAgg0
  z0 := Tryz.sizeOf0
  v0 := Tryz.zeroValue0
  t3 := Tryz.underlying3
  a3 := Tryz.isAgg3
  z3 := Tryz.sizeOf3
  v3 := Tryz.zeroValue3
  t4 := Tryz.underlying4
  a4 := Tryz.isAgg4
  z4 := Tryz.sizeOf4
  v4 := Tryz.zeroValue4
  t25 := Tryz.underlying29
  a25 := Tryz.isAgg29
  z25 := Tryz.sizeOf29
  v25 := Tryz.zeroValue29
  t26 := Tryz.underlying9
  a26 := Tryz.isAgg9
  z26 := Tryz.sizeOf9
  v26 := Tryz.zeroValue9
  i26 := by kernel_rfl }
def Tryz.layD_ren : Go.Shelf.Ren := ⟨fun | 46 => 65 | n => n, fun | 25 => 29 | 26 => 9 | 3 => 3 | 4 => 4 | 0 => 0 | n => n, fun | n => n⟩
theorem Tryz.layD : Go.Proofs.SlLaysN.n46 Tryz.prog Tryz.layD_ren := {
  mixed := by kernel_rfl
  f46 := ⟨Tryz.f65.name, by decide, Tryz.func65.trans (congrArg some (by kernel_rfl))⟩
  t0 := Tryz.underlying0
  a0 := Tryz.isAgg0
  z0 := Tryz.sizeOf0
  v0 := Tryz.zeroValue0
  t3 := Tryz.underlying3
  a3 := Tryz.isAgg3
  z3 := Tryz.sizeOf3
  v3 := Tryz.zeroValue3
  t4 := Tryz.underlying4
  a4 := Tryz.isAgg4
  z4 := Tryz.sizeOf4
  v4 := Tryz.zeroValue4
  t25 := Tryz.underlying29
  a25 := Tryz.isAgg29
  z25 := Tryz.sizeOf29
  v25 := Tryz.zeroValue29
  t26 := Tryz.underlying9
  a26 := Tryz.isAgg9
  z26 := Tryz.sizeOf9
  v26 := Tryz.zeroValue9
  i26 := by kernel_rfl }
end Go.Proofs

namespace Go.Proofs.Tz
open Go.Vw Go.Sort Go.RowKit
set_option maxRecDepth 100000
set_option maxHeartbeats 4000000
set_option linter.unusedSimpArgs false

theorem strs_rep (w : World) (L : Nat → Nat → Prop) : ∀ (l : List Str), RepL w L (l.map .str) (l.map fun s => [encStr s])
  | [] => by simp [RepL]
  | s :: l => by
    simp only [List.map_cons, RepL]
    exact ⟨_, _, rfl, by simp [Rep, encStr], strs_rep w L l⟩
theorem strs_flat : ∀ (l : List Str), (l.map fun s => [encStr s]).flatten = l.map encStr
  | [] => rfl
  | s :: l => by simp [strs_flat l]
theorem strs_only {w : World} {L : Nat → Nat → Prop} : ∀ {l : List Str} {css : List (List Value)}, RepL w L (l.map .str) css → css = l.map fun s => [encStr s]
  | [], css, h => by simpa [RepL] using h
  | s :: l, css, h => by
    simp only [List.map_cons, RepL] at h
    obtain ⟨c, cs, rfl, h1, h2⟩ := h
    rw [strs_only h2]
    simp only [Rep] at h1
    subst h1
    rfl

/-- The strings in order. -/
def sortS (l : List Str) : List Str := l.mergeSort fun x y => decide (x ≤ y)

theorem holds_strs {w : World} {g : Nat} {l : List Str} (h : Holds id w g 0 (l.map encStr).toArray) : Holds encStr w g 0 l.toArray := by
  intro j hj
  have hj' : j < l.length := by simpa using hj
  have := h j (by simpa using hj')
  simpa [hj'] using this

theorem sort_fn (l : List Str) (hl : l.length < 1000000) : CtrI Tryz.prog 46 9 (l.map .str) [] ((sortS l).map .str) := by
  refine ⟨enters_of Tryz.func46 (by kernel_rfl) rfl, fun w L og v vals hlok hown hrc => ?_⟩
  simp only [RCs] at hrc
  subst hrc
  obtain ⟨css0, sz0, g1, g2, g3, g4, g5⟩ := id hown
  rcases g4.2 with ⟨hv, hn⟩ | ⟨g, cap, cur, hv, _⟩
  · have hl0 : l = [] := by simpa using hn
    subst hl0
    subst hv
    have h := AnyM.slices_Sort_string_none Tryz.layS none 0 w
    change Calls Tryz.prog 46 _ _ _ at h
    refine h.mono ?_
    rintro e w' ⟨rfl, rfl⟩
    exact ⟨L, rfl, GrownS.refl _ _, hlok, fun _ _ _ _ => Iff.rfl, by simpa [sortS] using hown⟩
  · subst hv
    obtain ⟨css, h1, h2, h3, h4, h5⟩ := hown.holds
    have hcss := strs_only h1
    subst hcss
    rw [strs_flat] at h3
    have h := AnyM.slices_Sort_string Tryz.layS g 0 cap l w (holds_strs h3) h4 (by omega)
    change Calls Tryz.prog 46 _ _ _ at h
    rw [List.length_map]
    refine h.mono ?_
    rintro e w' ⟨rfl, n, os, rfl⟩
    rw [putRow_map encStr]
    have hlen : (sortS l).length = l.length := by simp [sortS]
    have hog := (hown.blk (g := g) rfl).1
    have hs := hown.sorted hlok (strs_rep w L (sortS l)) (by simp [hlen]) (fun sz hsz c hc => by
      obtain ⟨s, _, rfl⟩ := List.mem_map.1 hc
      rw [show (Tryz.prog.info? (ety 9)).map (·.size) = some 1 from Tryz.sz_9] at hsz
      simpa using hsz) n os (F := ((sortS l).map encStr).toArray) (by rw [strs_flat])
    rw [List.length_map] at hs
    have e : (List.map encStr (sortS l)).toArray = Array.map encStr (l.mergeSort fun x y => decide (x ≤ y)).toArray := by simp [sortS]
    rw [sortedW, e] at hs
    refine ⟨L, rfl, ?_, hs.2.2, fun _ _ _ _ => Iff.rfl, hs.1⟩
    rw [hog]; exact hs.2.1

/-- Rows with named slices, as the sort sees them. -/
def encR (x : Str × Sl) : List Value := [encStr x.1, .slice x.2.1 x.2.2.1 x.2.2.2]
theorem rows_rep (w : World) (L : Nat → Nat → Prop) : ∀ (l : List (Str × Sl)), RepL w L (l.map rw2) (l.map encR)
  | [] => by simp [RepL]
  | s :: l => by
    simp only [List.map_cons, RepL]
    refine ⟨_, _, rfl, ?_, rows_rep w L l⟩
    simp only [rw2, Rep, RepL]
    exact ⟨[[encStr s.1], [.slice s.2.1 s.2.2.1 s.2.2.2]], ⟨_, _, rfl, by simp [encStr], _, _, rfl, ⟨rfl, by simp [Value.oneCell'], rfl⟩, rfl⟩, rfl⟩
theorem rows_only {w : World} {L : Nat → Nat → Prop} : ∀ {l : List (Str × Sl)} {css : List (List Value)}, RepL w L (l.map rw2) css → css = l.map encR
  | [], css, h => by simpa [RepL] using h
  | s :: l, css, h => by
    simp only [List.map_cons, RepL] at h
    obtain ⟨c, cs, rfl, h1, h2⟩ := h
    simp only [rw2, Rep, RepL] at h1
    obtain ⟨css, ⟨_, _, rfl, rfl, _, _, rfl, ⟨rfl, h3, h4⟩, rfl⟩, rfl⟩ := h1
    rw [rows_only h2]; rfl

/-- Sorted$3: by name. -/
def cmpR (x y : Str × Sl) : Int := if Op.bytesLess x.1 y.1 then -1 else 1
end Go.Proofs.Tz

namespace Go.Proofs.Tz
open Go.Vw Go.Sort Go.RowKit Go.Lib
set_option maxRecDepth 100000
set_option maxHeartbeats 4000000
set_option linter.unusedSimpArgs false

theorem ltR (x y : Str × Sl) : ltOf cmpR x y = Op.bytesLess x.1 y.1 := by
  unfold ltOf cmpR
  cases Op.bytesLess x.1 y.1 <;> simp
theorem swoR : SWO (ltOf cmpR) where
  irrefl x := by rw [ltR, bytesLess_eq]; simp
  trans x y z h1 h2 := by
    rw [ltR, bytesLess_eq] at *
    simp only [decide_eq_true_eq] at *
    exact List.lt_trans h1 h2
  ntrans x y z h1 h2 := by
    rw [ltR, bytesLess_eq] at *
    simp only [decide_eq_false_iff_not, List.not_lt] at *
    exact List.le_trans h2 h1

theorem cmp_calls (a b : ByteArray) (u v : Value) (W : World) : Calls Tryz.prog 49 #[.agg #[.string a, u], .agg #[.string b, v]] W fun e w' => e = .returned (.int .i64 (if Op.bytesLess a.toList b.toList then -1 else 1)) ∧ ∃ q os', w' = grow (W.drewN q) os' := by
  cases hb : Op.bytesLess a.toList b.toList
  · go_enter Tryz.func49, Tryz.ntmps49
    go_wp2
    go_ret
    exact ⟨rfl, 0, _, by rw [alloc_eq_grow, alloc_eq_grow, grow_grow]; rfl⟩
  · go_enter Tryz.func49, Tryz.ntmps49
    go_wp2
    go_ret
    exact ⟨rfl, 0, _, by rw [alloc_eq_grow, alloc_eq_grow, grow_grow]; rfl⟩

instance : Inhabited (Str × Sl) := ⟨([], none, 0, 0)⟩
/-- The rows by name. -/
def sortR (l : List (Str × Sl)) : List (Str × Sl) := (pdq (ltOf cmpR) l.toArray 0 l.length (Lib.bitLen l.length) true true).toList

theorem sortR_perm (l : List (Str × Sl)) : (sortR l).Perm l ∧ ∀ i j (hij : i < j) (hj : j < (sortR l).length), Op.bytesLess (sortR l)[j].1 ((sortR l)[i]'(by omega)).1 = false := by
  have h := pdq_sorts (ltOf cmpR) swoR l.toArray 0 l.length (Lib.bitLen l.length) true true (Nat.zero_le _) (by simp) (Or.inl rfl)
  obtain ⟨⟨h1, h2, h3⟩, h4⟩ := h
  have hs : (sortR l).length = l.length := by simpa [sortR] using h1
  refine ⟨?_, fun i j hij hj => ?_⟩
  · have e1 : (pdq (ltOf cmpR) l.toArray 0 l.length (Lib.bitLen l.length) true true).extract 0 l.length = pdq (ltOf cmpR) l.toArray 0 l.length (Lib.bitLen l.length) true true := by
      apply Array.extract_eq_self_of_le; rw [h1]; simp
    rw [e1] at h3
    simpa [sortR] using h3
  · have := h4 i j (Nat.zero_le _) hij (by omega)
    rw [ltR] at this
    have hj' : j < (pdq (ltOf cmpR) l.toArray 0 l.length (Lib.bitLen l.length) true true).size := by simpa [sortR] using hj
    rw [getElem!_pos _ j hj', getElem!_pos _ i (by omega)] at this
    simpa [sortR] using this

theorem flatK_eq {α : Type} [Inhabited α] (enc : α → List Value) (k : Nat) (l : List α) (hk : ∀ x, (enc x).length = k) (hp : 0 < k) : flatK enc k l.toArray = (l.map enc).flatten.toArray := by
  have hfl : (l.map enc).flatten.length = l.length * k := by rw [flatten_sized (fun c hc => by obtain ⟨x, _, rfl⟩ := List.mem_map.1 hc; exact hk x), List.length_map]
  apply Array.ext
  · simp [flatK, hfl]
  · intro t h1 h2
    have ht : t < l.length * k := by simpa [flatK] using h1
    have hq : t / k < l.length := Nat.div_lt_of_lt_mul (by rw [Nat.mul_comm]; exact ht)
    have hr : t % k < (enc l[t / k]).length := by rw [hk]; exact Nat.mod_lt _ hp
    have := flatten_get (css := l.map enc) (sz := k) (fun c hc => by obtain ⟨x, _, rfl⟩ := List.mem_map.1 hc; exact hk x) (i := t / k) (c := enc l[t / k]) (by simp [hq]) (t % k) ((enc l[t / k])[t % k]) (List.getElem?_eq_getElem hr)
    rw [show t / k * k + t % k = t by rw [Nat.mul_comm]; exact Nat.div_add_mod t k] at this
    have e2 := (List.getElem?_eq_some_iff.1 this).2
    simp only [flatK, List.size_toArray, Array.getElem_map, Array.getElem_range, List.getElem_toArray]
    rw [e2, show (l.toArray[t / k]! : α) = l[t / k] by rw [getElem!_pos l.toArray _ (by simpa using hq)]; simp]
    exact getElem!_pos (enc l[t / k]) (t % k) hr

theorem sortR_fn (l : List (Str × Sl)) (hl : l.length < 1000000) : CtrI Tryz.prog 48 42 (l.map rw2) [.d (.clo 49 [])] ((sortR l).map rw2) := by
  refine ⟨enters_of Tryz.func48 (by kernel_rfl) rfl, fun w L og v vals hlok hown hrc => ?_⟩
  simp only [RCs] at hrc
  obtain ⟨cv, us, rfl, hc1, rfl⟩ := hrc
  simp only [RC] at hc1
  obtain ⟨ccs, hcc, rfl⟩ := clo_inv hc1
  simp only [RepL] at hcc
  subst hcc
  simp only [List.flatten_nil]
  obtain ⟨css0, sz0, g1, g2, g3, g4, g5⟩ := id hown
  rcases g4.2 with ⟨hv, hn⟩ | ⟨g, cap, cur, hv, _⟩
  · have hl0 : l = [] := by simpa using hn
    subst hl0
    subst hv
    have h := AnyF.slices_SortFunc_none Tryz.layF none 0 (.func (.func 49) #[] #[]) w
    change Calls Tryz.prog 48 _ _ _ at h
    refine h.mono ?_
    rintro e w' ⟨rfl, rfl⟩
    have hnil : sortR [] = [] := List.Perm.eq_nil (sortR_perm []).1
    exact ⟨L, rfl, GrownS.refl _ _, hlok, fun _ _ _ _ => Iff.rfl, by rw [hnil]; exact hown⟩
  · subst hv
    obtain ⟨css, h1, h2, h3, h4, h5⟩ := hown.holds
    have hcss := rows_only h1
    subst hcss
    have hK : HoldsK encR 2 w g 0 l.toArray := by
      unfold HoldsK
      rw [flatK_eq encR 2 l (fun _ => rfl) (by omega)]
      exact h3
    have eg : ∀ args w, (callFunc 49 args).run Tryz.prog w = .ok (.enter 49 args) w := enters_of Tryz.func49 (by kernel_rfl) rfl
    have hcmp : CmpLays Tryz.prog 49 #[] encR 2 cmpR g 0 l.toArray.size w := fun m os dk _ x y => by
      have := cmp_calls ⟨x.1.toArray⟩ ⟨y.1.toArray⟩ (.slice x.2.1 x.2.2.1 x.2.2.2) (.slice y.2.1 y.2.2.1 y.2.2.2) (sortWorldK encR 2 w g 0 m dk os)
      simp only [Lib.toList_data] at this
      exact this
    have h := AnyQ.slices_SortFunc_eq Tryz.layF 2 Tryz.isAgg42 Tryz.sizeOf42 encR (fun _ => rfl) (fun x v hv => ?_) cmpR swoR 49 #[] g 0 cap l.toArray w eg hcmp hK h4 (by simp; omega)
    · change Calls Tryz.prog 48 _ _ _ at h
      simp only [List.size_toArray] at h
      rw [List.length_map]
      refine h.mono ?_
      rintro e w' ⟨rfl, n, os, rfl⟩
      have hp := (sortR_perm l).1
      have hlen : (sortR l).length = l.length := hp.length_eq
      have hog := (hown.blk (g := g) rfl).1
      have hs := hown.sorted hlok (rows_rep w L (sortR l)) (by simp [hlen]) (fun sz hsz c hc => by
        obtain ⟨s, _, rfl⟩ := List.mem_map.1 hc
        rw [show (Tryz.prog.info? (ety 42)).map (·.size) = some 2 from Tryz.sz_42] at hsz
        simpa [encR] using hsz) n os (F := ((sortR l).map encR).flatten.toArray) rfl
      rw [List.length_map] at hs
      have e : sortedW w g n ((sortR l).map encR).flatten.toArray os = sortWorldK encR 2 w g 0 n (pdq (ltOf cmpR) l.toArray 0 l.length (Lib.bitLen l.length) true true) os := by
        unfold sortedW sortWorldK putRowK
        rw [← flatK_eq encR 2 (sortR l) (fun _ => rfl) (by omega)]
        rfl
      rw [e] at hs
      refine ⟨L, rfl, ?_, hs.2.2, fun _ _ _ _ => Iff.rfl, hs.1⟩
      rw [hog]; exact hs.2.1
    · simp only [encR, List.mem_cons, List.not_mem_nil, or_false] at hv
      rcases hv with rfl | rfl <;> rfl
end Go.Proofs.Tz

namespace Go.Proofs.Tz
open Go.Vw Go.Sort Go.RowKit Go.Lib
set_option maxRecDepth 100000
set_option maxHeartbeats 4000000
set_option linter.unusedSimpArgs false

theorem strs_put {w : World} {L : Nat → Nat → Prop} {og : Option Nat} {g cap : Nat} {l : List Str} (hown : OwnR Tryz.prog w L og true 9 (l.map .str) (.slice (some ⟨g, 0, none⟩) l.length cap)) (hlok : ∀ b q, L b q → b < w.heap.size) (l' : List Str) (hl : l'.length = l.length) (q : Nat) :
    OwnR Tryz.prog (putRow encStr (Sort.ahead w q) g 0 l'.toArray) L og true 9 (l'.map .str) (.slice (some ⟨g, 0, none⟩) l.length cap) ∧ GrownS w (putRow encStr (Sort.ahead w q) g 0 l'.toArray) (optB (some g)) ∧ ∀ b p, L b p → b < (putRow encStr (Sort.ahead w q) g 0 l'.toArray).heap.size := by
  have hown' : OwnR Tryz.prog w L og true 9 (l.map .str) (.slice (some ⟨g, 0, none⟩) (l.map D.str).length cap) := by rw [List.length_map]; exact hown
  have hs := hown'.sorted hlok (strs_rep w L l') (by simp [hl]) (fun sz hsz c hc => by
    obtain ⟨s, _, rfl⟩ := List.mem_map.1 hc
    rw [show (Tryz.prog.info? (ety 9)).map (·.size) = some 1 from Tryz.sz_9] at hsz
    simpa using hsz) q #[] (F := (l'.map encStr).toArray) (by rw [strs_flat])
  rw [List.length_map] at hs
  have e : sortedW w g q (l'.map encStr).toArray #[] = putRow encStr (Sort.ahead w q) g 0 l'.toArray := by
    unfold sortedW
    rw [grow_empty, putRow_map encStr]
    simp
  rw [e] at hs
  exact hs

theorem strs_own {w : World} {L : Nat → Nat → Prop} {og : Option Nat} {l : List Str} {v : Value} (h : OwnR Tryz.prog w L og true 9 (l.map .str) v) :
    (v = .slice none 0 0 ∧ l = []) ∨ ∃ g cap, v = .slice (some ⟨g, 0, none⟩) l.length cap ∧ l.length ≤ cap ∧ cap ≤ maxLen ∧ Holds encStr w g 0 l.toArray ∧ g < w.heap.size ∧ og = some g := by
  obtain ⟨css0, sz0, g1, g2, g3, g4, g5⟩ := id h
  rcases g4.2 with ⟨hv, hn⟩ | ⟨g, cap, cur, hv, hh, hnc, hcm, _⟩
  · exact .inl ⟨hv, by simpa using hn⟩
  · subst hv
    obtain ⟨css, h1, h2, h3, h4, h5⟩ := h.holds
    have hcss := strs_only h1
    subst hcss
    rw [strs_flat] at h3
    exact .inr ⟨g, cap, by rw [List.length_map], by simpa using hnc, hcm, holds_strs h3, h4, (h.blk (g := g) rfl).1⟩

theorem compact_fn (l : List Str) (hl : l.length < 1000000) : Ctr Tryz.prog 47 [.own true 9 (l.map .str)] (.own true 9 ((compact l).map .str)) := by
  refine ⟨enters_of Tryz.func47 (by kernel_rfl) rfl, fun w L og vals hlok hog hrc => ?_⟩
  simp only [RCs] at hrc
  obtain ⟨v, us, rfl, hown, rfl⟩ := hrc
  simp only [RC] at hown
  rcases strs_own hown with ⟨rfl, rfl⟩ | ⟨g, cap, rfl, hcap, hcm, hH, hg, hgo⟩
  · have h := AnyG.slices_Compact_string_empty Tryz.layC none 0 w
    change Calls Tryz.prog 47 _ _ _ at h
    refine h.mono ?_
    rintro e w' ⟨rfl, rfl⟩
    exact ⟨_, L, og, rfl, GrownS.refl _ _, hlok, fun _ _ _ _ => Iff.rfl, fun g hg => ⟨(hog g hg).1, .inr hg⟩, hown⟩
  · have h := AnyG.slices_Compact_string Tryz.layC g 0 cap l w hH (by omega) hcap
    change Calls Tryz.prog 47 _ _ _ at h
    refine h.mono ?_
    rintro e w' ⟨rfl, q, rfl⟩
    have hle := compact_length_le l
    have hp := strs_put hown hlok (compact l ++ List.replicate (l.length - (compact l).length) []) (by simp; omega) q
    refine ⟨_, L, og, rfl, by rw [hgo]; exact hp.2.1, hp.2.2, fun _ _ _ _ => Iff.rfl, fun b hb => ?_, ?_⟩
    · refine ⟨Nat.lt_of_lt_of_le (hog b hb).1 hp.2.1.size, .inr hb⟩
    · simp only [RC]
      have := hp.1.cut (hi := (compact l).length) (m := cap) (by simp) (by omega) (Nat.le_refl _)
      rw [← List.map_take, List.take_left] at this
      exact this

theorem delete_fn (l : List Str) (i : Nat) (hi : i < l.length) (hl : l.length < 1000000) : Ctr Tryz.prog 65 [.own true 9 (l.map .str), .d (.int .i64 i), .d (.int .i64 ((i : Int) + 1))] (.own true 9 ((l.eraseIdx i).map .str)) := by
  refine ⟨enters_of Tryz.func65 (by kernel_rfl) rfl, fun w L og vals hlok hog hrc => ?_⟩
  simp only [RCs] at hrc
  obtain ⟨v, us, rfl, hown, a, us, rfl, ha, b, us, rfl, hb, rfl⟩ := hrc
  simp only [RC] at hown ha hb
  rw [ha.int_inv, hb.int_inv]
  rcases strs_own hown with ⟨rfl, rfl⟩ | ⟨g, cap, rfl, hcap, hcm, hH, hg, hgo⟩
  · simp at hi
  · have h := AnyG.slices_Delete_string Tryz.layD g 0 cap i (i + 1) l w hH hcap (by unfold maxLen at hcm; omega) (by omega) (by omega)
    change Calls Tryz.prog 65 _ _ _ at h
    refine h.mono ?_
    rintro e w' ⟨rfl, q, rfl⟩
    have hp := strs_put hown hlok (l.take i ++ l.drop (i + 1) ++ List.replicate (i + 1 - i) []) (by simp; omega) q
    refine ⟨_, L, og, rfl, by rw [hgo]; exact hp.2.1, hp.2.2, fun _ _ _ _ => Iff.rfl, fun b hb => ?_, ?_⟩
    · refine ⟨Nat.lt_of_lt_of_le (hog b hb).1 hp.2.1.size, .inr hb⟩
    · simp only [RC]
      have := hp.1.cut (hi := l.length - (i + 1 - i)) (m := cap) (by simp; omega) (by omega) (Nat.le_refl _)
      rw [← List.map_take, show List.take (l.length - (i + 1 - i)) (l.take i ++ l.drop (i + 1) ++ List.replicate (i + 1 - i) []) = l.eraseIdx i by
        rw [List.take_left' (by simp; omega), List.eraseIdx_eq_take_drop_succ]] at this
      exact this
end Go.Proofs.Tz

namespace Go.Proofs.Tz
open Go.Vw
set_option maxRecDepth 100000
set_option maxHeartbeats 4000000
set_option linter.unusedSimpArgs false

theorem lowc_not {c : UInt8} (h : ¬ (65 ≤ (c.toNat : Int) ∧ (c.toNat : Int) ≤ 90)) : lowc c = c := if_neg h

def halfL (s : Str) (k : Nat) : List D := ((lower (s.take k)) ++ s.drop k).map u8
theorem halfL_len (s : Str) (k : Nat) (h : k ≤ List.length s) : (halfL s k).length = List.length s := by simp [halfL, lower]; omega
theorem halfL_get (s : Str) (k : Nat) (h : k < List.length s) : (halfL s k)[k]? = some (u8 s[k]) := by
  have hl : (lower (s.take k)).length = k := by simp [lower]; omega
  simp only [halfL, List.getElem?_map]
  rw [List.getElem?_append_right (by omega), hl, Nat.sub_self]
  simp [h]
theorem halfL_set (s : Str) (k : Nat) (h : k < List.length s) : (halfL s k).set k (u8 (lowc s[k])) = halfL s (k + 1) := by
  have hl : (lower (s.take k)).length = k := by simp [lower]; omega
  simp only [halfL, ← List.map_set]
  rw [List.set_append_right _ _ (by omega), hl, Nat.sub_self, List.drop_eq_getElem_cons h, List.set_cons_zero, take_s h]
  simp only [lower, List.map_append, List.map_cons, List.map_nil, List.append_assoc, List.singleton_append]

theorem foldLower_fn (s : Str) (hs : List.length s < 1000000) : Ctr Tryz.prog 37 [.d (.str s)] (.d (.str (lower s))) := by
  refine fn_of_vwp (fun i => decide (i < 1000000)) (by kernel_rfl) Tryz.func37 (by kernel_rfl) rfl rfl (Nat.le_of_ble_eq_true rfl) (by kernel_rfl) rfl rfl ?_
  simp -implicitDefEqProofs
  refine ⟨by omega, ?_⟩
  refine loopN (List.length s) (fun k τ => τ 9 = .d (.int .i64 k) ∧ τ 8 = .d (.int .i64 (List.length s)) ∧ τ 3 = .own true 100005 (halfL s k)) (by simp [halfL, lower, bytesD, u8]) ?_
  rintro k τ hk ⟨h9, h8, h3⟩
  have hlen := halfL_len s k hk
  by_cases hlt : k < List.length s
  · have hg := halfL_get s k hlt
    have hset := halfL_set s k hlt
    generalize halfL s k = M at *
    have hlt2 : k < M.length := by omega
    have hg2 : M[k] = u8 s[k] := (List.getElem?_eq_some_iff.1 hg).2
    simp -implicitDefEqProofs [h9, h8, h3, hlt, hlt2, hg2, u8]
    refine callK (upper_fn _) ?_
    by_cases h1 : 65 ≤ (s[k].toNat : Int) ∧ (s[k].toNat : Int) ≤ 90
    · simp -implicitDefEqProofs [h9, h8, h3, hlt, hlt2, hg2, u8, h1.1, h1.2]
      have e : u8 (lowc s[k]) = .int .u8 ((s[k].toNat : Int) + 32) := by
        simp only [u8, lowc_toNat _ h1.1 h1.2]; congr 1; omega
      rw [e] at hset
      exact ⟨by omega, by omega, again hlt ⟨by simp, by simp [h8], by simp [hset]⟩⟩
    · have hb : (decide (65 ≤ (s[k].toNat : Int)) && decide ((s[k].toNat : Int) ≤ 90)) = false := by simpa using h1
      simp -implicitDefEqProofs [h9, h8, h3, hlt, hlt2, hg2, u8, hb]
      rw [lowc_not h1, ← hg2, List.set_getElem_self] at hset
      exact ⟨by omega, again hlt ⟨by simp, by simp [h8], by simp [h3, hset]⟩⟩
  · simp -implicitDefEqProofs [h9, h8, h3, hlt]
    have e : halfL s k = bytesD (lower s) := by
      have : k = List.length s := by omega
      subst this
      simp [halfL, bytesD, u8]
    simp -implicitDefEqProofs [e, h3]
end Go.Proofs.Tz

namespace Go.Proofs.Tz
open Go.Vw
set_option maxRecDepth 100000
set_option maxHeartbeats 8000000
set_option linter.unusedSimpArgs false

theorem sortedQ_fn (x : Str × Sl) (n : Str) : Ctr Tryz.prog 43 [.d (rw2 x), .d (.ref (.str n))] (.d (.bool (decide (x.1 = n)))) := by
  refine fn_of_vwp (fun _ => false) (by kernel_rfl) Tryz.func43 (by kernel_rfl) rfl rfl (Nat.le_of_ble_eq_true rfl) (by kernel_rfl) rfl rfl ?_
  simp -implicitDefEqProofs [rw2]
theorem emptyQ_fn (x : Str × Sl) : Ctr Tryz.prog 45 [.d (rw2 x)] (.d (.bool (decide (x.2.2.1 = 0)))) := by
  refine fn_of_vwp (fun _ => false) (by kernel_rfl) Tryz.func45 (by kernel_rfl) rfl rfl (Nat.le_of_ble_eq_true rfl) (by kernel_rfl) rfl rfl ?_
  simp -implicitDefEqProofs [rw2]

/-- A row: its name, the head of its slice, what the slice holds. -/
abbrev Row := Str × Sl × List Str
def pr (r : Row) : Str × Sl := (r.1, r.2.1)
def nv (r : Row) : Att := (r.1, r.2.2)
def hd (r : Row) : Value := .slice r.2.1.1 r.2.1.2.1 r.2.1.2.2
def rowD (r : Row) : D := rw2 (pr r)
def hnd (r : Row) : AV := .hs (hd r) 9 (r.2.2.map .str)

theorem idxR_map {α β : Type} (f : α → β) (p : β → Bool) : ∀ (l : List α) (k : Nat), idxR p k (l.map f) = idxR (fun x => p (f x)) k l
  | [], _ => rfl
  | x :: l, k => by simp only [List.map_cons, idxR, idxR_map f p l (k + 1)]

/-- One attribute more, in the program's grouping. -/
def addG (acc : List Att) (a : Att) : List Att :=
  if idxR (fun x : Att => decide (x.1 = lower a.1)) 0 acc = -1 then acc ++ [(lower a.1, a.2)] else acc.modify (idxR (fun x : Att => decide (x.1 = lower a.1)) 0 acc).toNat fun x => (x.1, x.2 ++ a.2)
def grp (l : List Att) : List Att := l.foldl addG []
theorem grp_take {l : List Att} {k : Nat} (h : k < l.length) : grp (l.take (k + 1)) = addG (grp (l.take k)) l[k] := by
  rw [take_s h]; simp only [grp, List.foldl_append, List.foldl_cons, List.foldl_nil]

theorem grp_len (l : List Att) : (grp l).length ≤ l.length := by
  have key : ∀ (l acc : List Att), (l.foldl addG acc).length ≤ acc.length + l.length := by
    intro l
    induction l with
    | nil => intro acc; simp
    | cons a l ih =>
      intro acc
      have := ih (addG acc a)
      have h2 : (addG acc a).length ≤ acc.length + 1 := by
        unfold addG; split <;> simp
      simp only [List.foldl_cons, List.length_cons]; omega
  simpa [grp] using key l []
theorem total_app (a b : List Att) : total (a ++ b) = total a + total b := by simp [total]
theorem total_modify (f : Att → Att) (n : Nat) : ∀ (acc : List Att) (i : Nat), (∀ x, (f x).2.length = x.2.length + n) → i < acc.length → total (acc.modify i f) = total acc + n
  | [], i, _, h => by simp at h
  | x :: acc, 0, hf, _ => by simp [total, List.modify_cons, hf]; omega
  | x :: acc, i + 1, hf, h => by
    have := total_modify f n acc i hf (by simpa using h)
    simp only [total, List.modify_succ_cons, List.map_cons, List.sum_cons] at this ⊢
    omega
theorem total_addG (acc : List Att) (a : Att) : total (addG acc a) = total acc + a.2.length := by
  unfold addG
  split
  · rw [total_app]; simp [total]
  · rename_i h
    obtain ⟨i, h1, h2, _⟩ := idxR_pos _ acc 0 h
    rw [h1]
    exact total_modify _ _ _ _ (fun x => by simp) (by simpa using h2)
theorem total_grp (l : List Att) : total (grp l) = total l := by
  have key : ∀ (l acc : List Att), total (l.foldl addG acc) = total acc + total l := by
    intro l
    induction l with
    | nil => intro acc; simp [total]
    | cons a l ih =>
      intro acc
      rw [List.foldl_cons, ih, total_addG]
      simp only [total, List.map_cons, List.sum_cons]; omega
  have := key l []
  simpa [grp, total] using this
theorem total_mem {l : List Att} {x : Att} (h : x ∈ l) : x.2.length ≤ total l := by
  induction l with
  | nil => simp at h
  | cons y l ih =>
    simp only [total, List.map_cons, List.sum_cons] at ih ⊢
    rcases List.mem_cons.1 h with rfl | h
    · omega
    · have := ih h; omega

theorem modify_set {α : Type} (f : α → α) : ∀ (l : List α) (i : Nat) (x : α), l[i]? = some x → l.modify i f = l.set i (f x)
  | [], i, x, h => by simp at h
  | y :: l, 0, x, h => by
    simp only [List.getElem?_cons_zero, Option.some.injEq] at h
    subst h; rfl
  | y :: l, i + 1, x, h => by
    simp only [List.getElem?_cons_succ] at h
    simp [List.modify_succ_cons, modify_set f l i x h]

theorem hh_ne (i d : Nat) (h : d < 1000000) : (1000000 + i = d) = False := by simp; omega

theorem hh_ne' (i d : Nat) (h : d < 1000000) : (d = 1000000 + i) = False := by simp; omega

theorem sd42 : structDX Tryz.prog true 42 = some [.str [], .raw (.slice none 0 0)] := by kernel_rfl

def okLen (rs : List Row) : Prop := ∀ r ∈ rs, r.2.1.2.1 = r.2.2.length

def slotsG : Nat → Bool := fun i => i == 3 || i == 44 || i == 1000027 || i == 2000020 || i == 3000055 || i == 4000063 || i == 3000068

/-- Rows with the numbers of their names. -/
abbrev QRow := Row × Nat
def q1 (q : QRow) : D := rowD q.1
def Named (qs : List QRow) (τ : St) : Prop := (qs.map (·.2)).Nodup ∧ ∀ q ∈ qs, τ (1000000 + q.2) = hnd q.1
def normA (a : Att) : Att := (a.1, Go.Lib.compact (sortS a.2))
def nonE (a : Att) : Bool := !decide (a.2 = [])

def ByName (m : List (Str × Sl)) : Prop := ∀ i j (_ : i < j) (hj : j < m.length), Op.bytesLess m[j].1 (m[i]'(by omega)).1 = false

theorem perm_lift {α β : Type} (f : α → β) {m m' : List β} (h : m.Perm m') : ∀ l : List α, l.map f = m' → ∃ l' : List α, l'.Perm l ∧ l'.map f = m := by
  induction h with
  | nil => intro l hl; exact ⟨l, .refl _, hl⟩
  | cons x p ih =>
    intro l hl
    cases l with
    | nil => simp at hl
    | cons a t =>
      simp only [List.map_cons, List.cons.injEq] at hl
      obtain ⟨t', h1, h2⟩ := ih t hl.2
      exact ⟨a :: t', h1.cons a, by simp [hl.1, h2]⟩
  | swap x y l0 =>
    intro l hl
    match l, hl with
    | a :: b :: t, hl =>
      simp only [List.map_cons, List.cons.injEq] at hl
      exact ⟨b :: a :: t, .swap _ _ _, by simp [hl.1, hl.2.1, hl.2.2]⟩
  | trans h1 h2 ih1 ih2 =>
    intro l hl
    obtain ⟨l2, p2, e2⟩ := ih2 l hl
    obtain ⟨l1, p1, e1⟩ := ih1 l2 e2
    exact ⟨l1, p1.trans p2, e1⟩

theorem zip_mem {rs : List Row} {q : QRow} (h : q ∈ rs.zipIdx) : ∃ hi : q.2 < rs.length, rs[q.2] = q.1 := by
  obtain ⟨r, i⟩ := q
  have := List.mem_zipIdx_iff_getElem?.1 h
  exact ⟨(List.getElem?_eq_some_iff.1 this).1, (List.getElem?_eq_some_iff.1 this).2⟩

theorem sortedG_fn (l : List Att) (hl : Fit2 l) : CtrG Tryz.prog 15 [.d (atts l)] [] (fun r hs => ∃ rs : List Row, r = .own true 42 (rs.map rowD) ∧ hs = rs.map hnd ∧ (rs.map nv).Perm (((grp l).filter nonE).map normA) ∧ ∀ i j (_ : i < j) (hj : j < rs.length), Op.bytesLess rs[j].1 (rs[i]'(by omega)).1 = false) := by
  refine fn_of_vwpG slotsG (by kernel_rfl) Tryz.func15 (by kernel_rfl) rfl rfl (Nat.le_of_ble_eq_true rfl) (by kernel_rfl) rfl ?_
  obtain ⟨⟨hl1, hl2⟩, hl3⟩ := hl
  simp -implicitDefEqProofs [slotsG, initG, atts]
  refine loopN l.length (fun k τ => τ 9 = .d (.sl (l.map att)) ∧ τ 10 = .d (.int .i64 l.length) ∧ τ 11 = .d (.int .i64 k) ∧ ∃ rs : List Row, τ 3 = .own true 42 (rs.map rowD) ∧ (∀ i (h : i < rs.length), τ (1000000 + i) = hnd rs[i]) ∧ (∀ i, rs.length ≤ i → τ (1000000 + i) = .undef) ∧ rs.map nv = grp (l.take k) ∧ okLen rs) ?_ ?_
  · refine ⟨by simp, by simp, by simp, [], by simp, by simp, fun i _ => ?_, by simp [grp], by simp [okLen]⟩
    simp [initG, hh_ne]
  rintro k τ hk ⟨h9, h10, h11, rs, h3, hH, hU, hg, hlen⟩
  by_cases hlt : k < l.length
  · simp -implicitDefEqProofs [slotsG, h9, h10, h11, h3, hlt, att, strs]
    refine callK (foldLower_fn _ (hl2 _ (List.getElem_mem hlt)).1) ?_
    simp -implicitDefEqProofs [slotsG, h9, h10, h11, h3, hlt, att, strs]
    have hrk : rs.length ≤ k := by
      have := grp_len (l.take k)
      rw [← hg] at this
      simpa [Nat.min_eq_left (Nat.le_of_lt hlt)] using this
    have htot := total_take l k hlt
    rw [← total_grp (l.take k), ← hg] at htot
    have hmr : rs.map rowD = (rs.map pr).map rw2 := by simp [rowD]
    rw [hmr]
    refine lendK (indexR_fn 43 [.ref (.str (lower l[k].1))] rfl (fun x => decide (x.1 = lower l[k].1)) (rs.map pr) (by simp; omega) (fun a _ => sortedQ_fn a _)) rfl ?_
    rw [← hmr]
    have hidx : idxR (fun x : Str × Sl => decide (x.1 = lower l[k].1)) 0 (rs.map pr) = idxR (fun x : Att => decide (x.1 = lower l[k].1)) 0 (grp (l.take k)) := by
      rw [← hg, idxR_map, idxR_map]; rfl
    rw [hidx]
    have hnew := grp_take (l := l) hlt
    by_cases hn : idxR (fun x : Att => decide (x.1 = lower l[k].1)) 0 (grp (l.take k)) = -1
    · simp -implicitDefEqProofs [slotsG, h9, h10, h11, h3, hlt, att, strs, hn, sd42]
      refine ⟨by omega, by omega, appK0 (1000000 + rs.length) (by simp [hh_ne, hU]) (by simp) (by simp; omega) (by simp; omega) (fun A c => ?_)⟩
      simp -implicitDefEqProofs [slotsG, h9, h10, h11, h3, hlt, att, strs, hn, sd42, hh_ne, hh_ne']
      refine ⟨by omega, again hlt ⟨by simp [h9, hh_ne, hh_ne'], by simp [h10, hh_ne, hh_ne'], by simp [hh_ne, hh_ne'], rs ++ [(lower l[k].1, (A, l[k].2.length, c), l[k].2)], ?_, fun i hi => ?_, fun i hi => ?_, ?_, ?_⟩⟩
      · simp [hh_ne, hh_ne', rowD, rw2, pr, List.set_append]
      · simp only [List.length_append, List.length_cons, List.length_nil] at hi
        by_cases hi2 : i < rs.length
        · have hne : ¬ (i = rs.length) := by omega
          simp [hh_ne, hh_ne', hH i hi2, hnd, hne, List.getElem_append_left hi2]
        · have hie : i = rs.length := by omega
          subst hie
          simp [hh_ne, hh_ne', hnd, hd]
      · simp only [List.length_append, List.length_cons, List.length_nil] at hi
        have hne : ¬ (i = rs.length) := by omega
        simp [hh_ne, hh_ne', hU i (by omega), hne]
      · rw [hnew, addG, if_pos hn, List.map_append, hg]; rfl
      · intro r hr
        rcases List.mem_append.1 hr with hr | hr
        · exact hlen r hr
        · rw [List.mem_singleton.1 hr]
    · obtain ⟨i, hi1, hi2, hi3, hi4⟩ := idxR_pos (fun x : Att => decide (x.1 = lower l[k].1)) (grp (l.take k)) 0 hn
      simp only [Nat.zero_add] at hi1
      have hir : i < rs.length := by rw [← hg] at hi2; simpa using hi2
      have hi0 : ¬ (i : Int) < 0 := by omega
      have hvl : rs[i].2.2.length + l[k].2.length ≤ 1000000 := by
        have := total_mem (l := rs.map nv) (x := nv rs[i]) (List.mem_map.2 ⟨_, List.getElem_mem hir, rfl⟩)
        simp only [nv] at this
        omega
      rw [hi1]
      simp -implicitDefEqProofs [slotsG, h9, h10, h11, h3, hlt, att, strs, hi0, hir, rowD, rw2, pr]
      refine appK (1000000 + i) (by simp [hh_ne, hH i hir, hnd, hd]; rfl) (by simp) (by simp; omega) (by simp; omega) (fun A c => ?_)
      simp -implicitDefEqProofs [slotsG, h9, h10, h11, h3, hlt, att, strs, hi0, hir, rowD, rw2, pr, hh_ne, hh_ne']
      have hset : (rs.set i (rs[i].1, (A, rs[i].2.2.length + l[k].2.length, c), rs[i].2.2 ++ l[k].2)).length = rs.length := by simp
      refine ⟨by omega, again hlt ⟨by simp [h9, hh_ne, hh_ne'], by simp [h10, hh_ne, hh_ne'], by simp [hh_ne, hh_ne'], rs.set i (rs[i].1, (A, rs[i].2.2.length + l[k].2.length, c), rs[i].2.2 ++ l[k].2), ?_, fun j hj => ?_, fun j hj => ?_, ?_, ?_⟩⟩
      · simp [hh_ne, hh_ne', rowD, rw2, pr, List.map_set]
      · rw [hset] at hj
        by_cases hji : j = i
        · subst hji
          simp [hh_ne, hh_ne', hnd, hd]
        · have hij : ¬ i = j := fun e => hji e.symm
          simp [hh_ne, hh_ne', hH j hj, hnd, hji, hij, List.getElem_set_ne]
      · rw [hset] at hj
        have hji : ¬ j = i := by omega
        simp [hh_ne, hh_ne', hU j hj, hji]
      · rw [hnew, addG, if_neg hn, hi1, List.map_set, ← hg]
        rw [Int.toNat_natCast]
        exact (modify_set (fun x : Att => (x.1, x.2 ++ l[k].2)) _ _ (nv rs[i]) (by rw [List.getElem?_map, List.getElem?_eq_getElem hir]; rfl)).symm
      · intro r hr
        rcases List.mem_or_eq_of_mem_set hr with hr | hr
        · exact hlen r hr
        · rw [hr]; simp
  · have hkl : k = l.length := by omega
    rw [hkl, List.take_length] at hg
    have hrk : rs.length ≤ l.length := by
      have := grp_len l
      rw [← hg] at this
      simpa using this
    have hmr : rs.map rowD = (rs.map pr).map rw2 := by simp [rowD]
    rw [hmr] at h3
    have hf := deleteR_fn 45 [] rfl (fun x => decide (x.2.2.1 = 0)) (rs.map pr) (by simp; omega) (fun a _ => emptyQ_fn a)
    simp -implicitDefEqProofs [slotsG, h9, h10, h11, h3, hlt, att, strs]
    simp only [rw2, List.map_map] at hf
    refine callK hf ?_
    obtain ⟨q0, hq0⟩ : ∃ q0 : List QRow, q0 = rs.zipIdx.filter fun q => !decide (q.1.2.1.2.1 = 0) := ⟨_, rfl⟩
    have e1 : ((rs.map pr).filter fun x => !decide (x.2.2.1 = 0)).map rw2 = q0.map q1 := by
      rw [hq0]
      have : rs = rs.zipIdx.map (·.1) := by simp
      conv => lhs; rw [this]
      rw [List.map_map, List.filter_map, List.map_map]
      rfl
    have e2 : q0.map (fun q => nv q.1) = (grp l).filter nonE := by
      rw [← hg, hq0]
      have : rs = rs.zipIdx.map (·.1) := by simp
      conv => rhs; rw [this]
      rw [List.map_map, List.filter_map]
      congr 1
      refine List.filter_congr (fun q hq => ?_)
      obtain ⟨hi, hr⟩ := zip_mem hq
      have := hlen q.1 (hr ▸ List.getElem_mem hi)
      simp [nonE, nv, this, List.length_eq_zero_iff]
      exact decide_eq_decide.2 Iff.rfl
    have e3 : (q0.map (·.2)).Nodup := by
      rw [hq0]
      have h1 : (rs.zipIdx.map (·.2)).Nodup := by rw [List.zipIdx_map_snd]; exact List.nodup_range'
      exact h1.sublist (List.filter_sublist.map _)
    have e4 : ∀ q ∈ q0, τ (1000000 + q.2) = hnd q.1 := by
      intro q hq
      rw [hq0] at hq
      obtain ⟨hi, hr⟩ := zip_mem (List.mem_filter.1 hq).1
      rw [hH _ hi, hr]
    have e5 : q0.length ≤ rs.length := by rw [hq0]; exact Nat.le_trans (List.length_filter_le _ _) (by simp)
    rw [e1]
    simp -implicitDefEqProofs [slotsG, h9, h10, h11, h3, hlt, att, strs]
    have e6 : ∀ a ∈ q0.map (fun q => nv q.1), a.2.length < 500000 := by
      intro a ha
      rw [e2] at ha
      have := total_mem (List.mem_filter.1 ha).1
      rw [total_grp] at this
      omega
    generalize hn0 : q0.map (fun q => nv q.1) = n0 at *
    have hn0l : n0.length = q0.length := by rw [← hn0]; simp
    refine loopN q0.length (fun k τ => τ 46 = .d (.int .i64 q0.length) ∧ τ 47 = .d (.int .i64 k) ∧ ∃ qs : List QRow, τ 3 = .own true 42 (qs.map q1) ∧ Named qs τ ∧ qs.map (fun q => nv q.1) = (n0.take k).map normA ++ n0.drop k) ?_ ?_
    · refine ⟨by simp, by simp, q0, by simp, ⟨e3, fun q hq => ?_⟩, by simp [hn0]⟩
      simp [hh_ne, hh_ne', e4 q hq, hnd]
    clear h9 h10 h11 h3 hH hU hk hlt hf e4 τ hkl
    rintro j τ hj ⟨h46, h47, qs, h3, ⟨hnd1, hnd2⟩, hqs⟩
    have hql : qs.length = q0.length := by
      have := congrArg List.length hqs
      simp at this
      omega
    by_cases hlt : j < q0.length
    · have hjq : j < qs.length := by omega
      have hjn : j < n0.length := by omega
      have hvj : nv qs[j].1 = n0[j] := by
        have h1 : (qs.map (fun q => nv q.1))[j]? = some (nv qs[j].1) := by simp [hjq]
        rw [hqs, List.getElem?_append_right (by simp; omega)] at h1
        simp [Nat.min_eq_left (Nat.le_of_lt hjn), hjn] at h1
        exact h1.symm
      have hvl : qs[j].1.2.2.length < 500000 := by
        have := e6 n0[j] (List.getElem_mem hjn)
        rw [← hvj] at this
        exact this
      have hnm := hnd2 qs[j] (List.getElem_mem hjq)
      simp -implicitDefEqProofs [slotsG, h46, h47, h3, hlt, hjq, q1, rowD, rw2, pr]
      refine inKr (1000000 + qs[j].2) (e := 9) (l := qs[j].1.2.2.map .str) (by simp [hh_ne, hh_ne', hnm, hnd, hd]) (sort_fn qs[j].1.2.2 (by omega)) ?_
      simp -implicitDefEqProofs [slotsG, h46, h47, h3, hlt, hjq, q1, rowD, rw2, pr, hh_ne, hh_ne']
      have hsl : (sortS qs[j].1.2.2).length = qs[j].1.2.2.length := by simp [sortS]
      refine nameK (1000000 + qs[j].2) (e := 9) (l := (sortS qs[j].1.2.2).map .str) (by simp [hh_ne, hh_ne']) (compact_fn (sortS qs[j].1.2.2) (by omega)) (fun A c => ?_)
      simp -implicitDefEqProofs [slotsG, h46, h47, h3, hlt, hjq, q1, rowD, rw2, pr, hh_ne, hh_ne']
      refine ⟨by omega, again hlt ⟨by simp [h46, hh_ne, hh_ne'], by simp [hh_ne, hh_ne'], qs.set j ((qs[j].1.1, (A, (Go.Lib.compact (sortS qs[j].1.2.2)).length, c), Go.Lib.compact (sortS qs[j].1.2.2)), qs[j].2), ?_, ⟨?_, fun q hq => ?_⟩, ?_⟩⟩
      · simp [hh_ne, hh_ne', q1, rowD, rw2, pr, List.map_set]
      · rw [List.map_set]
        have := List.set_getElem_self (i := j) (show j < (qs.map (·.2)).length by simpa using hjq)
        rw [List.getElem_map] at this
        rw [this]; exact hnd1
      · obtain ⟨i, hi, rfl⟩ := List.mem_iff_getElem.1 hq
        have hi' : i < qs.length := by simpa using hi
        by_cases hij : j = i
        · subst hij
          simp [hh_ne, hh_ne', hnd, hd]
        · rw [List.getElem_set_ne hij]
          have hne : ¬ qs[i].2 = qs[j].2 := fun e => by
            have h1 := List.pairwise_iff_getElem.1 hnd1
            rcases Nat.lt_or_gt_of_ne hij with h2 | h2
            · exact h1 j i (by simpa using hjq) (by simpa using hi') h2 (by simpa using e.symm)
            · exact h1 i j (by simpa using hi') (by simpa using hjq) h2 (by simpa using e)
          simp [hh_ne, hh_ne', hnd2 qs[i] (List.getElem_mem hi'), hne, hnd]
      · have hnn : nv ((qs[j].1.1, (A, (Go.Lib.compact (sortS qs[j].1.2.2)).length, c), Go.Lib.compact (sortS qs[j].1.2.2)) : Row) = normA n0[j] := by
          rw [← hvj]; rfl
        have hl1 : ((n0.take j).map normA).length = j := by simp; omega
        rw [List.map_set, hqs, List.set_append_right _ _ (by omega), hl1, Nat.sub_self, List.drop_eq_getElem_cons hjn, List.set_cons_zero, hnn, ← List.map_take, take_s hjn]
        simp only [List.map_append, List.map_cons, List.map_nil, List.append_assoc, List.singleton_append]
    · simp -implicitDefEqProofs [slotsG, h46, h47, h3, hlt]
      have hjl : j = n0.length := by omega
      subst hjl
      rw [List.take_length, List.drop_length, List.append_nil] at hqs
      have hmq : qs.map q1 = (qs.map fun q => pr q.1).map rw2 := by rw [List.map_map]; rfl
      rw [hmq]
      refine inKb (sortR_fn (qs.map fun q => pr q.1) (by simp; omega)) ?_
      obtain ⟨p1, p2⟩ := sortR_perm (qs.map fun q => pr q.1)
      replace p2 : ByName (sortR (qs.map fun q => pr q.1)) := p2
      generalize sortR (qs.map fun q => pr q.1) = ms at p1 p2 ⊢
      obtain ⟨qs', p3, rfl⟩ := perm_lift (fun q : QRow => pr q.1) p1 qs rfl
      have hlen' : qs'.length = qs.length := p3.length_eq
      have hT : ∀ (qs : List QRow) (τ' : St), (∀ q ∈ qs, τ' (1000000 + q.2) = hnd q.1) → (qs.map fun q => 1000000 + q.2).map τ' = (qs.map (·.1)).map hnd := by
        intro qs τ' h
        rw [List.map_map, List.map_map]
        exact List.map_congr_left h
      have hrow : (qs'.map fun q => pr q.1).map rw2 = qs'.map q1 := by rw [List.map_map]; rfl
      simp -implicitDefEqProofs [slotsG, h46, h47, h3, hlt]
      have hK : ∀ q ∈ qs', τ (1000000 + q.2) = hnd q.1 := fun q hq => hnd2 q (p3.mem_iff.1 hq)
      refine ⟨.own true 42 (qs'.map q1), qs'.map (fun q => 1000000 + q.2), ?_, fun k hk => ?_, ?_, qs'.map (·.1), ?_, ?_, ?_, ?_⟩
      · have h1 : (qs'.map (·.2)).Nodup := (p3.map _).nodup_iff.2 hnd1
        have h2 := List.Pairwise.map (R := fun a b : Nat => a ≠ b) (S := fun a b : Nat => a ≠ b) (fun x => 1000000 + x) (fun a b h => by omega) h1
        rw [List.map_map] at h2
        exact h2
      · obtain ⟨q, hq, rfl⟩ := List.mem_map.1 hk
        simp [hh_ne, hh_ne', hK q hq, hnd, isH]
      · simp [ResG, q1, rowD]
      · simp [q1]
      · rw [List.map_map, List.map_map]
        refine List.map_congr_left fun q hq => ?_
        simp [hh_ne, hh_ne', hK q hq, hnd]
      · rw [List.map_map]
        have h1 := p3.map (fun q : QRow => nv q.1)
        rw [hqs, e2] at h1
        exact h1
      · intro i j hij hj
        have := p2 i j hij (by simpa using hj)
        simpa [pr] using this
end Go.Proofs.Tz
