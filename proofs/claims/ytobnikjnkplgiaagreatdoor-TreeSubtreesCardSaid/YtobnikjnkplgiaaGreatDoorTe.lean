/-
  What the functions that the statements about layer 10 (tree) reach compute, part 5 of 5: contracts and plain laws, for lists and strings of bounded size (each theorem states its bound).
-/
import Derived.Test.YtobnikjnkplgiaaGreatDoorTd
import Derived.Test.YtobnikjnkplgiaaGreatDoorTb

set_option linter.unusedSimpArgs false
set_option linter.unusedVariables false

/- The statement TreeNil. -/
set_option maxRecDepth 100000
set_option maxHeartbeats 8000000
set_option linter.unusedSimpArgs false
set_option linter.unusedVariables false
namespace Go.Proofs.Tz
open Go.Vw Go.RowKit Go.Proofs Go.Sort

theorem Ctr.giv {P : Program} {f : FuncId} {args : List AV} {r : AV} (h : Ctr P f args r) : CtrG P f args [] (fun r' hs' => r' = r ∧ hs' = []) := by
  refine ⟨h.1, fun w L vals hl hg hr _ _ => (h.2 w L none vals hl hg (by simp) hr).mono ?_⟩
  rintro x w' ⟨v, L', og', rfl, h1, h2, h3, h4, h5⟩
  refine ⟨v, L', og', r, [], rfl, h1.sub (fun b hb => by simp [optB] at hb), h2, fun b q hb _ => h3 b q hb (by simp [optB]), fun g hg => ?_, ⟨by simp, trivial⟩, h5, by simp, rfl, rfl⟩
  simp only [List.map_nil, List.mem_cons, List.not_mem_nil, or_false] at hg
  have := h4 g hg.symm
  refine ⟨this.1, .inl ?_⟩
  rcases this.2 with h | h
  · exact h
  · simp at h
def one3 (c : Int) : Int := if 0 ≤ c ∧ c ≤ 3 then 1 else 0
theorem do0_fn (x : TOp) : Ctr Tryz.prog 13 [.d .nilp, .d (topD x)] (.tup [.d .nilp, .d (.int .i64 (one3 x.1))]) := by
  obtain ⟨c, n, to, a⟩ := x
  refine fn_of_vwpN (rv := .tmp 4) (rs := [.tmp 5]) (r := .d .nilp) (ys := [.d (.int .i64 (one3 c))]) (fun i => false) (by kernel_rfl) Tryz.func13 (by kernel_rfl) rfl rfl (by simp) (Nat.le_of_ble_eq_true rfl) (by kernel_rfl) rfl rfl ?_
  by_cases h0 : c = 0
  · have c1 := add0_fn (n, a)
    subst h0
    simp only [ent_str, atts] at c1
    simp -implicitDefEqProofs [topD, atts]
    refine callK c1 ?_
    simp -implicitDefEqProofs [one3]
  by_cases h1 : c = 1
  · have c1 := put0_fn (n, a)
    subst h1
    simp only [ent_str, atts] at c1
    simp -implicitDefEqProofs [topD, atts]
    refine callK c1 ?_
    simp -implicitDefEqProofs [one3]
  by_cases h2 : c = 2
  · have c1 := delete0_fn n
    subst h2
    simp -implicitDefEqProofs [topD, atts]
    refine callK c1 ?_
    simp -implicitDefEqProofs [one3]
  by_cases h3 : c = 3
  · have c1 := move0_fn n to
    subst h3
    simp -implicitDefEqProofs [topD, atts]
    refine callK c1 ?_
    simp -implicitDefEqProofs [one3]
  have hc : one3 c = 0 := if_neg (by omega)
  simp -implicitDefEqProofs [topD, atts, h0, h1, h2, h3]
  refine callK clone0_fn ?_
  simp -implicitDefEqProofs [hc]
def Z13 (p : Nat) (c : Int) (r : AV) (hs' : List AV) : Prop := ∃ v : D, (v = .nilp ∨ v = .raw (va p)) ∧ r = .tup [.d v, .d (.int .i64 (one3 c))] ∧ hs' = zr p
theorem do01_fn (p : Nat) (x : TOp) : CtrG Tryz.prog 13 [.d (.raw (va p)), .d (topD x)] (zr p) (Z13 p x.1) := by
  obtain ⟨c, n, to, a⟩ := x
  refine fn_of_vwpGN (rs := [.tmp 4, .tmp 5]) (fun i => i == 5000019 || i == 5000025 || i == 5000032 || i == 5000041 || i == 5000043) (by kernel_rfl) Tryz.func13 (by kernel_rfl) rfl rfl (by simp) (Nat.le_of_ble_eq_true rfl) (by kernel_rfl) rfl ?_
  by_cases h0 : c = 0
  · have c1 := add01_fn p (n, a)
    subst h0
    simp only [ent_str, atts] at c1
    simp -implicitDefEqProofs [initG, zr, topD, atts]
    refine givB [1000000] 1000000 c1 (by simp [initG, zr]) rfl (by simp) ?_
    rintro r hs' ⟨rfl, rfl⟩
    simp -implicitDefEqProofs [initG, takeH, putH, zr]
    exact ⟨[.d (.raw (va p)), .d (.int .i64 1)], [1000000], by simp, by simp [initG, isH], by simp [resDs, resD, initG], .raw (va p), .inr rfl, by simp [one3], by simp [initG, zr]⟩
  by_cases h1 : c = 1
  · have c1 := put01_fn p (n, a)
    subst h1
    simp only [ent_str, atts] at c1
    simp -implicitDefEqProofs [initG, zr, topD, atts]
    refine givB [1000000] 1000000 c1 (by simp [initG, zr]) rfl (by simp) ?_
    rintro r hs' ⟨rfl, rfl⟩
    simp -implicitDefEqProofs [initG, takeH, putH, zr]
    exact ⟨[.d (.raw (va p)), .d (.int .i64 1)], [1000000], by simp, by simp [initG, isH], by simp [resDs, resD, initG], .raw (va p), .inr rfl, by simp [one3], by simp [initG, zr]⟩
  by_cases h2 : c = 2
  · have c1 := delete01_fn p n
    subst h2
    simp -implicitDefEqProofs [initG, zr, topD, atts]
    refine givB [1000000] 1000000 c1 (by simp [initG, zr]) rfl (by simp) ?_
    rintro r hs' ⟨rfl, rfl⟩
    simp -implicitDefEqProofs [initG, takeH, putH, zr]
    exact ⟨[.d (.raw (va p)), .d (.int .i64 1)], [1000000], by simp, by simp [initG, isH], by simp [resDs, resD, initG], .raw (va p), .inr rfl, by simp [one3], by simp [initG, zr]⟩
  by_cases h3 : c = 3
  · have c1 := move01_fn p n to
    subst h3
    simp -implicitDefEqProofs [initG, zr, topD, atts]
    refine givB [1000000] 1000000 c1 (by simp [initG, zr]) rfl (by simp) ?_
    rintro r hs' ⟨rfl, rfl⟩
    simp -implicitDefEqProofs [initG, takeH, putH, zr]
    exact ⟨[.d (.raw (va p)), .d (.int .i64 1)], [1000000], by simp, by simp [initG, isH], by simp [resDs, resD, initG], .raw (va p), .inr rfl, by simp [one3], by simp [initG, zr]⟩
  have hc : one3 c = 0 := if_neg (by omega)
  simp -implicitDefEqProofs [initG, zr, topD, atts, h0, h1, h2, h3]
  refine givB [1000000] 1000000 (clone01_fn p) (by simp [initG, zr]) rfl (by simp) ?_
  rintro r hs' ⟨rfl, rfl⟩
  simp -implicitDefEqProofs [initG, takeH, putH, zr]
  exact ⟨[.d .nilp, .d (.int .i64 0)], [1000000], by simp, by simp [initG, isH], by simp [resDs, resD, initG], .nilp, .inl rfl, by simp [hc], by simp [initG, zr]⟩
theorem sdx61 : structDX Tryz.prog true 61 = some [.raw (.map none)] := by kernel_rfl
def L8I (x : TOp) (k : Nat) (τ : St) : Prop := τ 1 = .box (topD x) ∧ τ 3 = .d .nilp ∧ τ 4 = .d (.int .i64 k) ∧ (k < 2 → τ 1000000 = .undef)
theorem law8T_fn (x : TOp) : Ctr Tryz.prog 8 [.d (topD x)] (.d (.bool true)) := by
  refine fn_of_vwp (fun i => i == 1000022 || i == 1000023 || i == 5000027 || i == 5000034 || i == 5000054 || i == 5000061 || i == 5000069 || i == 5000075) (by kernel_rfl) Tryz.func8 (by kernel_rfl) rfl rfl (Nat.le_of_ble_eq_true rfl) (by kernel_rfl) rfl rfl ?_
  have c1 := lightT_fn [] [x]
  have cA := awakeT_fn
  have c2 := Ctr.giv (do0_fn x)
  have c3 := Ctr.giv (get0_fn x.2.1)
  have c4 := Ctr.giv len0_fn
  have c5 := Ctr.giv (child0_fn x.2.1)
  have c6 := Ctr.giv (sub0_fn x.2.1)
  have c7 := Ctr.giv clone0_fn
  have d2 := fun p => do01_fn p x
  have d3 := fun p => get01_fn p x.2.1
  have d4 := len01_fn
  have d5 := fun p => child01_fn p x.2.1
  have d6 := fun p => sub01_fn p x.2.1
  have d7 := clone01_fn
  obtain ⟨c, n, to, a⟩ := x
  simp only [strs, topsD, List.map_cons, List.map_nil, ent_str, atts] at c1 c2 c3 d2 d3
  generalize lightB [] [(c, n, to, a)] = L at *
  have ho : (0 ≤ c ∧ c ≤ 3) → one3 c = 1 := fun h => if_pos h
  have htd : topD (c, n, to, a) = .agg [.int .i64 c, .str n, .str to, .sl (a.map att)] := rfl
  rw [htd] at c1 c2 d2
  cases L
  · simp -implicitDefEqProofs [htd]
    refine callK c1 ?_
    simp -implicitDefEqProofs
    refine callK cA ?_
    simp -implicitDefEqProofs
  simp -implicitDefEqProofs [htd]
  refine callK c1 ?_
  simp -implicitDefEqProofs
  refine loopN 2 (L8I (c, n, to, a)) ⟨by simp [htd], by simp, by simp, by simp⟩ ?_
  rintro k τ hk ⟨g1, g3, g4, gH⟩
  rw [htd] at g1
  have hcase : (0 ≤ c ∧ c ≤ 3 ∧ one3 c = 1) ∨ ¬ 0 ≤ c ∨ (0 ≤ c ∧ ¬ c ≤ 3) := by
    by_cases h : 0 ≤ c
    · by_cases h' : c ≤ 3
      · exact .inl ⟨h, h', ho ⟨h, h'⟩⟩
      · exact .inr (.inr ⟨h, h'⟩)
    · exact .inr (.inl h)
  by_cases hlt : k < 2
  · have hlt' : (k : Int) < 2 := by omega
    have gH := gH hlt
    by_cases hk1 : k = 1
    · subst hk1
      simp -implicitDefEqProofs [g1, g3, g4, sdx61]
      refine ⟨1000000, by simp [gH], fun p => ?_⟩
      simp -implicitDefEqProofs [g1, g3, g4]
      refine givB [1000000] 1000000 (d2 p) (by simp [zr]) rfl (by simp) ?_
      rintro r hs' ⟨v, hv, rfl, rfl⟩
      have hv : ∃ w, v = w := ⟨v, rfl⟩
      simp -implicitDefEqProofs [g1, g3, g4, takeH, putH, zr]
      refine givB [1000000] 1000000 (d3 p) (by simp [zr]) rfl (by simp) ?_
      rintro r hs' ⟨rfl, rfl⟩
      simp -implicitDefEqProofs [g1, g3, g4, takeH, putH, zr]
      rcases hcase with ⟨q1, q2, q3⟩ | q1 | ⟨q1, q2⟩
      · simp -implicitDefEqProofs [g1, g3, g4, q1, q2, q3]
        repeat refine And.intro (by first | omega | rfl) ?_
        refine givB [1000000] 1000000 (d4 p) (by simp [zr]) rfl (by simp) ?_
        rintro r hs' ⟨rfl, rfl⟩
        simp -implicitDefEqProofs [g1, g3, g4, takeH, putH, zr, q1, q2, q3]
        repeat refine And.intro (by first | omega | rfl) ?_
        refine givB [1000000] 1000000 (d5 p) (by simp [zr]) rfl (by simp) ?_
        rintro r hs' ⟨rfl, rfl⟩
        simp -implicitDefEqProofs [g1, g3, g4, takeH, putH, zr, q1, q2, q3]
        repeat refine And.intro (by first | omega | rfl) ?_
        refine givB [1000000] 1000000 (d6 p) (by simp [zr]) rfl (by simp) ?_
        rintro r hs' ⟨rfl, rfl⟩
        simp -implicitDefEqProofs [g1, g3, g4, takeH, putH, zr, q1, q2, q3]
        repeat refine And.intro (by first | omega | rfl) ?_
        refine givB [1000000] 1000000 (d7 p) (by simp [zr]) rfl (by simp) ?_
        rintro r hs' ⟨rfl, rfl⟩
        simp -implicitDefEqProofs [g1, g3, g4, takeH, putH, zr, q1, q2, q3]
        repeat refine And.intro (by first | omega | rfl) ?_
        exact again hlt ⟨by simp [g1, htd], by simp [g3], by simp, by simp⟩
      · simp -implicitDefEqProofs [g1, g3, g4, q1]
        repeat refine And.intro (by first | omega | rfl) ?_
        refine givB [1000000] 1000000 (d4 p) (by simp [zr]) rfl (by simp) ?_
        rintro r hs' ⟨rfl, rfl⟩
        simp -implicitDefEqProofs [g1, g3, g4, takeH, putH, zr, q1]
        repeat refine And.intro (by first | omega | rfl) ?_
        refine givB [1000000] 1000000 (d5 p) (by simp [zr]) rfl (by simp) ?_
        rintro r hs' ⟨rfl, rfl⟩
        simp -implicitDefEqProofs [g1, g3, g4, takeH, putH, zr, q1]
        repeat refine And.intro (by first | omega | rfl) ?_
        refine givB [1000000] 1000000 (d6 p) (by simp [zr]) rfl (by simp) ?_
        rintro r hs' ⟨rfl, rfl⟩
        simp -implicitDefEqProofs [g1, g3, g4, takeH, putH, zr, q1]
        repeat refine And.intro (by first | omega | rfl) ?_
        refine givB [1000000] 1000000 (d7 p) (by simp [zr]) rfl (by simp) ?_
        rintro r hs' ⟨rfl, rfl⟩
        simp -implicitDefEqProofs [g1, g3, g4, takeH, putH, zr, q1]
        repeat refine And.intro (by first | omega | rfl) ?_
        exact again hlt ⟨by simp [g1, htd], by simp [g3], by simp, by simp⟩
      · simp -implicitDefEqProofs [g1, g3, g4, q1, q2]
        repeat refine And.intro (by first | omega | rfl) ?_
        refine givB [1000000] 1000000 (d4 p) (by simp [zr]) rfl (by simp) ?_
        rintro r hs' ⟨rfl, rfl⟩
        simp -implicitDefEqProofs [g1, g3, g4, takeH, putH, zr, q1, q2]
        repeat refine And.intro (by first | omega | rfl) ?_
        refine givB [1000000] 1000000 (d5 p) (by simp [zr]) rfl (by simp) ?_
        rintro r hs' ⟨rfl, rfl⟩
        simp -implicitDefEqProofs [g1, g3, g4, takeH, putH, zr, q1, q2]
        repeat refine And.intro (by first | omega | rfl) ?_
        refine givB [1000000] 1000000 (d6 p) (by simp [zr]) rfl (by simp) ?_
        rintro r hs' ⟨rfl, rfl⟩
        simp -implicitDefEqProofs [g1, g3, g4, takeH, putH, zr, q1, q2]
        repeat refine And.intro (by first | omega | rfl) ?_
        refine givB [1000000] 1000000 (d7 p) (by simp [zr]) rfl (by simp) ?_
        rintro r hs' ⟨rfl, rfl⟩
        simp -implicitDefEqProofs [g1, g3, g4, takeH, putH, zr, q1, q2]
        repeat refine And.intro (by first | omega | rfl) ?_
        exact again hlt ⟨by simp [g1, htd], by simp [g3], by simp, by simp⟩
    · have hk0 : k = 0 := by omega
      subst hk0
      simp -implicitDefEqProofs [g1, g3, g4, takeH, putH]
      refine givB [] 1000000 c2 (by simp) rfl (by simp) ?_
      rintro r hs' ⟨rfl, rfl⟩
      simp -implicitDefEqProofs [g1, g3, g4, takeH, putH]
      refine givB [] 1000000 c3 (by simp) rfl (by simp) ?_
      rintro r hs' ⟨rfl, rfl⟩
      simp -implicitDefEqProofs [g1, g3, g4, takeH, putH]
      rcases hcase with ⟨q1, q2, q3⟩ | q1 | ⟨q1, q2⟩
      · simp -implicitDefEqProofs [g1, g3, g4, takeH, putH, q1, q2, q3]
        repeat refine And.intro (by first | omega | rfl) ?_
        refine givB [] 1000000 c4 (by simp) rfl (by simp) ?_
        rintro r hs' ⟨rfl, rfl⟩
        simp -implicitDefEqProofs [g1, g3, g4, takeH, putH, q1, q2, q3]
        repeat refine And.intro (by first | omega | rfl) ?_
        refine givB [] 1000000 c5 (by simp) rfl (by simp) ?_
        rintro r hs' ⟨rfl, rfl⟩
        simp -implicitDefEqProofs [g1, g3, g4, takeH, putH, q1, q2, q3]
        repeat refine And.intro (by first | omega | rfl) ?_
        refine givB [] 1000000 c6 (by simp) rfl (by simp) ?_
        rintro r hs' ⟨rfl, rfl⟩
        simp -implicitDefEqProofs [g1, g3, g4, takeH, putH, q1, q2, q3]
        repeat refine And.intro (by first | omega | rfl) ?_
        refine givB [] 1000000 c7 (by simp) rfl (by simp) ?_
        rintro r hs' ⟨rfl, rfl⟩
        simp -implicitDefEqProofs [g1, g3, g4, takeH, putH, q1, q2, q3]
        repeat refine And.intro (by first | omega | rfl) ?_
        exact again hlt ⟨by simp [g1, htd], by simp [g3], by simp, by simp [gH]⟩
      · simp -implicitDefEqProofs [g1, g3, g4, takeH, putH, q1]
        repeat refine And.intro (by first | omega | rfl) ?_
        refine givB [] 1000000 c4 (by simp) rfl (by simp) ?_
        rintro r hs' ⟨rfl, rfl⟩
        simp -implicitDefEqProofs [g1, g3, g4, takeH, putH, q1]
        repeat refine And.intro (by first | omega | rfl) ?_
        refine givB [] 1000000 c5 (by simp) rfl (by simp) ?_
        rintro r hs' ⟨rfl, rfl⟩
        simp -implicitDefEqProofs [g1, g3, g4, takeH, putH, q1]
        repeat refine And.intro (by first | omega | rfl) ?_
        refine givB [] 1000000 c6 (by simp) rfl (by simp) ?_
        rintro r hs' ⟨rfl, rfl⟩
        simp -implicitDefEqProofs [g1, g3, g4, takeH, putH, q1]
        repeat refine And.intro (by first | omega | rfl) ?_
        refine givB [] 1000000 c7 (by simp) rfl (by simp) ?_
        rintro r hs' ⟨rfl, rfl⟩
        simp -implicitDefEqProofs [g1, g3, g4, takeH, putH, q1]
        repeat refine And.intro (by first | omega | rfl) ?_
        exact again hlt ⟨by simp [g1, htd], by simp [g3], by simp, by simp [gH]⟩
      · simp -implicitDefEqProofs [g1, g3, g4, takeH, putH, q1, q2]
        repeat refine And.intro (by first | omega | rfl) ?_
        refine givB [] 1000000 c4 (by simp) rfl (by simp) ?_
        rintro r hs' ⟨rfl, rfl⟩
        simp -implicitDefEqProofs [g1, g3, g4, takeH, putH, q1, q2]
        repeat refine And.intro (by first | omega | rfl) ?_
        refine givB [] 1000000 c5 (by simp) rfl (by simp) ?_
        rintro r hs' ⟨rfl, rfl⟩
        simp -implicitDefEqProofs [g1, g3, g4, takeH, putH, q1, q2]
        repeat refine And.intro (by first | omega | rfl) ?_
        refine givB [] 1000000 c6 (by simp) rfl (by simp) ?_
        rintro r hs' ⟨rfl, rfl⟩
        simp -implicitDefEqProofs [g1, g3, g4, takeH, putH, q1, q2]
        repeat refine And.intro (by first | omega | rfl) ?_
        refine givB [] 1000000 c7 (by simp) rfl (by simp) ?_
        rintro r hs' ⟨rfl, rfl⟩
        simp -implicitDefEqProofs [g1, g3, g4, takeH, putH, q1, q2]
        repeat refine And.intro (by first | omega | rfl) ?_
        exact again hlt ⟨by simp [g1, htd], by simp [g3], by simp, by simp [gH]⟩
  · have hlt' : ¬ (k : Int) < 2 := by omega
    simp -implicitDefEqProofs [g4, hlt']
    refine callK cA ?_
    simp -implicitDefEqProofs
end Go.Proofs.Tz

/- The statement TreeNothing. -/
set_option maxRecDepth 100000
set_option maxHeartbeats 8000000
set_option linter.unusedSimpArgs false
set_option linter.unusedVariables false
namespace Go.Proofs.Tz
open Go.Vw Go.RowKit Go.Proofs Go.Sort

def L5I (R : List Str) (l : List TOp) (k : Nat) (τ : St) : Prop := ∃ E p u X, TI E ∧ FE E ∧ RootI R E ∧ τ 0 = .d (strs R) ∧ τ 1 = .d (topsD l) ∧ τ 5 = .d (.raw (va p)) ∧ τ 7 = .d (.int .i64 k) ∧
  τ 1000000 = .hb (va p) 61 (.agg [.raw (.map (some u))]) ∧ τ 1000001 = .hm (.map (some u)) 9 (mapE E) X
theorem do_err (E : List Ent) (x : TOp) (h : (doE E x).2 ≠ 0) : (doE E x).1 = E := by
  unfold doE addE putE deleteE moveE at *
  repeat' split at h
  all_goals first | exact absurd rfl h | simp_all
theorem law5T_fn (R : List Str) (l : List TOp) : Ctr Tryz.prog 5 [.d (strs R), .d (topsD l)] (.d (.bool true)) := by
  refine fn_of_vwp (fun i => i == 5000019 || i == 5000040 || i == 5000042 || i == 5000049 || i == 5000063 || i == 5000071 || i == 2000065 || i == 2000073) (by kernel_rfl) Tryz.func5 (by kernel_rfl) rfl rfl (Nat.le_of_ble_eq_true rfl) (by kernel_rfl) rfl rfl ?_
  have c1 := lightT_fn R l
  have cA := awakeT_fn
  simp only [strs, topsD] at c1
  cases hL : lightB R l with
  | false =>
    rw [hL] at c1
    simp -implicitDefEqProofs [strs, topsD]
    refine callK c1 ?_
    simp -implicitDefEqProofs
    refine callK cA ?_
    simp -implicitDefEqProofs
  | true =>
  rw [hL] at c1
  obtain ⟨hR, hR6, hl24, hfit⟩ := light_R hL
  have c2 := tnew_fn R hR
  simp only [strs] at c2
  have hnew := @new_ok R
  have hroot := @new_roots R
  generalize newE R = V at *
  obtain ⟨E0, er⟩ := V
  simp only at hnew hroot
  by_cases h0 : er = 0
  case neg =>
    simp -implicitDefEqProofs [strs, topsD]
    refine callK c1 ?_
    simp -implicitDefEqProofs
    refine givB [] 1000000 c2 (by simp) rfl (by simp) ?_
    rintro r hs' (⟨_, rfl, rfl⟩ | ⟨h, _⟩)
    case inr => exact absurd h h0
    simp -implicitDefEqProofs [takeH, putH, h0]
    refine callK cA ?_
    simp -implicitDefEqProofs
  subst h0
  obtain ⟨hT0, hF0, _, _⟩ := hnew rfl
  obtain ⟨hr0, hnd⟩ := hroot rfl
  simp -implicitDefEqProofs [strs, topsD]
  refine callK c1 ?_
  simp -implicitDefEqProofs
  refine givB [] 1000000 c2 (by simp) rfl (by simp) ?_
  rintro r hs' (⟨h, _⟩ | ⟨_, p, u, rfl, rfl⟩)
  · exact absurd rfl h
  simp -implicitDefEqProofs [takeH, putH, tr]
  refine loopN l.length (L5I R l) ⟨E0, p, u, none, hT0, hF0, hr0, by simp [strs], by simp [topsD], by simp, by simp, by simp, by simp⟩ ?_
  clear c1 c2 hnew
  rintro k τ hk ⟨E, p, u, X, hT, hF, hr, g0, g1, g5, g7, gA, gB⟩
  by_cases hlt : k < l.length
  · have hlt' : (k : Int) < l.length := by omega
    have hx := hfit _ (List.getElem_mem hlt)
    have c3 := tsubtree_fn p u E X hT hF [] (by simp)
    have c4 := fun X => tdo_fn p u E X hT l[k] hx
    have hT2 := hT.act l[k]
    have hF2 := hF.act hx
    have hr2 := hr.act hT l[k]
    have hn := hx.1
    have hto := hx.2.1
    have herr := do_err E l[k]
    generalize hxe : l[k] = x at *
    generalize hV : doE E x = V at *
    obtain ⟨E2, er⟩ := V
    obtain ⟨c, n, to, a⟩ := x
    simp only at hT2 hF2 hr2 hn hto
    have htd : topD (c, n, to, a) = .agg [.int .i64 c, .str n, .str to, .sl (a.map att)] := rfl
    rw [htd] at c4
    have c8 := sameEs_fn _ _ (fits_sub hT hF []) (fits_sub hT hF [])
    simp only [decide_true] at c8
    simp only [entsD] at c8
    simp only at herr
    have c5 := fun X => tclone_fn p u E X hT
    have c6 := fun p u X => tsubtree_fn p u E2 X hT2 hF2 [] (by simp)
    have c7 := fun p u X => tsubtree_fn p u E X hT hF [] (by simp)
    generalize hS : subtreeE E [] = S0 at *
    simp -implicitDefEqProofs [g0, g1, g5, g7, gA, gB, topsD, hlt, hlt', hxe, htd, takeH, putH, tr]
    refine givB [1000000, 1000001] 1000000 c3 (by simp [gA, gB, tr]) rfl (by simp) ?_
    rintro r hs' ⟨rfl, X1, rfl⟩
    simp -implicitDefEqProofs [g0, g1, g5, g7, gA, gB, topsD, hlt, hlt', hxe, htd, takeH, putH, tr]
    repeat refine And.intro (by first | omega | rfl) ?_
    refine givB [1000000, 1000001] 1000002 (c5 X1) (by simp [tr]) rfl (by simp) ?_
    rintro r hs' ⟨p2, u2, X2, rfl, rfl⟩
    simp -implicitDefEqProofs [g0, g1, g5, g7, gA, gB, topsD, hlt, hlt', hxe, htd, takeH, putH, tr]
    repeat refine And.intro (by first | omega | rfl) ?_
    refine givB [1000000, 1000001] 1000000 (c4 X2) (by simp [tr]) rfl (by simp) ?_
    rintro r hs' ⟨p', u', rfl, X', rfl⟩
    by_cases he : er = 0
    · subst he
      simp -implicitDefEqProofs [g0, g1, g5, g7, gA, gB, topsD, hlt, hlt', hxe, htd, takeH, putH, tr]
      repeat refine And.intro (by first | omega | rfl) ?_
      refine givB [1000002, 1000003] 1000002 (c7 p2 u2 none) (by simp [tr]) rfl (by simp) ?_
      rintro r hs' ⟨rfl, X4, rfl⟩
      simp -implicitDefEqProofs [g0, g1, g5, g7, gA, gB, topsD, hlt, hlt', hxe, htd, takeH, putH, tr]
      repeat refine And.intro (by first | omega | rfl) ?_
      refine lendK c8 rfl ?_
      simp -implicitDefEqProofs [g0, g1, g5, g7, gA, gB, topsD, hlt, hlt', hxe, htd, takeH, putH, tr]
      repeat refine And.intro (by first | omega | rfl) ?_
      exact again hlt ⟨E2, p', u', X', hT2, hF2, hr2, by simp [g0, strs], by simp [g1, topsD], by simp, by simp, by simp, by simp⟩
    · have := herr he
      subst this
      rw [hS] at c6
      simp -implicitDefEqProofs [g0, g1, g5, g7, gA, gB, topsD, hlt, hlt', hxe, htd, takeH, putH, tr, he]
      repeat refine And.intro (by first | omega | rfl) ?_
      refine givB [1000000, 1000001] 1000000 (c6 p' u' X') (by simp [tr]) rfl (by simp) ?_
      rintro r hs' ⟨rfl, X3, rfl⟩
      simp -implicitDefEqProofs [g0, g1, g5, g7, gA, gB, topsD, hlt, hlt', hxe, htd, takeH, putH, tr, he]
      repeat refine And.intro (by first | omega | rfl) ?_
      refine lendK c8 rfl ?_
      simp -implicitDefEqProofs [g0, g1, g5, g7, gA, gB, topsD, hlt, hlt', hxe, htd, takeH, putH, tr, he]
      repeat refine And.intro (by first | omega | rfl) ?_
      refine givB [1000002, 1000003] 1000002 (c7 p2 u2 none) (by simp [tr]) rfl (by simp) ?_
      rintro r hs' ⟨rfl, X4, rfl⟩
      simp -implicitDefEqProofs [g0, g1, g5, g7, gA, gB, topsD, hlt, hlt', hxe, htd, takeH, putH, tr, he]
      repeat refine And.intro (by first | omega | rfl) ?_
      refine lendK c8 rfl ?_
      simp -implicitDefEqProofs [g0, g1, g5, g7, gA, gB, topsD, hlt, hlt', hxe, htd, takeH, putH, tr, he]
      repeat refine And.intro (by first | omega | rfl) ?_
      exact again hlt ⟨E2, p', u', X3, hT2, hF2, hr2, by simp [g0, strs], by simp [g1, topsD], by simp, by simp, by simp, by simp⟩
  · have hlt' : ¬ (k : Int) < l.length := by omega
    simp -implicitDefEqProofs [g0, g1, g5, g7, topsD, hlt, hlt']
    refine callK cA ?_
    simp -implicitDefEqProofs
end Go.Proofs.Tz

/- The statements about trees: facts of whole trees. -/
set_option maxRecDepth 100000
set_option linter.unusedSimpArgs false
set_option linter.unusedVariables false
namespace Go.Proofs.Tz
open Go.Vw Go.RowKit Go.Proofs Go.Sort

theorem sub_all (E : List Ent) : subtreeE E [] = E := by
  simp [subtreeE, subE]
theorem sub_in {E : List Ent} {e : Ent} (he : e ∈ E) : subtreeE E e.1 = subE E e.1 := by
  have : hasE E e.1 = true := hasE_iff.2 (List.mem_map.2 ⟨e, he, rfl⟩)
  simp [subtreeE, this]
theorem kids_in {E : List Ent} {e : Ent} (he : e ∈ E) : childrenE E e.1 = kidsE E e.1 := by
  have : hasE E e.1 = true := hasE_iff.2 (List.mem_map.2 ⟨e, he, rfl⟩)
  simp [childrenE, this]
theorem kids_nil (E : List Ent) : childrenE E [] = kidsE E [] := by simp [childrenE]
theorem getT_is (E : List Ent) (s : Str) : (getT E s).2 = hasE E s := by
  rw [getE_has]
  unfold getT
  cases getE E s <;> rfl
theorem TI.conn {E : List Ent} (h : TI E) {e : Ent} (he : e ∈ E) : depthU e.1 = 1 ∨ ((parentU e.1).2 = true ∧ hasE E (parentU e.1).1 = true) := by
  by_cases h1 : depthU e.1 = 1
  · exact .inl h1
  · obtain ⟨p, l, hn⟩ := proper_norm (h.proper e he)
    exact .inr ⟨parent_ok.2 ⟨p, l, hn⟩, h.linked e he h1⟩
theorem TI.order {E : List Ent} (h : TI E) {i : Nat} (hi : i < E.length) (h0 : 0 < i) : cmpN (E[i - 1]'(by omega)).1 E[i].1 < 0 := by
  have := (List.pairwise_iff_getElem.1 h.ord) (i - 1) i (by simp [keysE]; omega) (by simpa [keysE] using hi) (by omega)
  simpa [keysE] using this
theorem top_iff {x : Str} (hx : properU x = true) : ((parentU x).2 && decide ((parentU x).1 = [])) = decide (depthU x = 1) := by
  obtain ⟨p, l, hn⟩ := proper_norm hx
  obtain ⟨t, h1, h2⟩ := parent_norm hn
  rw [h1, depth_norm hn]
  have := norm_ne h2
  cases l with
  | nil => simp [this.2 rfl]
  | cons q l =>
    have hne : t ≠ [] := fun e => by cases this.1 e
    simp [hne]
def topsN (l : List Str) : Nat := l.countP fun s => decide (depthU s = 1)
theorem kids_top {E : List Ent} (h : TI E) : (kidsE E []).length = topsN (keysE E) := by
  unfold kidsE topsN
  rw [List.countP_eq_length_filter]
  congr 1
  exact List.filter_congr fun x hx => top_iff (h.key hx)
theorem tops_roots {R : List Str} {E : List Ent} (h : TI E) (hr : RootI R E) (hnd : R.Nodup) : topsN (keysE E) = R.length := by
  unfold topsN
  rw [List.countP_eq_length_filter]
  refine List.Perm.length_eq ((List.perm_ext_iff_of_nodup (h.nodup.filter _) hnd).2 fun s => ?_)
  rw [List.mem_filter, ← hr s]
  simp
theorem topsN_take {l : List Str} {k : Nat} (hk : k < l.length) : topsN (l.take (k + 1)) = topsN (l.take k) + if depthU l[k] = 1 then 1 else 0 := by
  unfold topsN
  rw [take_s hk, List.countP_append]
  by_cases h : depthU l[k] = 1 <;> simp [h]
theorem topsN_take_le {l : List Str} {k : Nat} : topsN (l.take k) ≤ k := by
  unfold topsN
  exact Nat.le_trans List.countP_le_length (by simp; omega)
end Go.Proofs.Tz

/- The statement TreeConnected. -/
set_option maxRecDepth 100000
set_option maxHeartbeats 8000000
set_option linter.unusedSimpArgs false
set_option linter.unusedVariables false
namespace Go.Proofs.Tz
open Go.Vw Go.RowKit Go.Proofs Go.Sort

def L4I (R : List Str) (l : List TOp) (k : Nat) (τ : St) : Prop := ∃ E p u X, TI E ∧ FE E ∧ RootI R E ∧ τ 0 = .d (strs R) ∧ τ 1 = .d (topsD l) ∧ τ 5 = .d (.raw (va p)) ∧ τ 7 = .d (.int .i64 k) ∧
  τ 1000000 = .hb (va p) 61 (.agg [.raw (.map (some u))]) ∧ τ 1000001 = .hm (.map (some u)) 9 (mapE E) X
def L4J (R : List Str) (E : List Ent) (p u : Nat) (X : Option (List (D × Nat) × Nat)) (k : Nat) (τ : St) : Prop := τ 0 = .d (strs R) ∧ τ 5 = .d (.raw (va p)) ∧ τ 8 = .own true 44 (E.map entD) ∧ τ 9 = .d (.int .i64 (topsN ((keysE E).take k))) ∧ τ 10 = .d (.int .i64 k) ∧
  τ 1000000 = .hb (va p) 61 (.agg [.raw (.map (some u))]) ∧ τ 1000001 = .hm (.map (some u)) 9 (mapE E) X
def L4K (R : List Str) (E : List Ent) (p u : Nat) (X : Option (List (D × Nat) × Nat)) (k : Nat) (τ : St) : Prop := τ 0 = .d (strs R) ∧ τ 5 = .d (.raw (va p)) ∧ τ 8 = .own true 44 (E.map entD) ∧ τ 9 = .d (.int .i64 R.length) ∧ τ 15 = .d (.int .i64 k) ∧
  τ 1000000 = .hb (va p) 61 (.agg [.raw (.map (some u))]) ∧ τ 1000001 = .hm (.map (some u)) 9 (mapE E) X
theorem law4T_fn (R : List Str) (l : List TOp) : Ctr Tryz.prog 4 [.d (strs R), .d (topsD l)] (.d (.bool true)) := by
  refine fn_of_vwp (fun i => i == 5000025 || i == 5000051 || i == 5000057 || i == 5000076 || i == 5000147 || i == 5000158 || i == 5000165) (by kernel_rfl) Tryz.func4 (by kernel_rfl) rfl rfl (Nat.le_of_ble_eq_true rfl) (by kernel_rfl) rfl rfl ?_
  have c1 := lightT_fn R l
  have cA := awakeT_fn
  simp only [strs, topsD] at c1
  cases hL : lightB R l with
  | false =>
    rw [hL] at c1
    simp -implicitDefEqProofs [strs, topsD]
    refine callK c1 ?_
    simp -implicitDefEqProofs
    refine callK cA ?_
    simp -implicitDefEqProofs
  | true =>
  rw [hL] at c1
  obtain ⟨hR, hR6, hl24, hfit⟩ := light_R hL
  have c2 := tnew_fn R hR
  simp only [strs] at c2
  have hnew := @new_ok R
  have hroot := @new_roots R
  generalize newE R = V at *
  obtain ⟨E0, er⟩ := V
  simp only at hnew hroot
  by_cases h0 : er = 0
  case neg =>
    simp -implicitDefEqProofs [strs, topsD]
    refine callK c1 ?_
    simp -implicitDefEqProofs
    refine givB [] 1000000 c2 (by simp) rfl (by simp) ?_
    rintro r hs' (⟨_, rfl, rfl⟩ | ⟨h, _⟩)
    case inr => exact absurd h h0
    simp -implicitDefEqProofs [takeH, putH, h0]
    refine callK cA ?_
    simp -implicitDefEqProofs
  subst h0
  obtain ⟨hT0, hF0, _, _⟩ := hnew rfl
  obtain ⟨hr0, hnd⟩ := hroot rfl
  simp -implicitDefEqProofs [strs, topsD]
  refine callK c1 ?_
  simp -implicitDefEqProofs
  refine givB [] 1000000 c2 (by simp) rfl (by simp) ?_
  rintro r hs' (⟨h, _⟩ | ⟨_, p, u, rfl, rfl⟩)
  · exact absurd rfl h
  simp -implicitDefEqProofs [takeH, putH, tr]
  refine loopN l.length (L4I R l) ⟨E0, p, u, none, hT0, hF0, hr0, by simp [strs], by simp [topsD], by simp, by simp, by simp, by simp⟩ ?_
  clear c1 c2 hnew
  rintro k τ hk ⟨E, p, u, X, hT, hF, hr, g0, g1, g5, g7, gA, gB⟩
  by_cases hlt : k < l.length
  · have hlt' : (k : Int) < l.length := by omega
    have hx := hfit _ (List.getElem_mem hlt)
    have c4 := fun X => tdo_fn p u E X hT l[k] hx
    have hT2 := hT.act l[k]
    have hF2 := hF.act hx
    have hr2 := hr.act hT l[k]
    have hn := hx.1
    have hto := hx.2.1
    generalize hxe : l[k] = x at *
    generalize hV : doE E x = V at *
    obtain ⟨E2, er⟩ := V
    obtain ⟨c, n, to, a⟩ := x
    simp only at hT2 hF2 hr2 hn hto
    have htd : topD (c, n, to, a) = .agg [.int .i64 c, .str n, .str to, .sl (a.map att)] := rfl
    rw [htd] at c4
    simp -implicitDefEqProofs [g0, g1, g5, g7, gA, gB, topsD, hlt, hlt', hxe, htd, takeH, putH, tr]
    repeat refine And.intro (by first | omega | rfl) ?_
    refine givB [1000000, 1000001] 1000000 (c4 X) (by simp [gA, gB, tr]) rfl (by simp) ?_
    rintro r hs' ⟨p', u', rfl, X', rfl⟩
    simp -implicitDefEqProofs [g0, g1, g5, g7, gA, gB, topsD, hlt, hlt', hxe, htd, takeH, putH, tr]
    repeat refine And.intro (by first | omega | rfl) ?_
    exact again hlt ⟨E2, p', u', X', hT2, hF2, hr2, by simp [g0, strs], by simp [g1, topsD], by simp, by simp, by simp, by simp⟩
  have hlt' : ¬ (k : Int) < l.length := by omega
  have c3 := tsubtree_fn p u E X hT hF [] (by simp)
  rw [sub_all] at c3
  have hroots := tops_roots hT hr hnd
  have hkids := kids_top hT
  have hfew := hT.few
  have hkl : (keysE E).length = E.length := by simp [keysE]
  simp -implicitDefEqProofs [g0, g1, g5, g7, gA, gB, topsD, hlt, hlt']
  refine givB [1000000, 1000001] 1000000 c3 (by simp [gA, gB, tr]) rfl (by simp) ?_
  rintro r hs' ⟨rfl, X1, rfl⟩
  simp -implicitDefEqProofs [g0, g1, g5, g7, topsD, hlt, hlt', takeH, putH, tr]
  refine loopN E.length (L4J R E p u X1) ⟨by simp [g0], by simp [g5], by simp, by simp [topsN], by simp, by simp, by simp⟩ ?_
  clear g0 g1 g5 g7 gA gB hlt hlt' hk c3
  rintro j ρ hj ⟨g0, g5, g8, g9, g10, gA, gB⟩
  by_cases hlt : j < E.length
  · have hlt' : (j : Int) < E.length := by omega
    have hm := List.getElem_mem hlt
    have hkl2 : j < (keysE E).length := by omega
    have hcn := hT.conn hm
    have hv : validU E[j].1 = true := proper_valid (hT.proper _ hm)
    have hn := hT.normal _ hm
    have hf := hF _ hm
    have hl := hT.klen (List.mem_map.2 ⟨_, hm, rfl⟩)
    have htop := topsN_take hkl2
    have hke : (keysE E)[j]'hkl2 = E[j].1 := by simp [keysE]
    rw [hke] at htop
    have hle := @topsN_take_le (keysE E) j
    have hprev : ∀ (h : 0 < j), ∃ q b', E[j - 1]'(by omega) = (q, b') ∧ cmpN q E[j].1 < 0 ∧ List.length q < 900000 := fun h => ⟨_, _, rfl, hT.order hlt h, hT.klen (List.mem_map.2 ⟨E[j - 1]'(by omega), List.getElem_mem _, rfl⟩)⟩
    generalize hxe : E[j] = e at *
    obtain ⟨a, b⟩ := e
    simp only at hcn hv hn hf hl htop hprev
    have c5 := nparentR_fn a hl
    have c6 := tget_fn p u E X1 (parentU a).1 hF
    have hgi := getT_is E (parentU a).1
    have c7 := ndepthR_fn a hl
    have c9 := nvalidR_fn a hl
    have c10 := sortedR_fn b hf
    have c11 := sameA_fn b b hf.1 hf.1
    rw [hv] at c9
    rw [hn] at c10
    simp only [decide_true, atts] at c11
    generalize parentU a = PA at *
    obtain ⟨pa, ok⟩ := PA
    simp only at c5 c6 hcn hgi
    generalize getT E pa = G at *
    obtain ⟨⟨ge, ga⟩, gis⟩ := G
    simp only [ent_str, atts] at c6 hgi
    subst hgi
    simp -implicitDefEqProofs [g0, g5, g8, g9, g10, gA, gB, hlt, hlt', hxe, ent_str, atts]
    repeat refine And.intro (by first | omega | rfl) ?_
    refine callK c5 ?_
    simp -implicitDefEqProofs [g0, g5, g8, g9, g10, gA, gB, hlt, hlt', hxe, ent_str, atts]
    repeat refine And.intro (by first | omega | rfl) ?_
    refine givB [1000000, 1000001] 1000000 c6 (by simp [gA, gB, tr]) rfl (by simp) ?_
    rintro r hs' ⟨rfl, rfl⟩
    simp -implicitDefEqProofs [g0, g5, g8, g9, g10, gA, gB, hlt, hlt', hxe, ent_str, atts, takeH, putH, tr]
    repeat refine And.intro (by first | omega | rfl) ?_
    refine callK c7 ?_
    generalize depthU a = dp at *
    by_cases hd : dp = 1
    · subst hd
      rw [if_pos rfl] at htop
      by_cases h0 : 0 < j
      · obtain ⟨q, b', hq, hc, hql⟩ := hprev h0
        have hjm : j - 1 < E.length := by omega
        have hj1 : (1 : Int) ≤ j := by omega
        have c8 := ncompareR_fn q a hql hl
        have hc' : ¬ 0 ≤ cmpN q a := by omega
        simp -implicitDefEqProofs [g0, g5, g8, g9, g10, gA, gB, hlt, hlt', hxe, ent_str, atts, takeH, putH, tr, h0, hjm, hj1, hq]
        repeat refine And.intro (by first | omega | rfl) ?_
        refine callP c8 ?_
        simp -implicitDefEqProofs [g0, g5, g8, g9, g10, gA, gB, hlt, hlt', hxe, ent_str, atts, takeH, putH, tr, h0, hjm, hj1, hq, hc']
        repeat refine And.intro (by first | omega | rfl) ?_
        refine callP c9 ?_
        simp -implicitDefEqProofs [g0, g5, g8, g9, g10, gA, gB, hlt, hlt', hxe, ent_str, atts, takeH, putH, tr, h0, hjm, hj1, hq, hc']
        repeat refine And.intro (by first | omega | rfl) ?_
        refine callP c10 ?_
        simp -implicitDefEqProofs [g0, g5, g8, g9, g10, gA, gB, hlt, hlt', hxe, ent_str, atts, takeH, putH, tr, h0, hjm, hj1, hq, hc']
        repeat refine And.intro (by first | omega | rfl) ?_
        refine callP c11 ?_
        simp -implicitDefEqProofs [g0, g5, g8, g9, g10, gA, gB, hlt, hlt', hxe, ent_str, atts, takeH, putH, tr, h0, hjm, hj1, hq, hc']
        repeat refine And.intro (by first | omega | rfl) ?_
        exact again hlt ⟨by simp [g0], by simp [g5], by simp [g8], by simp [g9, htop], by simp [g10], by simp, by simp⟩
      · simp -implicitDefEqProofs [g0, g5, g8, g9, g10, gA, gB, hlt, hlt', hxe, ent_str, atts, takeH, putH, tr, h0]
        repeat refine And.intro (by first | omega | rfl) ?_
        refine callP c9 ?_
        simp -implicitDefEqProofs [g0, g5, g8, g9, g10, gA, gB, hlt, hlt', hxe, ent_str, atts, takeH, putH, tr, h0]
        repeat refine And.intro (by first | omega | rfl) ?_
        refine callP c10 ?_
        simp -implicitDefEqProofs [g0, g5, g8, g9, g10, gA, gB, hlt, hlt', hxe, ent_str, atts, takeH, putH, tr, h0]
        repeat refine And.intro (by first | omega | rfl) ?_
        refine callP c11 ?_
        simp -implicitDefEqProofs [g0, g5, g8, g9, g10, gA, gB, hlt, hlt', hxe, ent_str, atts, takeH, putH, tr, h0]
        repeat refine And.intro (by first | omega | rfl) ?_
        exact again hlt ⟨by simp [g0], by simp [g5], by simp [g8], by simp [g9, htop], by simp [g10], by simp, by simp⟩
    · obtain ⟨rfl, hi⟩ := hcn.resolve_left hd
      have hd' : ¬ (dp : Int) = 1 := by omega
      rw [if_neg hd] at htop
      rw [hi] at c6
      by_cases h0 : 0 < j
      · obtain ⟨q, b', hq, hc, hql⟩ := hprev h0
        have hjm : j - 1 < E.length := by omega
        have hj1 : (1 : Int) ≤ j := by omega
        have c8 := ncompareR_fn q a hql hl
        have hc' : ¬ 0 ≤ cmpN q a := by omega
        simp -implicitDefEqProofs [g0, g5, g8, g9, g10, gA, gB, hlt, hlt', hxe, ent_str, atts, takeH, putH, tr, hd, hd', hi, h0, hjm, hj1, hq]
        repeat refine And.intro (by first | omega | rfl) ?_
        refine callP c8 ?_
        simp -implicitDefEqProofs [g0, g5, g8, g9, g10, gA, gB, hlt, hlt', hxe, ent_str, atts, takeH, putH, tr, hd, hd', hi, h0, hjm, hj1, hq, hc']
        repeat refine And.intro (by first | omega | rfl) ?_
        refine callP c9 ?_
        simp -implicitDefEqProofs [g0, g5, g8, g9, g10, gA, gB, hlt, hlt', hxe, ent_str, atts, takeH, putH, tr, hd, hd', hi, h0, hjm, hj1, hq, hc']
        repeat refine And.intro (by first | omega | rfl) ?_
        refine callP c10 ?_
        simp -implicitDefEqProofs [g0, g5, g8, g9, g10, gA, gB, hlt, hlt', hxe, ent_str, atts, takeH, putH, tr, hd, hd', hi, h0, hjm, hj1, hq, hc']
        repeat refine And.intro (by first | omega | rfl) ?_
        refine callP c11 ?_
        simp -implicitDefEqProofs [g0, g5, g8, g9, g10, gA, gB, hlt, hlt', hxe, ent_str, atts, takeH, putH, tr, hd, hd', hi, h0, hjm, hj1, hq, hc']
        repeat refine And.intro (by first | omega | rfl) ?_
        exact again hlt ⟨by simp [g0], by simp [g5], by simp [g8], by simp [g9, htop], by simp [g10], by simp, by simp⟩
      · simp -implicitDefEqProofs [g0, g5, g8, g9, g10, gA, gB, hlt, hlt', hxe, ent_str, atts, takeH, putH, tr, hd, hd', hi, h0]
        repeat refine And.intro (by first | omega | rfl) ?_
        refine callP c9 ?_
        simp -implicitDefEqProofs [g0, g5, g8, g9, g10, gA, gB, hlt, hlt', hxe, ent_str, atts, takeH, putH, tr, hd, hd', hi, h0]
        repeat refine And.intro (by first | omega | rfl) ?_
        refine callP c10 ?_
        simp -implicitDefEqProofs [g0, g5, g8, g9, g10, gA, gB, hlt, hlt', hxe, ent_str, atts, takeH, putH, tr, hd, hd', hi, h0]
        repeat refine And.intro (by first | omega | rfl) ?_
        refine callP c11 ?_
        simp -implicitDefEqProofs [g0, g5, g8, g9, g10, gA, gB, hlt, hlt', hxe, ent_str, atts, takeH, putH, tr, hd, hd', hi, h0]
        repeat refine And.intro (by first | omega | rfl) ?_
        exact again hlt ⟨by simp [g0], by simp [g5], by simp [g8], by simp [g9, htop], by simp [g10], by simp, by simp⟩
  · have hlt' : ¬ (j : Int) < E.length := by omega
    have hje : j = E.length := by omega
    have htk : topsN (List.take j (keysE E)) = R.length := by rw [List.take_of_length_le (by omega), hroots]
    rw [htk] at g9
    simp -implicitDefEqProofs [g0, g5, g8, g9, g10, gA, gB, hlt, hlt']
    refine loopN R.length (L4K R E p u X1) ⟨by simp [g0], by simp [g5], by simp [g8], by simp [g9], by simp, by simp [gA], by simp [gB]⟩ ?_
    clear g0 g5 g8 g9 g10 gA gB hlt hlt' hj
    rintro i ρ hi ⟨g0, g5, g8, g9, g15, gA, gB⟩
    by_cases hlt : i < R.length
    · have hlt' : (i : Int) < R.length := by omega
      have hm := List.getElem_mem hlt
      have hh : hasE E R[i] = true := hasE_iff.2 ((hr _).2 hm).1
      generalize hxe : R[i] = a at *
      have c6 := tget_fn p u E X1 a hF
      have hgi := getT_is E a
      rw [hh] at hgi
      generalize getT E a = G at *
      obtain ⟨⟨ge, ga⟩, gis⟩ := G
      simp only [ent_str, atts] at c6 hgi
      subst hgi
      simp -implicitDefEqProofs [g0, g5, g8, g9, g15, gA, gB, hlt, hlt', hxe, strs]
      repeat refine And.intro (by first | omega | rfl) ?_
      refine givB [1000000, 1000001] 1000000 c6 (by simp [gA, gB, tr]) rfl (by simp) ?_
      rintro r hs' ⟨rfl, rfl⟩
      simp -implicitDefEqProofs [g0, g5, g8, g9, g15, gA, gB, hlt, hlt', hxe, ent_str, atts, takeH, putH, tr]
      repeat refine And.intro (by first | omega | rfl) ?_
      exact again hlt ⟨by simp [g0], by simp [g5], by simp [g8], by simp [g9], by simp [g15], by simp, by simp⟩
    · have hlt' : ¬ (i : Int) < R.length := by omega
      have c12 := tchildren_fn p u E X1 hT []
      have c13 := fun X => tlen_fn p u E X
      have hkl3 : (childrenE E []).length = R.length := by rw [kids_nil, hkids, hroots]
      have hfew' : (E.length : Int) ≤ 256 := by omega
      simp -implicitDefEqProofs [g0, g5, g8, g9, g15, gA, gB, hlt, hlt', strs]
      repeat refine And.intro (by first | omega | rfl) ?_
      refine givB [1000000, 1000001] 1000000 c12 (by simp [gA, gB, tr]) rfl (by simp) ?_
      rintro r hs' ⟨rfl, X2, rfl⟩
      simp -implicitDefEqProofs [g0, g5, g8, g9, g15, hlt, hlt', hkl3, takeH, putH, tr]
      repeat refine And.intro (by first | omega | rfl) ?_
      refine givB [1000000, 1000001] 1000000 (c13 X2) (by simp [tr]) rfl (by simp) ?_
      rintro r hs' ⟨rfl, rfl⟩
      simp -implicitDefEqProofs [g0, g5, g8, g9, g15, hlt, hlt', hkl3, hfew', takeH, putH, tr]
      repeat refine And.intro (by first | omega | rfl) ?_
      refine callK cA ?_
      simp -implicitDefEqProofs
end Go.Proofs.Tz

/- The statement TreeSubtrees. -/
set_option maxRecDepth 100000
set_option maxHeartbeats 8000000
set_option linter.unusedSimpArgs false
set_option linter.unusedVariables false
namespace Go.Proofs.Tz
open Go.Vw Go.RowKit Go.Proofs Go.Sort

def L7I (R : List Str) (l : List TOp) (k : Nat) (τ : St) : Prop := ∃ E p u X, TI E ∧ FE E ∧ RootI R E ∧ τ 0 = .d (strs R) ∧ τ 1 = .d (topsD l) ∧ τ 5 = .d (.raw (va p)) ∧ τ 7 = .d (.int .i64 k) ∧
  τ 1000000 = .hb (va p) 61 (.agg [.raw (.map (some u))]) ∧ τ 1000001 = .hm (.map (some u)) 9 (mapE E) X
def L7J (E : List Ent) (p u : Nat) (k : Nat) (τ : St) : Prop := ∃ X, τ 5 = .d (.raw (va p)) ∧ τ 8 = .own true 44 (E.map entD) ∧ τ 9 = .d (.int .i64 k) ∧
  τ 1000000 = .hb (va p) 61 (.agg [.raw (.map (some u))]) ∧ τ 1000001 = .hm (.map (some u)) 9 (mapE E) X
def sumK (E : List Ent) (S : List Str) : Nat := (S.map fun c => (subtreeE E c).length).sum
def L7K (E : List Ent) (p u j : Nat) (S : List Ent) (C : List Str) (k : Nat) (τ : St) : Prop := ∃ X, τ 5 = .d (.raw (va p)) ∧ τ 8 = .own true 44 (E.map entD) ∧ τ 9 = .d (.int .i64 j) ∧
  τ 10 = .own true 44 (S.map entD) ∧ τ 11 = .own true 9 (C.map .str) ∧ τ 12 = .d (.int .i64 ((1 : Int) + (sumK E (C.take k) : Nat))) ∧ τ 13 = .d (.int .i64 k) ∧
  τ 1000000 = .hb (va p) 61 (.agg [.raw (.map (some u))]) ∧ τ 1000001 = .hm (.map (some u)) 9 (mapE E) X
def L7L (E : List Ent) (p u j : Nat) (S : List Ent) (k : Nat) (τ : St) : Prop := ∃ X, τ 5 = .d (.raw (va p)) ∧ τ 8 = .own true 44 (E.map entD) ∧ τ 9 = .d (.int .i64 j) ∧
  τ 10 = .own true 44 (S.map entD) ∧ τ 16 = .d (.int .i64 k) ∧
  τ 1000000 = .hb (va p) 61 (.agg [.raw (.map (some u))]) ∧ τ 1000001 = .hm (.map (some u)) 9 (mapE E) X
theorem sumK_take {E : List Ent} {C : List Str} {k : Nat} (hk : k < C.length) : sumK E (C.take (k + 1)) = sumK E (C.take k) + (subtreeE E C[k]).length := by
  unfold sumK
  rw [take_s hk, List.map_append, List.sum_append]; simp [-List.map_take]
theorem sumK_take_le {E : List Ent} (h : TI E) (C : List Str) (k : Nat) : sumK E (C.take k) ≤ k * 256 := by
  induction k with
  | zero => simp [sumK]
  | succ k ih =>
    by_cases hk : k < C.length
    · rw [sumK_take hk]
      have : (subtreeE E C[k]).length ≤ 256 := by
        unfold subtreeE
        split
        · simp
        · exact sub_len h _
      omega
    · rw [List.take_of_length_le (by omega)]
      rw [List.take_of_length_le (by omega)] at ih
      omega
theorem kid_in {E : List Ent} {s c : Str} (h : c ∈ kidsE E s) : hasE E c = true ∧ parentU c = (s, true) := by
  have := kids_mem.1 h
  exact ⟨hasE_iff.2 this.1, this.2⟩
theorem sub_has {E : List Ent} {c : Str} (h : hasE E c = true) : subtreeE E c = subE E c := by simp [subtreeE, h]
theorem sumK_kids {E : List Ent} (h : TI E) {x : Str} (hx : x ∈ keysE E) : (subE E x).length = 1 + sumK E (kidsE E x) := by
  rw [subs_count h hx]
  unfold sumK
  congr 2
  refine List.map_congr_left fun c hc => ?_
  rw [sub_has (kid_in hc).1]
theorem TI.subne {E : List Ent} (h : TI E) {e : Ent} (he : e ∈ E) : e.1 ≠ [] := fun q => by
  have := h.proper e he
  rw [q] at this
  simp [properU] at this
theorem law7T_fn (R : List Str) (l : List TOp) : Ctr Tryz.prog 7 [.d (strs R), .d (topsD l)] (.d (.bool true)) := by
  refine fn_of_vwp (fun i => i == 5000024 || i == 5000050 || i == 5000056 || i == 5000069 || i == 5000076 || i == 5000089) (by kernel_rfl) Tryz.func7 (by kernel_rfl) rfl rfl (Nat.le_of_ble_eq_true rfl) (by kernel_rfl) rfl rfl ?_
  have c1 := lightT_fn R l
  have cA := awakeT_fn
  simp only [strs, topsD] at c1
  cases hL : lightB R l with
  | false =>
    rw [hL] at c1
    simp -implicitDefEqProofs [strs, topsD]
    refine callK c1 ?_
    simp -implicitDefEqProofs
    refine callK cA ?_
    simp -implicitDefEqProofs
  | true =>
  rw [hL] at c1
  obtain ⟨hR, hR6, hl24, hfit⟩ := light_R hL
  have c2 := tnew_fn R hR
  simp only [strs] at c2
  have hnew := @new_ok R
  have hroot := @new_roots R
  generalize newE R = V at *
  obtain ⟨E0, er⟩ := V
  simp only at hnew hroot
  by_cases h0 : er = 0
  case neg =>
    simp -implicitDefEqProofs [strs, topsD]
    refine callK c1 ?_
    simp -implicitDefEqProofs
    refine givB [] 1000000 c2 (by simp) rfl (by simp) ?_
    rintro r hs' (⟨_, rfl, rfl⟩ | ⟨h, _⟩)
    case inr => exact absurd h h0
    simp -implicitDefEqProofs [takeH, putH, h0]
    refine callK cA ?_
    simp -implicitDefEqProofs
  subst h0
  obtain ⟨hT0, hF0, _, _⟩ := hnew rfl
  obtain ⟨hr0, hnd⟩ := hroot rfl
  simp -implicitDefEqProofs [strs, topsD]
  refine callK c1 ?_
  simp -implicitDefEqProofs
  refine givB [] 1000000 c2 (by simp) rfl (by simp) ?_
  rintro r hs' (⟨h, _⟩ | ⟨_, p, u, rfl, rfl⟩)
  · exact absurd rfl h
  simp -implicitDefEqProofs [takeH, putH, tr]
  refine loopN l.length (L7I R l) ⟨E0, p, u, none, hT0, hF0, hr0, by simp [strs], by simp [topsD], by simp, by simp, by simp, by simp⟩ ?_
  clear c1 c2 hnew
  rintro k τ hk ⟨E, p, u, X, hT, hF, hr, g0, g1, g5, g7, gA, gB⟩
  by_cases hlt : k < l.length
  · have hlt' : (k : Int) < l.length := by omega
    have hx := hfit _ (List.getElem_mem hlt)
    have c4 := fun X => tdo_fn p u E X hT l[k] hx
    have hT2 := hT.act l[k]
    have hF2 := hF.act hx
    have hr2 := hr.act hT l[k]
    have hn := hx.1
    have hto := hx.2.1
    generalize hxe : l[k] = x at *
    generalize hV : doE E x = V at *
    obtain ⟨E2, er⟩ := V
    obtain ⟨c, n, to, a⟩ := x
    simp only at hT2 hF2 hr2 hn hto
    have htd : topD (c, n, to, a) = .agg [.int .i64 c, .str n, .str to, .sl (a.map att)] := rfl
    rw [htd] at c4
    simp -implicitDefEqProofs [g0, g1, g5, g7, gA, gB, topsD, hlt, hlt', hxe, htd, takeH, putH, tr]
    repeat refine And.intro (by first | omega | rfl) ?_
    refine givB [1000000, 1000001] 1000000 (c4 X) (by simp [gA, gB, tr]) rfl (by simp) ?_
    rintro r hs' ⟨p', u', rfl, X', rfl⟩
    simp -implicitDefEqProofs [g0, g1, g5, g7, gA, gB, topsD, hlt, hlt', hxe, htd, takeH, putH, tr]
    repeat refine And.intro (by first | omega | rfl) ?_
    exact again hlt ⟨E2, p', u', X', hT2, hF2, hr2, by simp [g0, strs], by simp [g1, topsD], by simp, by simp, by simp, by simp⟩
  have hlt' : ¬ (k : Int) < l.length := by omega
  have c3 := tsubtree_fn p u E X hT hF [] (by simp)
  rw [sub_all] at c3
  have hfew := hT.few
  simp -implicitDefEqProofs [g0, g1, g5, g7, gA, gB, topsD, hlt, hlt']
  refine givB [1000000, 1000001] 1000000 c3 (by simp [gA, gB, tr]) rfl (by simp) ?_
  rintro r hs' ⟨rfl, X1, rfl⟩
  simp -implicitDefEqProofs [g0, g1, g5, g7, topsD, hlt, hlt', takeH, putH, tr]
  refine loopN E.length (L7J E p u) ⟨X1, by simp [g5], by simp, by simp, by simp, by simp⟩ ?_
  clear g0 g1 g5 g7 gA gB hlt hlt' hk c3
  rintro j ρ hj ⟨X2, g5, g8, g9, gA, gB⟩
  by_cases hlt : j < E.length
  · have hlt' : (j : Int) < E.length := by omega
    have hm := List.getElem_mem hlt
    have hf := hF _ hm
    have hky : E[j].1 ∈ keysE E := List.mem_map.2 ⟨_, hm, rfl⟩
    have hl := hT.klen hky
    have hkin := kids_in hm
    have hsin := sub_in hm
    have hsum := sumK_kids hT hky
    obtain ⟨rest, hrest⟩ := sub_first hT hm
    have hne := hT.subne hm
    generalize hxe : E[j] = e at *
    obtain ⟨a, b⟩ := e
    simp only at hf hky hl hkin hsin hsum hrest hne
    have c5 := fun X => tsubtree_fn p u E X hT hF a hl
    have c6 := fun X => tchildren_fn p u E X hT a
    rw [hsin] at c5
    rw [hkin] at c6
    have c9 := sameE_fn (a, b) (a, b) hf.1 hf.1
    simp only [decide_true, ent_str, atts] at c9
    have hC : ∀ c ∈ kidsE E a, hasE E c = true ∧ parentU c = (a, true) ∧ List.length c < 900000 := fun c hc => ⟨(kid_in hc).1, (kid_in hc).2, hT.klen (kids_mem.1 hc).1⟩
    have hS : ∀ s ∈ subE E a, underU s.1 a = true ∧ List.length s.1 < 900000 := fun s hs => by
      have := (mem_subE hne).1 hs
      exact ⟨this.2, hT.klen (List.mem_map.2 ⟨_, this.1, rfl⟩)⟩
    have hClen : (kidsE E a).length ≤ 256 := Nat.le_trans (List.length_filter_le _ _) (by simp [keysE]; omega)
    have hSlen := sub_len hT a
    generalize hCe : kidsE E a = C at *
    generalize hSe : subE E a = S at *
    simp -implicitDefEqProofs [g5, g8, g9, gA, gB, hlt, hlt', hxe, ent_str, atts, takeH, putH, tr]
    repeat refine And.intro (by first | omega | rfl) ?_
    refine givB [1000000, 1000001] 1000000 (c5 X2) (by simp [gA, gB, tr]) rfl (by simp) ?_
    rintro r hs' ⟨rfl, X3, rfl⟩
    simp -implicitDefEqProofs [g5, g8, g9, gA, gB, hlt, hlt', hxe, ent_str, atts, takeH, putH, tr]
    repeat refine And.intro (by first | omega | rfl) ?_
    refine givB [1000000, 1000001] 1000000 (c6 X3) (by simp [tr]) rfl (by simp) ?_
    rintro r hs' ⟨rfl, X4, rfl⟩
    simp -implicitDefEqProofs [g5, g8, g9, gA, gB, hlt, hlt', hxe, ent_str, atts, takeH, putH, tr]
    repeat refine And.intro (by first | omega | rfl) ?_
    refine loopN C.length (L7K E p u j S C) ⟨X4, by simp [g5], by simp [g8], by simp [g9], by simp, by simp, by simp [sumK], by simp, by simp, by simp⟩ ?_
    have hlj := hlt
    have hlj' := hlt'
    clear g5 g8 g9 gA gB
    rintro i ρ hi ⟨X5, g5, g8, g9, g10, g11, g12, g13, gA, gB⟩
    by_cases hlt : i < C.length
    · have hlt' : (i : Int) < C.length := by omega
      obtain ⟨k1, k2, k3⟩ := hC _ (List.getElem_mem hlt)
      have hst := @sumK_take E C i hlt
      have hle := sumK_take_le hT C i
      have hle2 := sumK_take_le hT C (i + 1)
      generalize hye : C[i] = c at *
      have c7 := fun X => tsubtree_fn p u E X hT hF c k3
      have c8 := nparentR_fn c k3
      rw [k2] at c8
      generalize hZ : subtreeE E c = Z at *
      have hz : (1 : Int) + (sumK E (C.take i) : Nat) + (Z.length : Int) = 1 + (sumK E (C.take (i + 1)) : Nat) := by omega
      simp -implicitDefEqProofs [g5, g8, g9, g10, g11, g12, g13, gA, gB, hlt, hlt', hxe, ent_str, atts, takeH, putH, tr, hye, hlj, hlj']
      repeat refine And.intro (by first | omega | rfl) ?_
      refine givB [1000000, 1000001] 1000000 (c7 X5) (by simp [gA, gB, tr]) rfl (by simp) ?_
      rintro r hs' ⟨rfl, X6, rfl⟩
      simp -implicitDefEqProofs [g5, g8, g9, g10, g11, g12, g13, gA, gB, hlt, hlt', hxe, ent_str, atts, takeH, putH, tr, hye, hlj, hlj']
      repeat refine And.intro (by first | omega | rfl) ?_
      refine callK c8 ?_
      simp -implicitDefEqProofs [g5, g8, g9, g10, g11, g12, g13, gA, gB, hlt, hlt', hxe, ent_str, atts, takeH, putH, tr, hye, hlj, hlj']
      repeat refine And.intro (by first | omega | rfl) ?_
      exact again hlt ⟨X6, by simp [g5], by simp [g8], by simp [g9], by simp [g10], by simp [g11], by simp [g12, ← hz], by simp [g13], by simp, by simp⟩
    · have hlt' : ¬ (i : Int) < C.length := by omega
      have hCi : C.take i = C := List.take_of_length_le (by omega)
      rw [hCi] at g12
      have hcnt : (S.length : Int) = 1 + (sumK E C : Nat) := by omega
      have hS0 : S[0]? = some (a, b) := by rw [hrest]; rfl
      have hSpos : 0 < S.length := by rw [hrest]; simp
      have hSpos' : (0 : Int) < S.length := by omega
      have hS00 : S[0]'hSpos = (a, b) := (List.getElem?_eq_some_iff.1 hS0).2
      simp -implicitDefEqProofs [g5, g8, g9, g10, g11, g12, g13, gA, gB, hlt, hlt', hxe, ent_str, atts, takeH, putH, tr, hlj, hlj', hcnt, hS0, hSpos, hSpos', hS00]
      repeat refine And.intro (by first | omega | rfl) ?_
      refine callP c9 ?_
      simp -implicitDefEqProofs [g5, g8, g9, g10, g11, g12, g13, gA, gB, hlt, hlt', hxe, ent_str, atts, takeH, putH, tr, hlj, hlj', hcnt, hS0, hSpos, hSpos', hS00]
      repeat refine And.intro (by first | omega | rfl) ?_
      refine loopN S.length (L7L E p u j S) ⟨X5, by simp [g5], by simp [g8], by simp [g9], by simp [g10], by simp, by simp [gA], by simp [gB]⟩ ?_
      clear g5 g8 g9 g10 g11 g12 g13 gA gB
      rintro m ρ hm' ⟨X6, g5, g8, g9, g10, g16, gA, gB⟩
      by_cases hlt : m < S.length
      · have hlt' : (m : Int) < S.length := by omega
        obtain ⟨k1, k2⟩ := hS _ (List.getElem_mem hlt)
        generalize hye : S[m] = s at *
        obtain ⟨sa, sb⟩ := s
        simp only at k1 k2
        have c10 := nunderR_fn sa a k2 hl
        rw [k1] at c10
        simp -implicitDefEqProofs [g5, g8, g9, g10, g16, gA, gB, hlj, hlj', hlt, hlt', hxe, hye, ent_str, atts, takeH, putH, tr]
        repeat refine And.intro (by first | omega | rfl) ?_
        refine callP c10 ?_
        simp -implicitDefEqProofs [g5, g8, g9, g10, g16, gA, gB, hlj, hlj', hlt, hlt', hxe, hye, ent_str, atts, takeH, putH, tr]
        repeat refine And.intro (by first | omega | rfl) ?_
        exact again hlt ⟨X6, by simp [g5], by simp [g8], by simp [g9], by simp [g10], by simp [g16], by simp [gA], by simp [gB]⟩
      · have hlt' : ¬ (m : Int) < S.length := by omega
        simp -implicitDefEqProofs [g5, g8, g9, g10, g16, gA, gB, hlj, hlj', hlt, hlt']
        repeat refine And.intro (by first | omega | rfl) ?_
        exact again hlj ⟨X6, by simp [g5], by simp [g8], by simp [g9], by simp [gA], by simp [gB]⟩
  · have hlt' : ¬ (j : Int) < E.length := by omega
    simp -implicitDefEqProofs [g5, g8, g9, gA, gB, hlt, hlt']
    refine callK cA ?_
    simp -implicitDefEqProofs
end Go.Proofs.Tz

/- The statements about trees: the statements' own form. -/
set_option linter.unusedVariables false
namespace Go.Proofs.Tz
open Go.Vw Go.RowKit Go.Proofs

theorem fits_top {d : D} (h : Sh.Fits (.agg [.int .i64, .str, .str, .sl (.agg [.str, .sl .str])]) d) : ∃ x : TOp, d = topD x := by
  simp only [Sh.Fits, Sh.FitsL] at h
  obtain ⟨ds, rfl, w, ws, rfl, ⟨i, rfl, _⟩, x, xs, rfl, ⟨s, rfl, _⟩, y, ys, rfl, ⟨t, rfl, _⟩, z, zs, rfl, hz, rfl⟩ := h
  obtain ⟨vs, rfl⟩ := fits_atts (by simpa only [Sh.Fits, Sh.FitsL] using hz)
  exact ⟨(i, s, t, vs), rfl⟩
theorem fits_tops {d : D} (h : Sh.Fits (.sl (.agg [.int .i64, .str, .str, .sl (.agg [.str, .sl .str])])) d) : ∃ l : List TOp, d = topsD l := fits_list _ (fun _ h => fits_top h) h

theorem TreePlays_ok (r : List Str) (l : List TOp) (hb : D.lims 140737488351232 [strs r, topsD l]) : Ctr Tryz.prog 3 [.d (strs r), .d (topsD l)] (.d (.bool true)) := law3T_fn r l
theorem TreeConnected_ok (r : List Str) (l : List TOp) (hb : D.lims 140737488351232 [strs r, topsD l]) : Ctr Tryz.prog 4 [.d (strs r), .d (topsD l)] (.d (.bool true)) := law4T_fn r l
theorem TreeNothing_ok (r : List Str) (l : List TOp) (hb : D.lims 140737488351232 [strs r, topsD l]) : Ctr Tryz.prog 5 [.d (strs r), .d (topsD l)] (.d (.bool true)) := law5T_fn r l
theorem TreeSubtrees_ok (r : List Str) (l : List TOp) (hb : D.lims 140737488351232 [strs r, topsD l]) : Ctr Tryz.prog 7 [.d (strs r), .d (topsD l)] (.d (.bool true)) := law7T_fn r l
theorem TreeNil_ok (x : TOp) (hb : D.lims 140737488351232 [topD x]) : Ctr Tryz.prog 8 [.d (topD x)] (.d (.bool true)) := law8T_fn x
end Go.Proofs.Tz
