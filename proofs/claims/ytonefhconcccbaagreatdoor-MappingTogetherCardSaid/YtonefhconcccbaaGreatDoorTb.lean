/-
  What the functions that the statements about layer 47 (mapping) reach compute, part 2 of 2: contracts and plain laws, for lists and strings of bounded size (each theorem states its bound).
-/
import Derived.Test.YtonefhconcccbaaGreatDoorTa
import Derived.Shelf.SlSortCmp.WholeK
import Derived.Shelf.SlSortCmp.NoneTotal
import Derived.Shelf.SlicesG.Cmp
import Derived.Shelf.SlicesG.CompactS
import Derived.Shelf.SlicesG.Delete
import Derived.Shelf.SortM.Plain
import Derived.Shelf.SortM.SortNone
import Derived.Shelf.SlGeneric
import Derived.Ground.SlgmProg
import Derived.Ground.SlgnProg
import Derived.Ground.SlsfProg
import Derived.Test.YtonefhconcccbaaGreatDoorProg
import Derived.Test.YtonefhconcccbaaGreatDoorWb
import Derived.WalkKit
import Derived.Lib.RowBridge
import Derived.Test.YtonefhconcccbaaGreatDoorWc

set_option linter.unusedSimpArgs false
set_option linter.unusedVariables false

/- Rules: what a form computes, in both. -/

set_option maxRecDepth 100000
set_option maxHeartbeats 4000000
set_option linter.unusedVariables false
set_option linter.unusedSimpArgs false
namespace Go.Proofs.Tz
open Go.Vw Go.RowKit Go.Proofs

/-- What a form computes of the source values. -/
def compF (n v : Str) (vs : List Str) : List Str :=
  if n = nLower then vs.map lower else if n = nFirst then vs.take 1 else if n = nConst then [v] else if n = nJoin then (if vs = [] then [] else [Go.Lib.join vs v])
  else if n = nPrefix then vs.map (v ++ ·) else vs

def GoodV (vs : List Str) : Prop := vs.length ≤ 200 ∧ ∀ v ∈ vs, List.length v ≤ 300

def eachD (f : Str → Str) (l : List Str) (k : Nat) : List D := ((l.take k).map f).map .str
theorem eachD_zero (f : Str → Str) (l : List Str) : eachD f l 0 = [] := rfl
theorem eachD_succ (f : Str → Str) {l : List Str} {k : Nat} (h : k < l.length) : eachD f l (k + 1) = eachD f l k ++ [.str (f l[k])] := by rw [eachD, eachD, take_s h, List.map_append, List.map_append]; rfl
theorem eachD_len (f : Str → Str) {l : List Str} {k : Nat} (h : k ≤ l.length) : (eachD f l k).length = k := by simp [eachD]; omega
theorem eachD_w (f : Str → Str) (l : List Str) (k : Nat) : ∀ u ∈ eachD f l k, width u = 1 := by
  intro u hu
  obtain ⟨x, _, rfl⟩ := List.mem_map.1 hu
  rfl
theorem eachD_all (f : Str → Str) (l : List Str) {k : Nat} (h : l.length ≤ k) : eachD f l k = (l.map f).map .str := by rw [eachD, List.take_of_length_le h]

/-- each: the function's own contract is a premise. -/
theorem each_fn (g : FuncId) (cs : List D) (hcs : (cs.all fun c => !c.isAgg) = true) (f : Str → Str) (l : List Str) (hl : l.length < 1000000) (hf : ∀ s ∈ l, Ctr Tryz.prog g ([.d (.str s)] ++ cs.map .d) (.d (.str (f s)))) :
    Ctr Tryz.prog 96 [.d (strs l), .d (.clo g cs)] (.d (strs (l.map f))) := by
  refine fn_of_vwp (fun _ => false) (by kernel_rfl) Tryz.func96 (by kernel_rfl) rfl rfl (Nat.le_of_ble_eq_true rfl) (by kernel_rfl) rfl rfl ?_
  simp -implicitDefEqProofs [strs]
  refine loopN l.length (fun k τ => τ 8 = .d (.sl (l.map .str)) ∧ τ 9 = .d (.int .i64 l.length) ∧ τ 10 = .d (.int .i64 k) ∧ τ 1 = .d (.clo g cs) ∧ τ 5 = .own false 9 (eachD f l k)) (by simp [eachD_zero]) ?_
  rintro k τ hk ⟨h8, h9, h10, h1, h5⟩
  by_cases hlt : k < l.length
  · have hlt' : (k : Int) < l.length := by omega
    have e1 := eachD_succ f hlt
    have e2 := eachD_len f hk
    have hc := hf l[k] (List.getElem_mem hlt)
    generalize hr : l[k] = r at *
    simp -implicitDefEqProofs [h8, h9, h10, h1, h5, hlt, hlt', hr]
    refine ⟨by simpa using hcs, callK hc ?_⟩
    simp -implicitDefEqProofs [h8, h9, h10, h1, h5, hlt, hlt', hr, e2]
    repeat refine And.intro (by omega) ?_
    refine again hlt ⟨by simp [h8], by simp [h9], by simp, by simp [h1], by simp [e1]⟩
  · rw [eachD_all f l (by omega)] at h5
    have hlt' : ¬ (k : Int) < l.length := by omega
    simp -implicitDefEqProofs [h8, h9, h10, h1, h5, hlt, hlt', strs]

theorem prefixQ_fn (s v : Str) (hs : List.length s < 1000000) (hv : List.length v < 1000000) : Ctr Tryz.prog 100 [.d (.str s), .d (.ref (.str v))] (.d (.str (v ++ s))) := by
  refine fn_of_vwp (fun _ => false) (by kernel_rfl) Tryz.func100 (by kernel_rfl) rfl rfl (Nat.le_of_ble_eq_true rfl) (by kernel_rfl) rfl rfl ?_
  simp -implicitDefEqProofs
  omega

/-- The length of what is joined. -/
theorem join_len : ∀ (vs : List Str) (v : Str) (m : Nat), (∀ x ∈ vs, List.length x ≤ m) → (Go.Lib.join vs v).length ≤ vs.length * (m + List.length v)
  | [], v, m, _ => by simp [Go.Lib.join]
  | [x], v, m, h => by have := h x (by simp); simp [Go.Lib.join]; omega
  | x :: y :: vs, v, m, h => by
    have h1 := h x (by simp)
    have ih := join_len (y :: vs) v m (fun z hz => h z (by simp [hz]))
    have e0 : Go.Lib.join (x :: y :: vs) v = x ++ (v ++ Go.Lib.join (y :: vs) v) := by simp [Go.Lib.join, List.intercalate]
    rw [e0]
    simp only [List.length_append, List.length_cons] at ih ⊢
    have e : (vs.length + 1 + 1) * (m + List.length v) = (vs.length + 1) * (m + List.length v) + (m + List.length v) := by rw [Nat.add_mul _ 1, Nat.one_mul]
    omega

theorem compute_fn (f : Form) (hf : f ∈ formsL) (v : Str) (vs : List Str) (hv : List.length v ≤ 400) (hs : GoodV vs) : Ctr Tryz.prog f.2.2 [.d (strs vs), .d (.str v)] (.d (strs (compF f.1 v vs))) := by
  have hl : vs.length < 1000000 := by have := hs.1; omega
  simp only [formsL, List.mem_cons, List.not_mem_nil, or_false] at hf
  rcases hf with rfl | rfl | rfl | rfl | rfl | rfl
  · refine fn_of_vwp (fun _ => false) (by kernel_rfl) Tryz.func94 (by kernel_rfl) rfl rfl (Nat.le_of_ble_eq_true rfl) (by kernel_rfl) rfl rfl ?_
    simp -implicitDefEqProofs [strs, compF]
  · refine fn_of_vwp (fun _ => false) (by kernel_rfl) Tryz.func95 (by kernel_rfl) rfl rfl (Nat.le_of_ble_eq_true rfl) (by kernel_rfl) rfl rfl ?_
    have he := each_fn 43 [] rfl lower vs hl (fun s hm => foldLower_fn s (by have := hs.2 s hm; omega))
    simp only [strs] at he
    simp -implicitDefEqProofs [strs]
    refine callK he ?_
    simp -implicitDefEqProofs [strs, compF]
  · refine fn_of_vwp (fun _ => false) (by kernel_rfl) Tryz.func97 (by kernel_rfl) rfl rfl (Nat.le_of_ble_eq_true rfl) (by kernel_rfl) rfl rfl ?_
    by_cases h1 : 1 < (vs.length : Int)
    · simp -implicitDefEqProofs [strs, compF, h1]
      omega
    · have h2 : vs.take 1 = vs := List.take_of_length_le (by omega)
      have h3 : List.take vs.length (vs.map D.str) = vs.map D.str := List.take_of_length_le (by simp)
      simp -implicitDefEqProofs [strs, compF, h1, h2, h3]
  · refine fn_of_vwp (fun _ => false) (by kernel_rfl) Tryz.func98 (by kernel_rfl) rfl rfl (Nat.le_of_ble_eq_true rfl) (by kernel_rfl) rfl rfl ?_
    simp -implicitDefEqProofs [strs, compF]
  · refine fn_of_vwp (fun _ => false) (by kernel_rfl) Tryz.func92 (by kernel_rfl) rfl rfl (Nat.le_of_ble_eq_true rfl) (by kernel_rfl) rfl rfl ?_
    by_cases h0 : vs = []
    · subst h0
      simp -implicitDefEqProofs [strs, compF]
    · have hj := join_fn vs v hl (by
        have h1 := join_len vs v 300 hs.2
        have h2 := hs.1
        have : vs.length * (300 + List.length v) ≤ 200 * 700 := Nat.mul_le_mul h2 (by omega)
        omega)
      have hlz : ¬ vs.length = 0 := by simpa using h0
      simp only [strs] at hj
      simp -implicitDefEqProofs [strs, h0]
      refine callK hj ?_
      simp -implicitDefEqProofs [strs, compF, h0]
  · refine fn_of_vwp (fun _ => false) (by kernel_rfl) Tryz.func99 (by kernel_rfl) rfl rfl (Nat.le_of_ble_eq_true rfl) (by kernel_rfl) rfl rfl ?_
    have he := each_fn 100 [.ref (.str v)] rfl (v ++ ·) vs hl (fun s hm => prefixQ_fn s v (by have := hs.2 s hm; omega) (by omega))
    simp only [strs] at he
    simp -implicitDefEqProofs [strs]
    refine callK he ?_
    simp -implicitDefEqProofs [strs, compF]
end Go.Proofs.Tz

/- Rules: the reference's computed; what rules compute. -/
set_option maxRecDepth 100000
set_option maxHeartbeats 4000000
set_option linter.unusedVariables false
set_option linter.unusedSimpArgs false
namespace Go.Proofs.Tz
open Go.Vw Go.RowKit Go.Proofs

theorem join_snoc (v x : Str) : ∀ (l : List Str), Go.Lib.join (l ++ [x]) v = if l = [] then x else Go.Lib.join l v ++ (v ++ x)
  | [] => by simp [Go.Lib.join, List.intercalate]
  | [y] => by simp [Go.Lib.join, List.intercalate]
  | y :: z :: l => by
    have e0 : ∀ m, Go.Lib.join (y :: z :: m) v = y ++ (v ++ Go.Lib.join (z :: m) v) := fun m => by simp [Go.Lib.join, List.intercalate]
    have ih := join_snoc v x (z :: l)
    rw [if_neg (by simp)] at ih ⊢
    rw [List.cons_append, List.cons_append, e0, e0, ← List.cons_append, ih]
    simp

/-- The step of the reference's loop. -/
def stepF (n v x : Str) : Str := if n = nLower then lower x else if n = nPrefix then v ++ x else x
def joinT (v : Str) (vs : List Str) (k : Nat) : Str := Go.Lib.join (vs.take k) v
theorem joinT_zero (v : Str) (vs : List Str) : joinT v vs 0 = [] := rfl
theorem joinT_one (v : Str) {vs : List Str} (h : 0 < vs.length) : joinT v vs 1 = vs[0] := by
  have := take_s h
  rw [joinT, show (1 : Nat) = 0 + 1 from rfl, this]
  simp [Go.Lib.join, List.intercalate]
theorem joinT_succ (v : Str) {vs : List Str} {k : Nat} (h : k < vs.length) (h0 : 0 < k) : joinT v vs (k + 1) = joinT v vs k ++ (v ++ vs[k]) := by
  rw [joinT, joinT, take_s h, join_snoc, if_neg]
  intro e
  have := congrArg List.length e
  rw [List.length_take, List.length_nil] at this
  omega
theorem joinT_len (v : Str) {vs : List Str} (hs : GoodV vs) (hv : List.length v ≤ 400) (k : Nat) : (joinT v vs k).length ≤ 140000 := by
  have h1 := join_len (vs.take k) v 300 (fun x hx => hs.2 x (List.mem_of_mem_take hx))
  have h2 := hs.1
  have : (vs.take k).length * (300 + List.length v) ≤ 200 * 700 := Nat.mul_le_mul (by rw [List.length_take]; omega) (by omega)
  exact Nat.le_trans h1 (by omega)
theorem joinT_all (v : Str) (vs : List Str) {k : Nat} (h : vs.length ≤ k) : joinT v vs k = Go.Lib.join vs v := by rw [joinT, List.take_of_length_le h]

def ComputedI (n v : Str) (vs : List Str) (k : Nat) (τ : St) : Prop := τ 5 = .d (.str n) ∧ τ 6 = .d (.str v) ∧ τ 8 = .d (strs vs) ∧ τ 11 = .d (.int .i64 k) ∧ τ 9 = .own false 9 (eachD (stepF n v) vs k) ∧ τ 10 = .d (.str (joinT v vs k))

theorem form_find {s : Str} {f : Form} {v : Str} (h : parsedF s = some (f, v)) : f ∈ formsL ∧ List.length v ≤ List.length s := by
  unfold parsedF at h
  obtain ⟨g, hg, he⟩ := Option.map_eq_some_iff.1 h
  simp only [Prod.mk.injEq] at he
  obtain ⟨rfl, rfl⟩ := he
  refine ⟨List.mem_of_find?_eq_some hg, ?_⟩
  unfold cutB
  split
  · simp
  · simp

theorem computed_fn (r : Rule) (a : List Att) (ha : Fit2 a) (h2 : List.length r.2.1 < 1000000) (h3 : List.length r.2.2 ≤ 400) {f : Form} {v : Str} (hp : parsedF r.2.2 = some (f, v)) (hg : GoodV (getL a r.2.1)) :
    Ctr Tryz.prog 48 [.d (ruleD r), .d (atts a)] (.d (strs (compF f.1 v (getL a r.2.1)))) := by
  obtain ⟨T, S, F⟩ := r
  simp only at h2 h3 hp hg
  have hfe := formR_eq F
  rw [hp] at hfe
  simp only at hfe
  obtain ⟨hfm, hvl⟩ := form_find hp
  have hv : List.length v ≤ 400 := by omega
  have hnames : f.1 = nConst ∨ f.1 = nLower ∨ f.1 = nFirst ∨ f.1 = nJoin ∨ f.1 = nPrefix ∨ f.1 = nCopy := by
    simp only [formsL, List.mem_cons, List.not_mem_nil, or_false] at hfm
    rcases hfm with rfl | rfl | rfl | rfl | rfl | rfl <;> simp
  generalize f.1 = n at *
  refine fn_of_vwp (fun _ => false) (by kernel_rfl) Tryz.func48 (by kernel_rfl) rfl rfl (Nat.le_of_ble_eq_true rfl) (by kernel_rfl) rfl rfl ?_
  simp -implicitDefEqProofs [ruleD]
  refine callK (form_fn F (by omega)) ?_
  by_cases c1 : n = nConst
  · subst c1
    simp -implicitDefEqProofs [hfe]
    simp [compF, strs]
  simp -implicitDefEqProofs [hfe, c1]
  refine callK (getR_fn a S ha h2) ?_
  generalize getL a S = vs at *
  have hvl2 := hg.1
  simp -implicitDefEqProofs
  refine loopN vs.length (ComputedI n v vs) ?_ ?_
  · simp [ComputedI, eachD_zero, joinT_zero]
  rintro k τ hk ⟨h5, h6, h8, h11, h9, h10⟩
  have hjl := joinT_len v hg hv k
  have hel := eachD_len (stepF n v) hk
  by_cases hlt : k < vs.length
  · have hlt' : (k : Int) < vs.length := by omega
    have e1 := eachD_succ (stepF n v) hlt
    have hxl := hg.2 vs[k] (List.getElem_mem hlt)
    have hj0 : k = 0 → joinT v vs (k + 1) = joinT v vs k ++ vs[k] := fun h => by subst h; rw [joinT_one v hlt, joinT_zero]; rfl
    have hj1 : 0 < k → joinT v vs (k + 1) = joinT v vs k ++ (v ++ vs[k]) := fun h => joinT_succ v hlt h
    generalize hx : vs[k] = x at *
    by_cases c2 : n = nLower
    · subst c2
      have e2 : eachD (stepF nLower v) vs (k + 1) = eachD (stepF nLower v) vs k ++ [.str (lower x)] := by rw [e1]; simp [stepF]
      simp -implicitDefEqProofs [h5, h6, h8, h11, h9, h10, hlt, hlt', strs, hx]
      refine callK (lower_fn x (by omega)) ?_
      by_cases k0 : k = 0
      · have k0' : ¬ (0 : Int) < k := by omega
        have k0'' : ¬ 0 < k := by omega
        simp -implicitDefEqProofs [h5, h6, h8, h11, h9, h10, hlt, hlt', strs, hx, hel, k0', k0'']
        repeat refine And.intro (by omega) ?_
        refine again hlt ⟨by simp [h5], by simp [h6], by simp [h8, strs], by simp, by simp [e2], by simp [hj0 k0]⟩
      · have k0' : (0 : Int) < k := by omega
        have k0'' : 0 < k := by omega
        simp -implicitDefEqProofs [h5, h6, h8, h11, h9, h10, hlt, hlt', strs, hx, hel, k0', k0'']
        repeat refine And.intro (by omega) ?_
        refine again hlt ⟨by simp [h5], by simp [h6], by simp [h8, strs], by simp, by simp [e2], by simp [hj1 k0'']⟩
    by_cases c3 : n = nPrefix
    · subst c3
      have e2 : eachD (stepF nPrefix v) vs (k + 1) = eachD (stepF nPrefix v) vs k ++ [.str (v ++ x)] := by rw [e1]; simp [stepF]
      by_cases k0 : k = 0
      · have k0' : ¬ (0 : Int) < k := by omega
        have k0'' : ¬ 0 < k := by omega
        simp -implicitDefEqProofs [h5, h6, h8, h11, h9, h10, hlt, hlt', strs, hx, hel, k0', k0'']
        repeat refine And.intro (by omega) ?_
        refine again hlt ⟨by simp [h5], by simp [h6], by simp [h8, strs], by simp, by simp [e2], by simp [hj0 k0]⟩
      · have k0' : (0 : Int) < k := by omega
        have k0'' : 0 < k := by omega
        simp -implicitDefEqProofs [h5, h6, h8, h11, h9, h10, hlt, hlt', strs, hx, hel, k0', k0'']
        repeat refine And.intro (by omega) ?_
        refine again hlt ⟨by simp [h5], by simp [h6], by simp [h8, strs], by simp, by simp [e2], by simp [hj1 k0'']⟩
    · have e2 : eachD (stepF n v) vs (k + 1) = eachD (stepF n v) vs k ++ [.str x] := by rw [e1]; simp [stepF, c2, c3]
      by_cases k0 : k = 0
      · have k0' : ¬ (0 : Int) < k := by omega
        have k0'' : ¬ 0 < k := by omega
        simp -implicitDefEqProofs [h5, h6, h8, h11, h9, h10, hlt, hlt', strs, hx, hel, k0', k0'', c2, c3]
        repeat refine And.intro (by omega) ?_
        refine again hlt ⟨by simp [h5], by simp [h6], by simp [h8, strs], by simp, by simp [e2], by simp [hj0 k0]⟩
      · have k0' : (0 : Int) < k := by omega
        have k0'' : 0 < k := by omega
        simp -implicitDefEqProofs [h5, h6, h8, h11, h9, h10, hlt, hlt', strs, hx, hel, k0', k0'', c2, c3]
        repeat refine And.intro (by omega) ?_
        refine again hlt ⟨by simp [h5], by simp [h6], by simp [h8, strs], by simp, by simp [e2], by simp [hj1 k0'']⟩
  · have hlt' : ¬ (k : Int) < vs.length := by omega
    rw [joinT_all v vs (by omega)] at h10
    rw [eachD_all (stepF n v) vs (by omega)] at h9
    by_cases v0 : vs = []
    · subst v0
      have ec : compF n v [] = [] := by
        rcases hnames with rfl | rfl | rfl | rfl | rfl | rfl <;> simp [compF] at c1 ⊢
      by_cases c4 : n = nJoin
      · simp -implicitDefEqProofs [h5, h6, h8, h11, h9, h10, hlt, hlt', strs, c4]
        rw [← c4, ec]
      by_cases c5 : n = nFirst
      · simp -implicitDefEqProofs [h5, h6, h8, h11, h9, h10, hlt, hlt', strs, c5]
        rw [← c5, ec]
      · simp -implicitDefEqProofs [h5, h6, h8, h11, h9, h10, hlt, hlt', strs, c4, c5, ec]
    · have vl : 0 < vs.length := List.length_pos_iff.2 v0
      have vl' : (0 : Int) < vs.length := by omega
      by_cases c4 : n = nJoin
      · have ec : compF n v vs = [Go.Lib.join vs v] := by subst c4; simp [compF, v0]
        simp -implicitDefEqProofs [h5, h6, h8, h11, h9, h10, hlt, hlt', strs, c4, vl, vl', v0]
        rw [← c4, ec]
      by_cases c5 : n = nFirst
      · have ec : compF n v vs = vs.take 1 := by subst c5; simp [compF]
        have es : vs.map (stepF nFirst v) = vs := by
          have : stepF nFirst v = id := by funext x; simp [stepF]
          rw [this]; simp
        rw [c5, es] at h9
        simp -implicitDefEqProofs [h5, h6, h8, h11, h9, h10, hlt, hlt', strs, c5, vl, vl', v0]
        rw [← c5, ec]
        simp
        omega
      · have ec : compF n v vs = vs.map (stepF n v) := by
          rcases hnames with rfl | rfl | rfl | rfl | rfl | rfl
          · exact absurd rfl c1
          · simp [compF]; intros; rfl
          · exact absurd rfl c5
          · exact absurd rfl c4
          · simp [compF]; intros; rfl
          · have : stepF nCopy v = id := by funext x; simp [stepF]
            rw [this]; simp [compF]
        simp -implicitDefEqProofs [h5, h6, h8, h11, h9, h10, hlt, hlt', strs, c4, c5, ec]
end Go.Proofs.Tz

namespace Go.Proofs.Tz
open Go.Vw
set_option maxRecDepth 100000
set_option maxHeartbeats 4000000
set_option linter.unusedSimpArgs false

/-- The head of a slice. -/
abbrev Sl := Option Addr × Nat × Nat

/-- A row of two cells, one of which bears a named slice. -/
def rw2 (x : Str × Sl) : D := .agg [.str x.1, .raw (.slice x.2.1 x.2.2.1 x.2.2.2)]

def idxR {α : Type} (p : α → Bool) : Nat → List α → Int
  | _, [] => -1
  | k, x :: l => if p x then k else idxR p (k + 1) l
theorem idxR_drop {α : Type} {p : α → Bool} {l : List α} {k : Nat} (h : k < l.length) : idxR p k (l.drop k) = if p l[k] then (k : Int) else idxR p (k + 1) (l.drop (k + 1)) := by
  rw [List.drop_eq_getElem_cons h, idxR]

/-- slices.IndexFunc of rows with named slices. -/
theorem indexR_fn (g : FuncId) (cs : List D) (hcs : (cs.all fun c => !c.isAgg) = true) (p : Str × Sl → Bool) (l : List (Str × Sl)) (hl : l.length < 1000000) (hp : ∀ a ∈ l, Ctr Tryz.prog g ([.d (rw2 a)] ++ cs.map .d) (.d (.bool (p a)))) :
    Ctr Tryz.prog 55 [.d (.sl (l.map rw2)), .d (.clo g cs)] (.d (.int .i64 (idxR p 0 l))) := by
  refine fn_of_vwp (fun _ => false) (by kernel_rfl) Tryz.func55 (by kernel_rfl) rfl rfl (Nat.le_of_ble_eq_true rfl) (by kernel_rfl) rfl rfl ?_
  simp -implicitDefEqProofs
  refine loopN l.length (fun k τ => τ 0 = .d (.sl (l.map rw2)) ∧ τ 1 = .d (.clo g cs) ∧ τ 7 = .d (.int .i64 l.length) ∧ τ 8 = .d (.int .i64 k) ∧ idxR p 0 l = idxR p k (l.drop k)) (by simp) ?_
  rintro k τ hk ⟨h0, h1, h7, h8, hi⟩
  by_cases hlt : k < l.length
  · rw [idxR_drop hlt] at hi
    have hf := hp _ (List.getElem_mem hlt)
    simp only [rw2, List.cons_append, List.nil_append] at hf
    simp -implicitDefEqProofs [h0, h1, h7, h8, rw2, hlt]
    refine ⟨by simpa using hcs, callK hf ?_⟩
    by_cases he : p l[k] = true
    · simp -implicitDefEqProofs [h0, h1, h7, h8, rw2, hlt, he]
      rw [hi, if_pos he]
    · simp -implicitDefEqProofs [h0, h1, h7, h8, rw2, hlt, he]
      refine ⟨by omega, again hlt ⟨by simp [h0, rw2], by simp [h1], by simp [h7], by simp, ?_⟩⟩
      rw [hi, if_neg he]
  · simp -implicitDefEqProofs [h0, h1, h7, h8, hlt]
    rw [hi, List.drop_eq_nil_of_le (by omega)]
    simp -implicitDefEqProofs [idxR]

theorem idxR_neg {α : Type} (p : α → Bool) : ∀ (l : List α) (k : Nat), idxR p k l = -1 → l.filter (fun x => !p x) = l
  | [], k, _ => rfl
  | x :: l, k, h => by
    rw [idxR] at h
    by_cases hx : p x = true
    · rw [if_pos hx] at h; omega
    · rw [if_neg hx] at h
      simp -implicitDefEqProofs [hx, idxR_neg p l (k + 1) h]
theorem idxR_pos {α : Type} (p : α → Bool) : ∀ (l : List α) (k : Nat), idxR p k l ≠ -1 → ∃ i : Nat, idxR p k l = ((k + i : Nat) : Int) ∧ i < l.length ∧ (l.take i).filter (fun x => !p x) = l.take i ∧ (l.take (i + 1)).filter (fun x => !p x) = l.take i
  | [], k, h => absurd rfl h
  | x :: l, k, h => by
    rw [idxR] at h ⊢
    by_cases hx : p x = true
    · rw [if_pos hx]
      exact ⟨0, by simp, by simp, by simp, by simp [hx]⟩
    · rw [if_neg hx] at h ⊢
      obtain ⟨i, h1, h2, h3, h4⟩ := idxR_pos p l (k + 1) h
      refine ⟨i + 1, by rw [h1]; omega, by simpa using h2, ?_, ?_⟩
      · simp -implicitDefEqProofs [hx, h3]
      · rw [List.take_succ_cons, List.filter_cons, if_pos (by simp [hx]), h4, List.take_succ_cons]

theorem deleteR_fn (g : FuncId) (cs : List D) (hcs : (cs.all fun c => !c.isAgg) = true) (p : Str × Sl → Bool) (l : List (Str × Sl)) (hl : l.length < 1000000) (hp : ∀ a ∈ l, Ctr Tryz.prog g ([.d (rw2 a)] ++ cs.map .d) (.d (.bool (p a)))) :
    Ctr Tryz.prog 57 [.own true 50 (l.map rw2), .d (.clo g cs)] (.own true 50 ((l.filter fun x => !p x).map rw2)) := by
  refine fn_of_vwp (fun i => i == 2000010) (by kernel_rfl) Tryz.func57 (by kernel_rfl) rfl rfl (Nat.le_of_ble_eq_true rfl) (by kernel_rfl) rfl rfl ?_
  simp -implicitDefEqProofs
  refine ⟨_, rfl, indexR_fn g cs hcs p l hl hp, ?_⟩
  by_cases hn : idxR p 0 l = -1
  · simp -implicitDefEqProofs [hn, idxR_neg p l 0 hn]
  · obtain ⟨i, h1, h2, h3, h4⟩ := idxR_pos p l 0 hn
    simp only [Nat.zero_add] at h1
    have e1 : ¬ ((i : Int) = -1) := by omega
    simp -implicitDefEqProofs [h1, e1]
    refine ⟨by omega, ?_⟩
    refine loopK (fun n τ => ∃ (j q : Nat) (m : List (Str × Sl)), n = l.length - j ∧ j ≤ l.length ∧ τ 0 = .own true 50 (m.map rw2) ∧ τ 1 = .d (.clo g cs) ∧ τ 5 = .d (.int .i64 q) ∧ τ 6 = .d (.int .i64 j) ∧ m.length = l.length ∧ q < j ∧ m.take q = (l.take j).filter (fun x => !p x) ∧ m.drop j = l.drop j)
      (l.length - (i + 1)) ⟨i + 1, i, l, rfl, by omega, by simp, by simp, by simp, by simp, rfl, by omega, h4.symm, rfl⟩ ?_
    rintro n τ ⟨j, q, m, rfl, hj, g0, g1, g5, g6, hm, hq, ht, hd⟩
    by_cases hlt : j < l.length
    · have hmj : m[j]'(by omega) = l[j] := by
        have := congrArg (fun x : List (Str × Sl) => x[0]?) hd
        simpa [hlt, hm] using this
      have hf := hp _ (List.getElem_mem hlt)
      simp only [rw2, List.cons_append, List.nil_append] at hf
      have hlt' : (j : Int) < l.length := by omega
      have hf' := hf
      simp -implicitDefEqProofs [g0, g1, g5, g6, hm, hlt', hlt, rw2, hmj]
      refine ⟨by simpa using hcs, callK hf ?_⟩
      by_cases he : p l[j] = true
      · simp -implicitDefEqProofs [g0, g1, g5, g6, hm, hlt', hlt, rw2, hmj, he]
        refine ⟨by omega, _, ?_, j + 1, rfl, by omega, q, m, rfl, rfl, by omega, hm, by omega, ?_, ?_⟩
        · omega
        · rw [take_s hlt, List.filter_append, ht]; simp [he]
        · rw [← List.drop_drop, hd, List.drop_drop]
      · have hq2 : q < m.length := by omega
        have hqq : m[q]? = some m[q] := List.getElem?_eq_getElem hq2
        simp -implicitDefEqProofs [g0, g1, g5, g6, hm, hlt', hlt, rw2, hmj, he, hqq]
        refine ⟨by omega, by omega, by omega, _, ?_, j + 1, rfl, by omega, q + 1, m.set q l[j], ?_, by simp, by simp, by simpa using hm, by omega, ?_, ?_⟩
        · omega
        · rw [List.map_set]; rfl
        · rw [List.take_set, take_s hq2, List.set_append_right _ _ (by simp; omega)]
          simp only [List.length_take, Nat.min_eq_left (Nat.le_of_lt hq2), Nat.sub_self, List.set_cons_zero]
          rw [take_s hlt, List.filter_append, ht]; simp [he]
        · rw [List.drop_set_of_lt (by omega), ← List.drop_drop, hd, List.drop_drop]
    · simp -implicitDefEqProofs [g0, g1, g5, g6, hm, hlt]
      have hjl : j = l.length := by omega
      subst hjl
      refine ⟨by omega, by omega, ?_⟩
      rw [List.take_append_of_le_length (by simp; omega), List.take_take, Nat.min_self, ← List.map_take, ht, List.take_length]
end Go.Proofs.Tz

/-
  DERIVED: THE SHELF's CONTRACTS AT THIS DUMP, IN PLAIN WORDS (tools/lay-plain.mjs out of 'MpShP.lean', which tools/lay-shelf.mjs wrote): THE SAME DECLARATIONS UNDER THE SAME NAMES: 'import', 'namespace', 'open', 'def', 'theorem' AND NOTHING ELSE: no command of the shelf's: FOR A HAND-IN. Each laying: the table of numbers ('.._ren') and one theorem, a field a fact of the dump's own or the kernel's comparison; each contract: ONE APPLICATION.
-/
namespace Go.Proofs
open Go.Shelf
def Tryz.layS_ren : Go.Shelf.Ren := ⟨fun | 6 => 44 | 8 => 81 | 9 => 80 | 19 => 110 | 20 => 111 | 21 => 101 | 22 => 102 | 23 => 103 | 24 => 104 | 25 => 105 | 26 => 106 | 27 => 107 | 28 => 108 | 29 => 109 | 36 => 130 | 31 => 131 | 32 => 132 | 37 => 133 | 38 => 134 | 39 => 135 | 41 => 152 | n => n, fun | 27 => 33 | 29 => 9 | 3 => 3 | 32 => 93 | 26 => 33 | 0 => 0 | 44 => 123 | 46 => 125 | 4 => 4 | 36 => 116 | 35 => 115 | 41 => 120 | 5 => 5 | 9 => 9 | 53 => 136 | 57 => 140 | 63 => 156 | 64 => 157 | n => n, fun | n => n⟩
theorem Tryz.layS : Go.Proofs.SlLaysM.n6 Tryz.prog Tryz.layS_ren := {
  mixed := by kernel_rfl
  f6 := ⟨Tryz.f44.name, by decide, Tryz.func44.trans (congrArg some (by kernel_rfl))⟩
  f8 := Tryz.func81.trans (congrArg some (by kernel_rfl))
  f9 := ⟨Tryz.f80.name, by decide, Tryz.func80.trans (congrArg some (by kernel_rfl))⟩
  f19 := Tryz.func110.trans (congrArg some (by kernel_rfl))
  f20 := Tryz.func111.trans (congrArg some (by kernel_rfl))
  f21 := ⟨Tryz.f101.name, by decide, Tryz.func101.trans (congrArg some (by kernel_rfl))⟩
  f22 := ⟨Tryz.f102.name, by decide, Tryz.func102.trans (congrArg some (by kernel_rfl))⟩
  f23 := ⟨Tryz.f103.name, by decide, Tryz.func103.trans (congrArg some (by kernel_rfl))⟩
  f24 := ⟨Tryz.f104.name, by decide, Tryz.func104.trans (congrArg some (by kernel_rfl))⟩
  f25 := ⟨Tryz.f105.name, by decide, Tryz.func105.trans (congrArg some (by kernel_rfl))⟩
  f26 := ⟨Tryz.f106.name, by decide, Tryz.func106.trans (congrArg some (by kernel_rfl))⟩
  f27 := ⟨Tryz.f107.name, by decide, Tryz.func107.trans (congrArg some (by kernel_rfl))⟩
  f28 := ⟨Tryz.f108.name, by decide, Tryz.func108.trans (congrArg some (by kernel_rfl))⟩
  f29 := ⟨Tryz.f109.name, by decide, Tryz.func109.trans (congrArg some (by kernel_rfl))⟩
  f31 := Tryz.func131.trans (congrArg some (by kernel_rfl))
  f32 := Tryz.func132.trans (congrArg some (by kernel_rfl))
  f36 := ⟨Tryz.f130.name, by decide, Tryz.func130.trans (congrArg some (by kernel_rfl))⟩
  f37 := ⟨Tryz.f133.name, by decide, Tryz.func133.trans (congrArg some (by kernel_rfl))⟩
  f38 := ⟨Tryz.f134.name, by decide, Tryz.func134.trans (congrArg some (by kernel_rfl))⟩
  f39 := ⟨Tryz.f135.name, by decide, Tryz.func135.trans (congrArg some (by kernel_rfl))⟩
  f41 := ⟨Tryz.f152.name, by decide, Tryz.func152.trans (congrArg some (by kernel_rfl))⟩
  t0 := Tryz.underlying0
  a0 := Tryz.isAgg0
  z0 := Tryz.sizeOf0
  v0 := Tryz.zeroValue0
  t3 := Tryz.underlying3
  a3 := Tryz.isAgg3
  z3 := Tryz.sizeOf3
  v3 := Tryz.zeroValue3
  t4 := Tryz.underlying4
  a4 := Tryz.isAgg4
  z4 := Tryz.sizeOf4
  v4 := Tryz.zeroValue4
  t5 := Tryz.underlying5
  a5 := Tryz.isAgg5
  z5 := Tryz.sizeOf5
  v5 := Tryz.zeroValue5
  t9 := Tryz.underlying9
  a9 := Tryz.isAgg9
  z9 := Tryz.sizeOf9
  v9 := Tryz.zeroValue9
  t26 := Tryz.underlying33
  a26 := Tryz.isAgg33
  z26 := Tryz.sizeOf33
  v26 := Tryz.zeroValue33
  t27 := Tryz.underlying33
  a27 := Tryz.isAgg33
  z27 := Tryz.sizeOf33
  v27 := Tryz.zeroValue33
  t29 := Tryz.underlying9
  a29 := Tryz.isAgg9
  z29 := Tryz.sizeOf9
  v29 := Tryz.zeroValue9
  t32 := Tryz.underlying93
  a32 := Tryz.isAgg93
  z32 := Tryz.sizeOf93
  v32 := Tryz.zeroValue93
  t35 := Tryz.underlying115
  a35 := Tryz.isAgg115
  z35 := Tryz.sizeOf115
  v35 := Tryz.zeroValue115
  t36 := Tryz.underlying116
  a36 := Tryz.isAgg116
  z36 := Tryz.sizeOf116
  v36 := Tryz.zeroValue116
  t41 := Tryz.underlying120
  a41 := Tryz.isAgg120
  z41 := Tryz.sizeOf120
  v41 := Tryz.zeroValue120
  t44 := Tryz.underlying123
  a44 := Tryz.isAgg123
  z44 := Tryz.sizeOf123
  v44 := Tryz.zeroValue123
  t46 := Tryz.underlying125
  a46 := Tryz.isAgg125
  z46 := Tryz.sizeOf125
  v46 := Tryz.zeroValue125
  t53 := Tryz.underlying136
  a53 := Tryz.isAgg136
  z53 := Tryz.sizeOf136
  v53 := Tryz.zeroValue136
  t57 := Tryz.underlying140
  a57 := Tryz.isAgg140
  z57 := Tryz.sizeOf140
  v57 := Tryz.zeroValue140
  t63 := Tryz.underlying156
  a63 := Tryz.isAgg156
  z63 := Tryz.sizeOf156
  v63 := Tryz.zeroValue156
  t64 := Tryz.underlying157
  a64 := Tryz.isAgg157
  z64 := Tryz.sizeOf157
  v64 := Tryz.zeroValue157 }
def Tryz.layF_ren : Go.Shelf.Ren := ⟨fun | 6 => 59 | 15 => 81 | 14 => 85 | 28 => 110 | 29 => 111 | 20 => 113 | 21 => 114 | 22 => 115 | 23 => 116 | 24 => 117 | 25 => 118 | 26 => 119 | 27 => 120 | 46 => 143 | 47 => 131 | 48 => 132 | 49 => 144 | 50 => 145 | 57 => 156 | n => n, fun | 22 => 36 | 24 => 50 | 25 => 89 | 3 => 3 | 39 => 93 | 0 => 0 | 53 => 123 | 55 => 125 | 4 => 4 | 46 => 116 | 45 => 115 | 50 => 120 | 5 => 5 | 9 => 9 | 66 => 136 | 70 => 140 | 76 => 156 | 77 => 157 | n => n, fun | n => n⟩
theorem Tryz.layF : Go.Proofs.SlLaysF0.n6 Tryz.prog Tryz.layF_ren := {
  mixed := by kernel_rfl
  f6 := ⟨Tryz.f59.name, by decide, Tryz.func59.trans (congrArg some (by kernel_rfl))⟩
  f14 := ⟨Tryz.f85.name, by decide, Tryz.func85.trans (congrArg some (by kernel_rfl))⟩
  f15 := Tryz.func81.trans (congrArg some (by kernel_rfl))
  f20 := ⟨Tryz.f113.name, by decide, Tryz.func113.trans (congrArg some (by kernel_rfl))⟩
  f21 := ⟨Tryz.f114.name, by decide, Tryz.func114.trans (congrArg some (by kernel_rfl))⟩
  f22 := ⟨Tryz.f115.name, by decide, Tryz.func115.trans (congrArg some (by kernel_rfl))⟩
  f23 := ⟨Tryz.f116.name, by decide, Tryz.func116.trans (congrArg some (by kernel_rfl))⟩
  f24 := ⟨Tryz.f117.name, by decide, Tryz.func117.trans (congrArg some (by kernel_rfl))⟩
  f25 := ⟨Tryz.f118.name, by decide, Tryz.func118.trans (congrArg some (by kernel_rfl))⟩
  f26 := ⟨Tryz.f119.name, by decide, Tryz.func119.trans (congrArg some (by kernel_rfl))⟩
  f27 := ⟨Tryz.f120.name, by decide, Tryz.func120.trans (congrArg some (by kernel_rfl))⟩
  f28 := Tryz.func110.trans (congrArg some (by kernel_rfl))
  f29 := Tryz.func111.trans (congrArg some (by kernel_rfl))
  f46 := ⟨Tryz.f143.name, by decide, Tryz.func143.trans (congrArg some (by kernel_rfl))⟩
  f47 := Tryz.func131.trans (congrArg some (by kernel_rfl))
  f48 := Tryz.func132.trans (congrArg some (by kernel_rfl))
  f49 := ⟨Tryz.f144.name, by decide, Tryz.func144.trans (congrArg some (by kernel_rfl))⟩
  f50 := ⟨Tryz.f145.name, by decide, Tryz.func145.trans (congrArg some (by kernel_rfl))⟩
  f57 := ⟨Tryz.f156.name, by decide, Tryz.func156.trans (congrArg some (by kernel_rfl))⟩
  t0 := Tryz.underlying0
  a0 := Tryz.isAgg0
  z0 := Tryz.sizeOf0
  v0 := Tryz.zeroValue0
  t3 := Tryz.underlying3
  a3 := Tryz.isAgg3
  z3 := Tryz.sizeOf3
  v3 := Tryz.zeroValue3
  t4 := Tryz.underlying4
  a4 := Tryz.isAgg4
  z4 := Tryz.sizeOf4
  v4 := Tryz.zeroValue4
  t5 := Tryz.underlying5
  a5 := Tryz.isAgg5
  z5 := Tryz.sizeOf5
  v5 := Tryz.zeroValue5
  t9 := Tryz.underlying9
  a9 := Tryz.isAgg9
  z9 := Tryz.sizeOf9
  v9 := Tryz.zeroValue9
  t22 := Tryz.underlying36
  a22 := Tryz.isAgg36
  z22 := Tryz.sizeOf36
  v22 := Tryz.zeroValue36
  t25 := Tryz.underlying89
  a25 := Tryz.isAgg89
  z25 := Tryz.sizeOf89
  v25 := Tryz.zeroValue89
  t39 := Tryz.underlying93
  a39 := Tryz.isAgg93
  z39 := Tryz.sizeOf93
  v39 := Tryz.zeroValue93
  t45 := Tryz.underlying115
  a45 := Tryz.isAgg115
  z45 := Tryz.sizeOf115
  v45 := Tryz.zeroValue115
  t46 := Tryz.underlying116
  a46 := Tryz.isAgg116
  z46 := Tryz.sizeOf116
  v46 := Tryz.zeroValue116
  t50 := Tryz.underlying120
  a50 := Tryz.isAgg120
  z50 := Tryz.sizeOf120
  v50 := Tryz.zeroValue120
  t53 := Tryz.underlying123
  a53 := Tryz.isAgg123
  z53 := Tryz.sizeOf123
  v53 := Tryz.zeroValue123
  t55 := Tryz.underlying125
  a55 := Tryz.isAgg125
  z55 := Tryz.sizeOf125
  v55 := Tryz.zeroValue125
  t66 := Tryz.underlying136
  a66 := Tryz.isAgg136
  z66 := Tryz.sizeOf136
  v66 := Tryz.zeroValue136
  t70 := Tryz.underlying140
  a70 := Tryz.isAgg140
  z70 := Tryz.sizeOf140
  v70 := Tryz.zeroValue140
  t76 := Tryz.underlying156
  a76 := Tryz.isAgg156
  z76 := Tryz.sizeOf156
  v76 := Tryz.zeroValue156
  t77 := Tryz.underlying157
  a77 := Tryz.isAgg157
  z77 := Tryz.sizeOf157
  v77 := Tryz.zeroValue157 }
def Tryz.layC_ren : Go.Shelf.Ren := ⟨fun | 44 => 45 | n => n, fun | 25 => 33 | 26 => 9 | 3 => 3 | 4 => 4 | 0 => 0 | n => n, fun | n => n⟩
theorem Tryz.layC : Go.Proofs.SlLaysN.n44 Tryz.prog Tryz.layC_ren := {
  mixed := by kernel_rfl
  f44 := ⟨Tryz.f45.name, by decide, Tryz.func45.trans (congrArg some (by kernel_rfl))⟩
  t0 := Tryz.underlying0
  a0 := Tryz.isAgg0
  z0 := Tryz.sizeOf0
  v0 := Tryz.zeroValue0
  t3 := Tryz.underlying3
  a3 := Tryz.isAgg3
  z3 := Tryz.sizeOf3
  v3 := Tryz.zeroValue3
  t4 := Tryz.underlying4
  a4 := Tryz.isAgg4
  z4 := Tryz.sizeOf4
  v4 := Tryz.zeroValue4
  t25 := Tryz.underlying33
  a25 := Tryz.isAgg33
  z25 := Tryz.sizeOf33
  v25 := Tryz.zeroValue33
  t26 := Tryz.underlying9
  a26 := Tryz.isAgg9
  z26 := Tryz.sizeOf9
  v26 := Tryz.zeroValue9
  i26 := by kernel_rfl }
end Go.Proofs

namespace Go.Proofs.Tz
open Go.Vw Go.Sort Go.RowKit
set_option maxRecDepth 100000
set_option maxHeartbeats 4000000
set_option linter.unusedSimpArgs false

theorem strs_rep (w : World) (L : Nat → Nat → Prop) : ∀ (l : List Str), RepL w L (l.map .str) (l.map fun s => [encStr s])
  | [] => by simp [RepL]
  | s :: l => by
    simp only [List.map_cons, RepL]
    exact ⟨_, _, rfl, by simp [Rep, encStr], strs_rep w L l⟩
theorem strs_flat : ∀ (l : List Str), (l.map fun s => [encStr s]).flatten = l.map encStr
  | [] => rfl
  | s :: l => by simp [strs_flat l]
theorem strs_only {w : World} {L : Nat → Nat → Prop} : ∀ {l : List Str} {css : List (List Value)}, RepL w L (l.map .str) css → css = l.map fun s => [encStr s]
  | [], css, h => by simpa [RepL] using h
  | s :: l, css, h => by
    simp only [List.map_cons, RepL] at h
    obtain ⟨c, cs, rfl, h1, h2⟩ := h
    rw [strs_only h2]
    simp only [Rep] at h1
    subst h1
    rfl

/-- The strings in order. -/
def sortS (l : List Str) : List Str := l.mergeSort fun x y => decide (x ≤ y)

theorem holds_strs {w : World} {g : Nat} {l : List Str} (h : Holds id w g 0 (l.map encStr).toArray) : Holds encStr w g 0 l.toArray := by
  intro j hj
  have hj' : j < l.length := by simpa using hj
  have := h j (by simpa using hj')
  simpa [hj'] using this

theorem sort_fn (l : List Str) (hl : l.length < 1000000) : CtrI Tryz.prog 44 9 (l.map .str) [] ((sortS l).map .str) := by
  refine ⟨enters_of Tryz.func44 (by kernel_rfl) rfl, fun w L og v vals hlok hown hrc => ?_⟩
  simp only [RCs] at hrc
  subst hrc
  obtain ⟨css0, sz0, g1, g2, g3, g4, g5⟩ := id hown
  rcases g4.2 with ⟨hv, hn⟩ | ⟨g, cap, cur, hv, _⟩
  · have hl0 : l = [] := by simpa using hn
    subst hl0
    subst hv
    have h := AnyM.slices_Sort_string_none Tryz.layS none 0 w
    change Calls Tryz.prog 44 _ _ _ at h
    refine h.mono ?_
    rintro e w' ⟨rfl, rfl⟩
    exact ⟨L, rfl, GrownS.refl _ _, hlok, fun _ _ _ _ => Iff.rfl, by simpa [sortS] using hown⟩
  · subst hv
    obtain ⟨css, h1, h2, h3, h4, h5⟩ := hown.holds
    have hcss := strs_only h1
    subst hcss
    rw [strs_flat] at h3
    have h := AnyM.slices_Sort_string Tryz.layS g 0 cap l w (holds_strs h3) h4 (by omega)
    change Calls Tryz.prog 44 _ _ _ at h
    rw [List.length_map]
    refine h.mono ?_
    rintro e w' ⟨rfl, n, os, rfl⟩
    rw [putRow_map encStr]
    have hlen : (sortS l).length = l.length := by simp [sortS]
    have hog := (hown.blk (g := g) rfl).1
    have hs := hown.sorted hlok (strs_rep w L (sortS l)) (by simp [hlen]) (fun sz hsz c hc => by
      obtain ⟨s, _, rfl⟩ := List.mem_map.1 hc
      rw [show (Tryz.prog.info? (ety 9)).map (·.size) = some 1 from Tryz.sz_9] at hsz
      simpa using hsz) n os (F := ((sortS l).map encStr).toArray) (by rw [strs_flat])
    rw [List.length_map] at hs
    have e : (List.map encStr (sortS l)).toArray = Array.map encStr (l.mergeSort fun x y => decide (x ≤ y)).toArray := by simp [sortS]
    rw [sortedW, e] at hs
    refine ⟨L, rfl, ?_, hs.2.2, fun _ _ _ _ => Iff.rfl, hs.1⟩
    rw [hog]; exact hs.2.1

/-- Rows with named slices, as the sort sees them. -/
def encR (x : Str × Sl) : List Value := [encStr x.1, .slice x.2.1 x.2.2.1 x.2.2.2]
theorem rows_rep (w : World) (L : Nat → Nat → Prop) : ∀ (l : List (Str × Sl)), RepL w L (l.map rw2) (l.map encR)
  | [] => by simp [RepL]
  | s :: l => by
    simp only [List.map_cons, RepL]
    refine ⟨_, _, rfl, ?_, rows_rep w L l⟩
    simp only [rw2, Rep, RepL]
    exact ⟨[[encStr s.1], [.slice s.2.1 s.2.2.1 s.2.2.2]], ⟨_, _, rfl, by simp [encStr], _, _, rfl, ⟨rfl, by simp [Value.oneCell'], rfl⟩, rfl⟩, rfl⟩
theorem rows_only {w : World} {L : Nat → Nat → Prop} : ∀ {l : List (Str × Sl)} {css : List (List Value)}, RepL w L (l.map rw2) css → css = l.map encR
  | [], css, h => by simpa [RepL] using h
  | s :: l, css, h => by
    simp only [List.map_cons, RepL] at h
    obtain ⟨c, cs, rfl, h1, h2⟩ := h
    simp only [rw2, Rep, RepL] at h1
    obtain ⟨css, ⟨_, _, rfl, rfl, _, _, rfl, ⟨rfl, h3, h4⟩, rfl⟩, rfl⟩ := h1
    rw [rows_only h2]; rfl

/-- Sorted$3: by name. -/
def cmpR (x y : Str × Sl) : Int := if Op.bytesLess x.1 y.1 then -1 else 1
end Go.Proofs.Tz

namespace Go.Proofs.Tz
open Go.Vw Go.Sort Go.RowKit Go.Lib
set_option maxRecDepth 100000
set_option maxHeartbeats 4000000
set_option linter.unusedSimpArgs false

theorem ltR (x y : Str × Sl) : ltOf cmpR x y = Op.bytesLess x.1 y.1 := by
  unfold ltOf cmpR
  cases Op.bytesLess x.1 y.1 <;> simp
theorem swoR : SWO (ltOf cmpR) where
  irrefl x := by rw [ltR, bytesLess_eq]; simp
  trans x y z h1 h2 := by
    rw [ltR, bytesLess_eq] at *
    simp only [decide_eq_true_eq] at *
    exact List.lt_trans h1 h2
  ntrans x y z h1 h2 := by
    rw [ltR, bytesLess_eq] at *
    simp only [decide_eq_false_iff_not, List.not_lt] at *
    exact List.le_trans h2 h1

theorem cmp_calls (a b : ByteArray) (u v : Value) (W : World) : Calls Tryz.prog 60 #[.agg #[.string a, u], .agg #[.string b, v]] W fun e w' => e = .returned (.int .i64 (if Op.bytesLess a.toList b.toList then -1 else 1)) ∧ ∃ q os', w' = grow (W.drewN q) os' := by
  cases hb : Op.bytesLess a.toList b.toList
  · go_enter Tryz.func60, Tryz.ntmps60
    go_wp2
    go_ret
    exact ⟨rfl, 0, _, by rw [alloc_eq_grow, alloc_eq_grow, grow_grow]; rfl⟩
  · go_enter Tryz.func60, Tryz.ntmps60
    go_wp2
    go_ret
    exact ⟨rfl, 0, _, by rw [alloc_eq_grow, alloc_eq_grow, grow_grow]; rfl⟩

instance : Inhabited (Str × Sl) := ⟨([], none, 0, 0)⟩
/-- The rows by name. -/
def sortR (l : List (Str × Sl)) : List (Str × Sl) := (pdq (ltOf cmpR) l.toArray 0 l.length (Lib.bitLen l.length) true true).toList

theorem sortR_perm (l : List (Str × Sl)) : (sortR l).Perm l ∧ ∀ i j (hij : i < j) (hj : j < (sortR l).length), Op.bytesLess (sortR l)[j].1 ((sortR l)[i]'(by omega)).1 = false := by
  have h := pdq_sorts (ltOf cmpR) swoR l.toArray 0 l.length (Lib.bitLen l.length) true true (Nat.zero_le _) (by simp) (Or.inl rfl)
  obtain ⟨⟨h1, h2, h3⟩, h4⟩ := h
  have hs : (sortR l).length = l.length := by simpa [sortR] using h1
  refine ⟨?_, fun i j hij hj => ?_⟩
  · have e1 : (pdq (ltOf cmpR) l.toArray 0 l.length (Lib.bitLen l.length) true true).extract 0 l.length = pdq (ltOf cmpR) l.toArray 0 l.length (Lib.bitLen l.length) true true := by
      apply Array.extract_eq_self_of_le; rw [h1]; simp
    rw [e1] at h3
    simpa [sortR] using h3
  · have := h4 i j (Nat.zero_le _) hij (by omega)
    rw [ltR] at this
    have hj' : j < (pdq (ltOf cmpR) l.toArray 0 l.length (Lib.bitLen l.length) true true).size := by simpa [sortR] using hj
    rw [getElem!_pos _ j hj', getElem!_pos _ i (by omega)] at this
    simpa [sortR] using this

theorem flatK_eq {α : Type} [Inhabited α] (enc : α → List Value) (k : Nat) (l : List α) (hk : ∀ x, (enc x).length = k) (hp : 0 < k) : flatK enc k l.toArray = (l.map enc).flatten.toArray := by
  have hfl : (l.map enc).flatten.length = l.length * k := by rw [flatten_sized (fun c hc => by obtain ⟨x, _, rfl⟩ := List.mem_map.1 hc; exact hk x), List.length_map]
  apply Array.ext
  · simp [flatK, hfl]
  · intro t h1 h2
    have ht : t < l.length * k := by simpa [flatK] using h1
    have hq : t / k < l.length := Nat.div_lt_of_lt_mul (by rw [Nat.mul_comm]; exact ht)
    have hr : t % k < (enc l[t / k]).length := by rw [hk]; exact Nat.mod_lt _ hp
    have := flatten_get (css := l.map enc) (sz := k) (fun c hc => by obtain ⟨x, _, rfl⟩ := List.mem_map.1 hc; exact hk x) (i := t / k) (c := enc l[t / k]) (by simp [hq]) (t % k) ((enc l[t / k])[t % k]) (List.getElem?_eq_getElem hr)
    rw [show t / k * k + t % k = t by rw [Nat.mul_comm]; exact Nat.div_add_mod t k] at this
    have e2 := (List.getElem?_eq_some_iff.1 this).2
    simp only [flatK, List.size_toArray, Array.getElem_map, Array.getElem_range, List.getElem_toArray]
    rw [e2, show (l.toArray[t / k]! : α) = l[t / k] by rw [getElem!_pos l.toArray _ (by simpa using hq)]; simp]
    exact getElem!_pos (enc l[t / k]) (t % k) hr

theorem sortR_fn (l : List (Str × Sl)) (hl : l.length < 1000000) : CtrI Tryz.prog 59 50 (l.map rw2) [.d (.clo 60 [])] ((sortR l).map rw2) := by
  refine ⟨enters_of Tryz.func59 (by kernel_rfl) rfl, fun w L og v vals hlok hown hrc => ?_⟩
  simp only [RCs] at hrc
  obtain ⟨cv, us, rfl, hc1, rfl⟩ := hrc
  simp only [RC] at hc1
  obtain ⟨ccs, hcc, rfl⟩ := clo_inv hc1
  simp only [RepL] at hcc
  subst hcc
  simp only [List.flatten_nil]
  obtain ⟨css0, sz0, g1, g2, g3, g4, g5⟩ := id hown
  rcases g4.2 with ⟨hv, hn⟩ | ⟨g, cap, cur, hv, _⟩
  · have hl0 : l = [] := by simpa using hn
    subst hl0
    subst hv
    have h := AnyF.slices_SortFunc_none Tryz.layF none 0 (.func (.func 60) #[] #[]) w
    change Calls Tryz.prog 59 _ _ _ at h
    refine h.mono ?_
    rintro e w' ⟨rfl, rfl⟩
    have hnil : sortR [] = [] := List.Perm.eq_nil (sortR_perm []).1
    exact ⟨L, rfl, GrownS.refl _ _, hlok, fun _ _ _ _ => Iff.rfl, by rw [hnil]; exact hown⟩
  · subst hv
    obtain ⟨css, h1, h2, h3, h4, h5⟩ := hown.holds
    have hcss := rows_only h1
    subst hcss
    have hK : HoldsK encR 2 w g 0 l.toArray := by
      unfold HoldsK
      rw [flatK_eq encR 2 l (fun _ => rfl) (by omega)]
      exact h3
    have eg : ∀ args w, (callFunc 60 args).run Tryz.prog w = .ok (.enter 60 args) w := enters_of Tryz.func60 (by kernel_rfl) rfl
    have hcmp : CmpLays Tryz.prog 60 #[] encR 2 cmpR g 0 l.toArray.size w := fun m os dk _ x y => by
      have := cmp_calls ⟨x.1.toArray⟩ ⟨y.1.toArray⟩ (.slice x.2.1 x.2.2.1 x.2.2.2) (.slice y.2.1 y.2.2.1 y.2.2.2) (sortWorldK encR 2 w g 0 m dk os)
      simp only [Lib.toList_data] at this
      exact this
    have h := AnyQ.slices_SortFunc_eq Tryz.layF 2 Tryz.isAgg50 Tryz.sizeOf50 encR (fun _ => rfl) (fun x v hv => ?_) cmpR swoR 60 #[] g 0 cap l.toArray w eg hcmp hK h4 (by simp; omega)
    · change Calls Tryz.prog 59 _ _ _ at h
      simp only [List.size_toArray] at h
      rw [List.length_map]
      refine h.mono ?_
      rintro e w' ⟨rfl, n, os, rfl⟩
      have hp := (sortR_perm l).1
      have hlen : (sortR l).length = l.length := hp.length_eq
      have hog := (hown.blk (g := g) rfl).1
      have hs := hown.sorted hlok (rows_rep w L (sortR l)) (by simp [hlen]) (fun sz hsz c hc => by
        obtain ⟨s, _, rfl⟩ := List.mem_map.1 hc
        rw [show (Tryz.prog.info? (ety 50)).map (·.size) = some 2 from Tryz.sz_50] at hsz
        simpa [encR] using hsz) n os (F := ((sortR l).map encR).flatten.toArray) rfl
      rw [List.length_map] at hs
      have e : sortedW w g n ((sortR l).map encR).flatten.toArray os = sortWorldK encR 2 w g 0 n (pdq (ltOf cmpR) l.toArray 0 l.length (Lib.bitLen l.length) true true) os := by
        unfold sortedW sortWorldK putRowK
        rw [← flatK_eq encR 2 (sortR l) (fun _ => rfl) (by omega)]
        rfl
      rw [e] at hs
      refine ⟨L, rfl, ?_, hs.2.2, fun _ _ _ _ => Iff.rfl, hs.1⟩
      rw [hog]; exact hs.2.1
    · simp only [encR, List.mem_cons, List.not_mem_nil, or_false] at hv
      rcases hv with rfl | rfl <;> rfl
end Go.Proofs.Tz

namespace Go.Proofs.Tz
open Go.Vw Go.Sort Go.RowKit Go.Lib
set_option maxRecDepth 100000
set_option maxHeartbeats 4000000
set_option linter.unusedSimpArgs false

theorem strs_put {w : World} {L : Nat → Nat → Prop} {og : Option Nat} {g cap : Nat} {l : List Str} (hown : OwnR Tryz.prog w L og true 9 (l.map .str) (.slice (some ⟨g, 0, none⟩) l.length cap)) (hlok : ∀ b q, L b q → b < w.heap.size) (l' : List Str) (hl : l'.length = l.length) (q : Nat) :
    OwnR Tryz.prog (putRow encStr (Sort.ahead w q) g 0 l'.toArray) L og true 9 (l'.map .str) (.slice (some ⟨g, 0, none⟩) l.length cap) ∧ GrownS w (putRow encStr (Sort.ahead w q) g 0 l'.toArray) (optB (some g)) ∧ ∀ b p, L b p → b < (putRow encStr (Sort.ahead w q) g 0 l'.toArray).heap.size := by
  have hown' : OwnR Tryz.prog w L og true 9 (l.map .str) (.slice (some ⟨g, 0, none⟩) (l.map D.str).length cap) := by rw [List.length_map]; exact hown
  have hs := hown'.sorted hlok (strs_rep w L l') (by simp [hl]) (fun sz hsz c hc => by
    obtain ⟨s, _, rfl⟩ := List.mem_map.1 hc
    rw [show (Tryz.prog.info? (ety 9)).map (·.size) = some 1 from Tryz.sz_9] at hsz
    simpa using hsz) q #[] (F := (l'.map encStr).toArray) (by rw [strs_flat])
  rw [List.length_map] at hs
  have e : sortedW w g q (l'.map encStr).toArray #[] = putRow encStr (Sort.ahead w q) g 0 l'.toArray := by
    unfold sortedW
    rw [grow_empty, putRow_map encStr]
    simp
  rw [e] at hs
  exact hs

theorem strs_own {w : World} {L : Nat → Nat → Prop} {og : Option Nat} {l : List Str} {v : Value} (h : OwnR Tryz.prog w L og true 9 (l.map .str) v) :
    (v = .slice none 0 0 ∧ l = []) ∨ ∃ g cap, v = .slice (some ⟨g, 0, none⟩) l.length cap ∧ l.length ≤ cap ∧ cap ≤ maxLen ∧ Holds encStr w g 0 l.toArray ∧ g < w.heap.size ∧ og = some g := by
  obtain ⟨css0, sz0, g1, g2, g3, g4, g5⟩ := id h
  rcases g4.2 with ⟨hv, hn⟩ | ⟨g, cap, cur, hv, hh, hnc, hcm, _⟩
  · exact .inl ⟨hv, by simpa using hn⟩
  · subst hv
    obtain ⟨css, h1, h2, h3, h4, h5⟩ := h.holds
    have hcss := strs_only h1
    subst hcss
    rw [strs_flat] at h3
    exact .inr ⟨g, cap, by rw [List.length_map], by simpa using hnc, hcm, holds_strs h3, h4, (h.blk (g := g) rfl).1⟩

theorem compact_fn (l : List Str) (hl : l.length < 1000000) : Ctr Tryz.prog 45 [.own true 9 (l.map .str)] (.own true 9 ((compact l).map .str)) := by
  refine ⟨enters_of Tryz.func45 (by kernel_rfl) rfl, fun w L og vals hlok hog hrc => ?_⟩
  simp only [RCs] at hrc
  obtain ⟨v, us, rfl, hown, rfl⟩ := hrc
  simp only [RC] at hown
  rcases strs_own hown with ⟨rfl, rfl⟩ | ⟨g, cap, rfl, hcap, hcm, hH, hg, hgo⟩
  · have h := AnyG.slices_Compact_string_empty Tryz.layC none 0 w
    change Calls Tryz.prog 45 _ _ _ at h
    refine h.mono ?_
    rintro e w' ⟨rfl, rfl⟩
    exact ⟨_, L, og, rfl, GrownS.refl _ _, hlok, fun _ _ _ _ => Iff.rfl, fun g hg => ⟨(hog g hg).1, .inr hg⟩, hown⟩
  · have h := AnyG.slices_Compact_string Tryz.layC g 0 cap l w hH (by omega) hcap
    change Calls Tryz.prog 45 _ _ _ at h
    refine h.mono ?_
    rintro e w' ⟨rfl, q, rfl⟩
    have hle := compact_length_le l
    have hp := strs_put hown hlok (compact l ++ List.replicate (l.length - (compact l).length) []) (by simp; omega) q
    refine ⟨_, L, og, rfl, by rw [hgo]; exact hp.2.1, hp.2.2, fun _ _ _ _ => Iff.rfl, fun b hb => ?_, ?_⟩
    · refine ⟨Nat.lt_of_lt_of_le (hog b hb).1 hp.2.1.size, .inr hb⟩
    · simp only [RC]
      have := hp.1.cut (hi := (compact l).length) (m := cap) (by simp) (by omega) (Nat.le_refl _)
      rw [← List.map_take, List.take_left] at this
      exact this

end Go.Proofs.Tz

namespace Go.Proofs.Tz
open Go.Vw
set_option maxRecDepth 100000
set_option maxHeartbeats 4000000
set_option linter.unusedSimpArgs false

def fil (n : Str) (s : List Att) : List Att := s.filter fun a => !decide (a.1 = n)
def withoutL (l : List Att) (name : Str) : List Att := fil (lower name) (sortedL l)
def filD (n : Str) (s : List Att) : List D := (fil n s).map att
theorem filD_len (n : Str) (s : List Att) : (filD n s).length ≤ s.length := by simpa [filD, fil] using List.length_filter_le _ s
theorem filD_take {n : Str} {s : List Att} {k : Nat} (h : k < s.length) : filD n (s.take (k + 1)) = filD n (s.take k) ++ if s[k].1 = n then [] else [att s[k]] := by
  rw [take_s h]
  simp only [filD, fil, List.filter_append, List.map_append, List.filter_cons, List.filter_nil]
  by_cases he : s[k].1 = n <;> simp [he]
theorem filD_width (n : Str) (s : List Att) : ∀ u ∈ filD n s, width u = 2 := by
  intro u hu
  simp only [filD, List.mem_map] at hu
  obtain ⟨a, _, rfl⟩ := hu
  rfl

def withL (l : List Att) (name : Str) (v : List Str) : List Att × Int :=
  if 32 < (sortedL (withoutL l name ++ [(name, v)])).length ∨ 16 < v.length then ([], 3) else (sortedL (withoutL l name ++ [(name, v)]), 0)

def addR (l : List Att) (name : Str) (v : List Str) : List Att × Int :=
  if nameB name = false then ([], 5) else if v = [] then ([], 6) else if chkV (getL l name) [] v ≠ 0 then ([], chkV (getL l name) [] v) else withL l name (getL l name ++ v)
def replaceR (l : List Att) (name : Str) (v : List Str) : List Att × Int :=
  if nameB name = false then ([], 5) else if chkV [] [] v ≠ 0 then ([], chkV [] [] v) else withL l name v

end Go.Proofs.Tz

namespace Go.Proofs.Tz
open Go.Vw
set_option maxRecDepth 100000
set_option maxHeartbeats 4000000
set_option linter.unusedSimpArgs false

def badR (old : List Str) : List Str → List Str → Bool
  | _, [] => false
  | b, x :: l => decide (x ∉ old) || decide (x ∈ b) || badR old (b ++ [x]) l
theorem badR_drop {old l : List Str} {k : Nat} (h : k < l.length) : badR old (l.take k) (l.drop k) = (decide (l[k] ∉ old) || decide (l[k] ∈ l.take k) || badR old (l.take (k + 1)) (l.drop (k + 1))) := by
  rw [List.drop_eq_getElem_cons h, badR, take_s h]
def leftL (v old : List Str) : List Str := old.filter fun x => !decide (v = []) && !decide (x ∈ v)
theorem leftL_take {v s : List Str} {k : Nat} (h : k < s.length) : leftL v (s.take (k + 1)) = leftL v (s.take k) ++ if v = [] ∨ s[k] ∈ v then [] else [s[k]] := by
  rw [take_s h]
  simp only [leftL, List.filter_append, List.filter_cons, List.filter_nil]
  by_cases he : v = [] <;> by_cases h2 : s[k] ∈ v <;> simp [he, h2]
theorem leftL_len (v s : List Str) : (leftL v s).length ≤ s.length := List.length_filter_le _ s
def removeR (l : List Att) (name : Str) (v : List Str) : List Att × Int :=
  if nameB name = false then ([], 5) else if getL l name = [] then ([], 6) else if badR (getL l name) [] v = true then ([], 6) else (sortedL (withoutL l name ++ [(name, leftL v (getL l name))]), 0)

end Go.Proofs.Tz

namespace Go.Proofs.Tz
open Go.Vw
set_option maxRecDepth 100000
set_option maxHeartbeats 4000000
set_option linter.unusedSimpArgs false

def wantB (ns : List Str) (x : Str) : Bool := ns.any fun n => decide (lower n = x)
def wanted (ns : List Str) (a : Att) : Bool := decide (ns = []) || wantB ns a.1
theorem wantB_take {ns : List Str} {x : Str} {k : Nat} (h : k < ns.length) : wantB (ns.take (k + 1)) x = (wantB (ns.take k) x || decide (lower ns[k] = x)) := by
  rw [take_s h]; simp only [wantB, List.any_append, List.any_cons, List.any_nil, Bool.or_false]
def pickL (l : List Att) (ns : List Str) : List Att := (sortedL l).filter (wanted ns)
def pickD (ns : List Str) (s : List Att) : List D := (s.filter (wanted ns)).map att
theorem pickD_len (n : List Str) (s : List Att) : (pickD n s).length ≤ s.length := by simpa [pickD] using List.length_filter_le _ s
theorem pickD_take {n : List Str} {s : List Att} {k : Nat} (h : k < s.length) : pickD n (s.take (k + 1)) = pickD n (s.take k) ++ if wanted n s[k] = true then [att s[k]] else [] := by
  rw [take_s h]
  simp only [pickD, List.filter_append, List.map_append, List.filter_cons, List.filter_nil]
  by_cases he : wanted n s[k] = true <;> simp [he]

end Go.Proofs.Tz

namespace Go.Proofs.Tz
open Go.Vw
set_option maxRecDepth 100000
set_option maxHeartbeats 4000000
set_option linter.unusedSimpArgs false

/-- The number of the first element that has p, or -1. -/
def idxG {α : Type} (p : α → Bool) : Nat → List α → Int
  | _, [] => -1
  | k, x :: l => if p x = true then k else idxG p (k + 1) l
theorem idxG_drop {α : Type} {p : α → Bool} {l : List α} {k : Nat} (h : k < l.length) : idxG p k (l.drop k) = if p l[k] = true then (k : Int) else idxG p (k + 1) (l.drop (k + 1)) := by
  rw [List.drop_eq_getElem_cons h, idxG]

theorem index_fn (l : List Str) (s : Str) (hl : l.length < 1000000) : Ctr Tryz.prog 121 [.d (strs l), .d (.str s)] (.d (.int .i64 (idxG (fun x => decide (s = x)) 0 l))) := by
  refine fn_of_vwp (fun _ => false) (by kernel_rfl) Tryz.func121 (by kernel_rfl) rfl rfl (Nat.le_of_ble_eq_true rfl) (by kernel_rfl) rfl rfl ?_
  simp -implicitDefEqProofs [strs]
  refine loopN l.length (fun k τ => τ 0 = .d (strs l) ∧ τ 1 = .d (.str s) ∧ τ 7 = .d (.int .i64 l.length) ∧ τ 8 = .d (.int .i64 k) ∧ idxG (fun x => decide (s = x)) 0 l = idxG (fun x => decide (s = x)) k (l.drop k)) (by simp [strs]) ?_
  rintro k τ hk ⟨h0, h1, h7, h8, hi⟩
  by_cases hlt : k < l.length
  · rw [idxG_drop hlt] at hi
    by_cases he : s = l[k]
    · simp -implicitDefEqProofs [h0, h1, h7, h8, strs, hlt, ← he]
      rw [hi]; simp [← he]
    · simp -implicitDefEqProofs [h0, h1, h7, h8, strs, hlt, he]
      refine ⟨by omega, again hlt ⟨by simp [h0, strs], by simp [h1], by simp [h7], by simp, ?_⟩⟩
      rw [hi]; simp [he]
  · simp -implicitDefEqProofs [h0, h1, h7, h8, strs, hlt]
    rw [hi, List.drop_eq_nil_of_le (by omega)]
    simp -implicitDefEqProofs [idxG]

end Go.Proofs.Tz

namespace Go.Proofs.Tz
open Go.Vw
set_option maxRecDepth 100000
set_option maxHeartbeats 4000000
set_option linter.unusedSimpArgs false

theorem idxG_ge {α : Type} (p : α → Bool) : ∀ (l : List α) (k : Nat), (0 ≤ idxG p k l) = (∃ x ∈ l, p x = true)
  | [], k => by simp [idxG]
  | x :: l, k => by
    rw [idxG]
    by_cases h : p x = true
    · simp -implicitDefEqProofs [h]
    · rw [if_neg h, idxG_ge p l (k + 1)]; simp [h]

theorem contains_fn (l : List Str) (s : Str) (hl : l.length < 1000000) : Ctr Tryz.prog 86 [.d (strs l), .d (.str s)] (.d (.bool (decide (s ∈ l)))) := by
  refine fn_of_vwp (fun _ => false) (by kernel_rfl) Tryz.func86 (by kernel_rfl) rfl rfl (Nat.le_of_ble_eq_true rfl) (by kernel_rfl) rfl rfl ?_
  simp -implicitDefEqProofs
  refine callK (index_fn l s hl) ?_
  simp -implicitDefEqProofs [idxG_ge]

theorem indexA_fn (g : FuncId) (cs : List D) (hcs : (cs.all fun c => !c.isAgg) = true) (p : Att → Bool) (l : List Att) (hl : l.length < 1000000) (hp : ∀ a ∈ l, Ctr Tryz.prog g ([.d (att a)] ++ cs.map .d) (.d (.bool (p a)))) :
    Ctr Tryz.prog 55 [.d (atts l), .d (.clo g cs)] (.d (.int .i64 (idxG p 0 l))) := by
  refine fn_of_vwp (fun _ => false) (by kernel_rfl) Tryz.func55 (by kernel_rfl) rfl rfl (Nat.le_of_ble_eq_true rfl) (by kernel_rfl) rfl rfl ?_
  simp -implicitDefEqProofs [atts]
  refine loopN l.length (fun k τ => τ 0 = .d (atts l) ∧ τ 1 = .d (.clo g cs) ∧ τ 7 = .d (.int .i64 l.length) ∧ τ 8 = .d (.int .i64 k) ∧ idxG p 0 l = idxG p k (l.drop k)) (by simp [atts]) ?_
  rintro k τ hk ⟨h0, h1, h7, h8, hi⟩
  by_cases hlt : k < l.length
  · rw [idxG_drop hlt] at hi
    have hf := hp _ (List.getElem_mem hlt)
    simp only [att, strs, List.cons_append, List.nil_append] at hf
    simp -implicitDefEqProofs [h0, h1, h7, h8, atts, att, strs, hlt]
    refine ⟨by simpa using hcs, callK hf ?_⟩
    by_cases he : p l[k] = true
    · simp -implicitDefEqProofs [h0, h1, h7, h8, atts, att, strs, hlt, he]
      rw [hi, if_pos he]
    · simp -implicitDefEqProofs [h0, h1, h7, h8, atts, att, strs, hlt, he]
      refine ⟨by omega, again hlt ⟨by simp [h0, atts, att, strs], by simp [h1], by simp [h7], by simp, ?_⟩⟩
      rw [hi, if_neg he]
  · simp -implicitDefEqProofs [h0, h1, h7, h8, atts, hlt]
    rw [hi, List.drop_eq_nil_of_le (by omega)]
    simp -implicitDefEqProofs [idxG]

theorem findP_fn (a : Att) (n : Str) : Ctr Tryz.prog 84 [.d (att a), .d (.ref (.str n))] (.d (.bool (decide (a.1 = n)))) := by
  refine fn_of_vwp (fun _ => false) (by kernel_rfl) Tryz.func84 (by kernel_rfl) rfl rfl (Nat.le_of_ble_eq_true rfl) (by kernel_rfl) rfl rfl ?_
  simp -implicitDefEqProofs [att, strs]
theorem sortedP_fn (a : Att) (n : Str) : Ctr Tryz.prog 56 [.d (att a), .d (.ref (.str n))] (.d (.bool (decide (a.1 = n)))) := by
  refine fn_of_vwp (fun _ => false) (by kernel_rfl) Tryz.func56 (by kernel_rfl) rfl rfl (Nat.le_of_ble_eq_true rfl) (by kernel_rfl) rfl rfl ?_
  simp -implicitDefEqProofs [att, strs]
end Go.Proofs.Tz

namespace Go.Proofs.Tz
open Go.Vw
set_option maxRecDepth 100000
set_option maxHeartbeats 8000000
set_option linter.unusedSimpArgs false

theorem sortedQ_fn (x : Str × Sl) (n : Str) : Ctr Tryz.prog 56 [.d (rw2 x), .d (.ref (.str n))] (.d (.bool (decide (x.1 = n)))) := by
  refine fn_of_vwp (fun _ => false) (by kernel_rfl) Tryz.func56 (by kernel_rfl) rfl rfl (Nat.le_of_ble_eq_true rfl) (by kernel_rfl) rfl rfl ?_
  simp -implicitDefEqProofs [rw2]
theorem emptyQ_fn (x : Str × Sl) : Ctr Tryz.prog 58 [.d (rw2 x)] (.d (.bool (decide (x.2.2.1 = 0)))) := by
  refine fn_of_vwp (fun _ => false) (by kernel_rfl) Tryz.func58 (by kernel_rfl) rfl rfl (Nat.le_of_ble_eq_true rfl) (by kernel_rfl) rfl rfl ?_
  simp -implicitDefEqProofs [rw2]

/-- A row: its name, the head of its slice, what the slice holds. -/
abbrev Row := Str × Sl × List Str
def pr (r : Row) : Str × Sl := (r.1, r.2.1)
def nv (r : Row) : Att := (r.1, r.2.2)
def hd (r : Row) : Value := .slice r.2.1.1 r.2.1.2.1 r.2.1.2.2
def rowD (r : Row) : D := rw2 (pr r)
def hnd (r : Row) : AV := .hs (hd r) 9 (r.2.2.map .str)

theorem idxR_map {α β : Type} (f : α → β) (p : β → Bool) : ∀ (l : List α) (k : Nat), idxR p k (l.map f) = idxR (fun x => p (f x)) k l
  | [], _ => rfl
  | x :: l, k => by simp only [List.map_cons, idxR, idxR_map f p l (k + 1)]

/-- One attribute more, in the program's grouping. -/
def addG (acc : List Att) (a : Att) : List Att :=
  if idxR (fun x : Att => decide (x.1 = lower a.1)) 0 acc = -1 then acc ++ [(lower a.1, a.2)] else acc.modify (idxR (fun x : Att => decide (x.1 = lower a.1)) 0 acc).toNat fun x => (x.1, x.2 ++ a.2)
def grp (l : List Att) : List Att := l.foldl addG []
theorem grp_take {l : List Att} {k : Nat} (h : k < l.length) : grp (l.take (k + 1)) = addG (grp (l.take k)) l[k] := by
  rw [take_s h]; simp only [grp, List.foldl_append, List.foldl_cons, List.foldl_nil]

theorem grp_len (l : List Att) : (grp l).length ≤ l.length := by
  have key : ∀ (l acc : List Att), (l.foldl addG acc).length ≤ acc.length + l.length := by
    intro l
    induction l with
    | nil => intro acc; simp
    | cons a l ih =>
      intro acc
      have := ih (addG acc a)
      have h2 : (addG acc a).length ≤ acc.length + 1 := by
        unfold addG; split <;> simp
      simp only [List.foldl_cons, List.length_cons]; omega
  simpa [grp] using key l []
theorem total_app (a b : List Att) : total (a ++ b) = total a + total b := by simp [total]
theorem total_modify (f : Att → Att) (n : Nat) : ∀ (acc : List Att) (i : Nat), (∀ x, (f x).2.length = x.2.length + n) → i < acc.length → total (acc.modify i f) = total acc + n
  | [], i, _, h => by simp at h
  | x :: acc, 0, hf, _ => by simp [total, List.modify_cons, hf]; omega
  | x :: acc, i + 1, hf, h => by
    have := total_modify f n acc i hf (by simpa using h)
    simp only [total, List.modify_succ_cons, List.map_cons, List.sum_cons] at this ⊢
    omega
theorem total_addG (acc : List Att) (a : Att) : total (addG acc a) = total acc + a.2.length := by
  unfold addG
  split
  · rw [total_app]; simp [total]
  · rename_i h
    obtain ⟨i, h1, h2, _⟩ := idxR_pos _ acc 0 h
    rw [h1]
    exact total_modify _ _ _ _ (fun x => by simp) (by simpa using h2)
theorem total_grp (l : List Att) : total (grp l) = total l := by
  have key : ∀ (l acc : List Att), total (l.foldl addG acc) = total acc + total l := by
    intro l
    induction l with
    | nil => intro acc; simp [total]
    | cons a l ih =>
      intro acc
      rw [List.foldl_cons, ih, total_addG]
      simp only [total, List.map_cons, List.sum_cons]; omega
  have := key l []
  simpa [grp, total] using this
theorem total_mem {l : List Att} {x : Att} (h : x ∈ l) : x.2.length ≤ total l := by
  induction l with
  | nil => simp at h
  | cons y l ih =>
    simp only [total, List.map_cons, List.sum_cons] at ih ⊢
    rcases List.mem_cons.1 h with rfl | h
    · omega
    · have := ih h; omega

theorem modify_set {α : Type} (f : α → α) : ∀ (l : List α) (i : Nat) (x : α), l[i]? = some x → l.modify i f = l.set i (f x)
  | [], i, x, h => by simp at h
  | y :: l, 0, x, h => by
    simp only [List.getElem?_cons_zero, Option.some.injEq] at h
    subst h; rfl
  | y :: l, i + 1, x, h => by
    simp only [List.getElem?_cons_succ] at h
    simp [List.modify_succ_cons, modify_set f l i x h]

theorem hh_ne (i d : Nat) (h : d < 1000000) : (1000000 + i = d) = False := by simp; omega

theorem hh_ne' (i d : Nat) (h : d < 1000000) : (d = 1000000 + i) = False := by simp; omega

theorem sd42 : structDX Tryz.prog true 50 = some [.str [], .raw (.slice none 0 0)] := by kernel_rfl

def okLen (rs : List Row) : Prop := ∀ r ∈ rs, r.2.1.2.1 = r.2.2.length

def slotsG : Nat → Bool := fun i => i == 3 || i == 44 || i == 1000027 || i == 2000020 || i == 3000055 || i == 4000063 || i == 3000068

/-- Rows with the numbers of their names. -/
abbrev QRow := Row × Nat
def q1 (q : QRow) : D := rowD q.1
def Named (qs : List QRow) (τ : St) : Prop := (qs.map (·.2)).Nodup ∧ ∀ q ∈ qs, τ (1000000 + q.2) = hnd q.1
def normA (a : Att) : Att := (a.1, Go.Lib.compact (sortS a.2))
def nonE (a : Att) : Bool := !decide (a.2 = [])

def ByName (m : List (Str × Sl)) : Prop := ∀ i j (_ : i < j) (hj : j < m.length), Op.bytesLess m[j].1 (m[i]'(by omega)).1 = false

theorem perm_lift {α β : Type} (f : α → β) {m m' : List β} (h : m.Perm m') : ∀ l : List α, l.map f = m' → ∃ l' : List α, l'.Perm l ∧ l'.map f = m := by
  induction h with
  | nil => intro l hl; exact ⟨l, .refl _, hl⟩
  | cons x p ih =>
    intro l hl
    cases l with
    | nil => simp at hl
    | cons a t =>
      simp only [List.map_cons, List.cons.injEq] at hl
      obtain ⟨t', h1, h2⟩ := ih t hl.2
      exact ⟨a :: t', h1.cons a, by simp [hl.1, h2]⟩
  | swap x y l0 =>
    intro l hl
    match l, hl with
    | a :: b :: t, hl =>
      simp only [List.map_cons, List.cons.injEq] at hl
      exact ⟨b :: a :: t, .swap _ _ _, by simp [hl.1, hl.2.1, hl.2.2]⟩
  | trans h1 h2 ih1 ih2 =>
    intro l hl
    obtain ⟨l2, p2, e2⟩ := ih2 l hl
    obtain ⟨l1, p1, e1⟩ := ih1 l2 e2
    exact ⟨l1, p1.trans p2, e1⟩

theorem zip_mem {rs : List Row} {q : QRow} (h : q ∈ rs.zipIdx) : ∃ hi : q.2 < rs.length, rs[q.2] = q.1 := by
  obtain ⟨r, i⟩ := q
  have := List.mem_zipIdx_iff_getElem?.1 h
  exact ⟨(List.getElem?_eq_some_iff.1 this).1, (List.getElem?_eq_some_iff.1 this).2⟩

theorem sortedG_fn (l : List Att) (hl : Fit2 l) : CtrG Tryz.prog 28 [.d (atts l)] [] (fun r hs => ∃ rs : List Row, r = .own true 50 (rs.map rowD) ∧ hs = rs.map hnd ∧ (rs.map nv).Perm (((grp l).filter nonE).map normA) ∧ ∀ i j (_ : i < j) (hj : j < rs.length), Op.bytesLess rs[j].1 (rs[i]'(by omega)).1 = false) := by
  refine fn_of_vwpG slotsG (by kernel_rfl) Tryz.func28 (by kernel_rfl) rfl rfl (Nat.le_of_ble_eq_true rfl) (by kernel_rfl) rfl ?_
  obtain ⟨⟨hl1, hl2⟩, hl3⟩ := hl
  simp -implicitDefEqProofs [slotsG, initG, atts]
  refine loopN l.length (fun k τ => τ 9 = .d (.sl (l.map att)) ∧ τ 10 = .d (.int .i64 l.length) ∧ τ 11 = .d (.int .i64 k) ∧ ∃ rs : List Row, τ 3 = .own true 50 (rs.map rowD) ∧ (∀ i (h : i < rs.length), τ (1000000 + i) = hnd rs[i]) ∧ (∀ i, rs.length ≤ i → τ (1000000 + i) = .undef) ∧ rs.map nv = grp (l.take k) ∧ okLen rs) ?_ ?_
  · refine ⟨by simp, by simp, by simp, [], by simp, by simp, fun i _ => ?_, by simp [grp], by simp [okLen]⟩
    simp [initG, hh_ne]
  rintro k τ hk ⟨h9, h10, h11, rs, h3, hH, hU, hg, hlen⟩
  by_cases hlt : k < l.length
  · simp -implicitDefEqProofs [slotsG, h9, h10, h11, h3, hlt, att, strs]
    refine callK (foldLower_fn _ (hl2 _ (List.getElem_mem hlt)).1) ?_
    simp -implicitDefEqProofs [slotsG, h9, h10, h11, h3, hlt, att, strs]
    have hrk : rs.length ≤ k := by
      have := grp_len (l.take k)
      rw [← hg] at this
      simpa [Nat.min_eq_left (Nat.le_of_lt hlt)] using this
    have htot := total_take l k hlt
    rw [← total_grp (l.take k), ← hg] at htot
    have hmr : rs.map rowD = (rs.map pr).map rw2 := by simp [rowD]
    rw [hmr]
    refine lendK (indexR_fn 56 [.ref (.str (lower l[k].1))] rfl (fun x => decide (x.1 = lower l[k].1)) (rs.map pr) (by simp; omega) (fun a _ => sortedQ_fn a _)) rfl ?_
    rw [← hmr]
    have hidx : idxR (fun x : Str × Sl => decide (x.1 = lower l[k].1)) 0 (rs.map pr) = idxR (fun x : Att => decide (x.1 = lower l[k].1)) 0 (grp (l.take k)) := by
      rw [← hg, idxR_map, idxR_map]; rfl
    rw [hidx]
    have hnew := grp_take (l := l) hlt
    by_cases hn : idxR (fun x : Att => decide (x.1 = lower l[k].1)) 0 (grp (l.take k)) = -1
    · simp -implicitDefEqProofs [slotsG, h9, h10, h11, h3, hlt, att, strs, hn, sd42]
      refine ⟨by omega, by omega, appK0 (1000000 + rs.length) (by simp [hh_ne, hU]) (by simp) (by simp; omega) (by simp; omega) (fun A c => ?_)⟩
      simp -implicitDefEqProofs [slotsG, h9, h10, h11, h3, hlt, att, strs, hn, sd42, hh_ne, hh_ne']
      refine ⟨by omega, again hlt ⟨by simp [h9, hh_ne, hh_ne'], by simp [h10, hh_ne, hh_ne'], by simp [hh_ne, hh_ne'], rs ++ [(lower l[k].1, (A, l[k].2.length, c), l[k].2)], ?_, fun i hi => ?_, fun i hi => ?_, ?_, ?_⟩⟩
      · simp [hh_ne, hh_ne', rowD, rw2, pr, List.set_append]
      · simp only [List.length_append, List.length_cons, List.length_nil] at hi
        by_cases hi2 : i < rs.length
        · have hne : ¬ (i = rs.length) := by omega
          simp [hh_ne, hh_ne', hH i hi2, hnd, hne, List.getElem_append_left hi2]
        · have hie : i = rs.length := by omega
          subst hie
          simp [hh_ne, hh_ne', hnd, hd]
      · simp only [List.length_append, List.length_cons, List.length_nil] at hi
        have hne : ¬ (i = rs.length) := by omega
        simp [hh_ne, hh_ne', hU i (by omega), hne]
      · rw [hnew, addG, if_pos hn, List.map_append, hg]; rfl
      · intro r hr
        rcases List.mem_append.1 hr with hr | hr
        · exact hlen r hr
        · rw [List.mem_singleton.1 hr]
    · obtain ⟨i, hi1, hi2, hi3, hi4⟩ := idxR_pos (fun x : Att => decide (x.1 = lower l[k].1)) (grp (l.take k)) 0 hn
      simp only [Nat.zero_add] at hi1
      have hir : i < rs.length := by rw [← hg] at hi2; simpa using hi2
      have hi0 : ¬ (i : Int) < 0 := by omega
      have hvl : rs[i].2.2.length + l[k].2.length ≤ 1000000 := by
        have := total_mem (l := rs.map nv) (x := nv rs[i]) (List.mem_map.2 ⟨_, List.getElem_mem hir, rfl⟩)
        simp only [nv] at this
        omega
      rw [hi1]
      simp -implicitDefEqProofs [slotsG, h9, h10, h11, h3, hlt, att, strs, hi0, hir, rowD, rw2, pr]
      refine appK (1000000 + i) (by simp [hh_ne, hH i hir, hnd, hd]; rfl) (by simp) (by simp; omega) (by simp; omega) (fun A c => ?_)
      simp -implicitDefEqProofs [slotsG, h9, h10, h11, h3, hlt, att, strs, hi0, hir, rowD, rw2, pr, hh_ne, hh_ne']
      have hset : (rs.set i (rs[i].1, (A, rs[i].2.2.length + l[k].2.length, c), rs[i].2.2 ++ l[k].2)).length = rs.length := by simp
      refine ⟨by omega, again hlt ⟨by simp [h9, hh_ne, hh_ne'], by simp [h10, hh_ne, hh_ne'], by simp [hh_ne, hh_ne'], rs.set i (rs[i].1, (A, rs[i].2.2.length + l[k].2.length, c), rs[i].2.2 ++ l[k].2), ?_, fun j hj => ?_, fun j hj => ?_, ?_, ?_⟩⟩
      · simp [hh_ne, hh_ne', rowD, rw2, pr, List.map_set]
      · rw [hset] at hj
        by_cases hji : j = i
        · subst hji
          simp [hh_ne, hh_ne', hnd, hd]
        · have hij : ¬ i = j := fun e => hji e.symm
          simp [hh_ne, hh_ne', hH j hj, hnd, hji, hij, List.getElem_set_ne]
      · rw [hset] at hj
        have hji : ¬ j = i := by omega
        simp [hh_ne, hh_ne', hU j hj, hji]
      · rw [hnew, addG, if_neg hn, hi1, List.map_set, ← hg]
        rw [Int.toNat_natCast]
        exact (modify_set (fun x : Att => (x.1, x.2 ++ l[k].2)) _ _ (nv rs[i]) (by rw [List.getElem?_map, List.getElem?_eq_getElem hir]; rfl)).symm
      · intro r hr
        rcases List.mem_or_eq_of_mem_set hr with hr | hr
        · exact hlen r hr
        · rw [hr]; simp
  · have hkl : k = l.length := by omega
    rw [hkl, List.take_length] at hg
    have hrk : rs.length ≤ l.length := by
      have := grp_len l
      rw [← hg] at this
      simpa using this
    have hmr : rs.map rowD = (rs.map pr).map rw2 := by simp [rowD]
    rw [hmr] at h3
    have hf := deleteR_fn 58 [] rfl (fun x => decide (x.2.2.1 = 0)) (rs.map pr) (by simp; omega) (fun a _ => emptyQ_fn a)
    simp -implicitDefEqProofs [slotsG, h9, h10, h11, h3, hlt, att, strs]
    simp only [rw2, List.map_map] at hf
    refine callK hf ?_
    obtain ⟨q0, hq0⟩ : ∃ q0 : List QRow, q0 = rs.zipIdx.filter fun q => !decide (q.1.2.1.2.1 = 0) := ⟨_, rfl⟩
    have e1 : ((rs.map pr).filter fun x => !decide (x.2.2.1 = 0)).map rw2 = q0.map q1 := by
      rw [hq0]
      have : rs = rs.zipIdx.map (·.1) := by simp
      conv => lhs; rw [this]
      rw [List.map_map, List.filter_map, List.map_map]
      rfl
    have e2 : q0.map (fun q => nv q.1) = (grp l).filter nonE := by
      rw [← hg, hq0]
      have : rs = rs.zipIdx.map (·.1) := by simp
      conv => rhs; rw [this]
      rw [List.map_map, List.filter_map]
      congr 1
      refine List.filter_congr (fun q hq => ?_)
      obtain ⟨hi, hr⟩ := zip_mem hq
      have := hlen q.1 (hr ▸ List.getElem_mem hi)
      simp [nonE, nv, this, List.length_eq_zero_iff]
      exact decide_eq_decide.2 Iff.rfl
    have e3 : (q0.map (·.2)).Nodup := by
      rw [hq0]
      have h1 : (rs.zipIdx.map (·.2)).Nodup := by rw [List.zipIdx_map_snd]; exact List.nodup_range'
      exact h1.sublist (List.filter_sublist.map _)
    have e4 : ∀ q ∈ q0, τ (1000000 + q.2) = hnd q.1 := by
      intro q hq
      rw [hq0] at hq
      obtain ⟨hi, hr⟩ := zip_mem (List.mem_filter.1 hq).1
      rw [hH _ hi, hr]
    have e5 : q0.length ≤ rs.length := by rw [hq0]; exact Nat.le_trans (List.length_filter_le _ _) (by simp)
    rw [e1]
    simp -implicitDefEqProofs [slotsG, h9, h10, h11, h3, hlt, att, strs]
    have e6 : ∀ a ∈ q0.map (fun q => nv q.1), a.2.length < 500000 := by
      intro a ha
      rw [e2] at ha
      have := total_mem (List.mem_filter.1 ha).1
      rw [total_grp] at this
      omega
    generalize hn0 : q0.map (fun q => nv q.1) = n0 at *
    have hn0l : n0.length = q0.length := by rw [← hn0]; simp
    refine loopN q0.length (fun k τ => τ 46 = .d (.int .i64 q0.length) ∧ τ 47 = .d (.int .i64 k) ∧ ∃ qs : List QRow, τ 3 = .own true 50 (qs.map q1) ∧ Named qs τ ∧ qs.map (fun q => nv q.1) = (n0.take k).map normA ++ n0.drop k) ?_ ?_
    · refine ⟨by simp, by simp, q0, by simp, ⟨e3, fun q hq => ?_⟩, by simp [hn0]⟩
      simp [hh_ne, hh_ne', e4 q hq, hnd]
    clear h9 h10 h11 h3 hH hU hk hlt hf e4 τ hkl
    rintro j τ hj ⟨h46, h47, qs, h3, ⟨hnd1, hnd2⟩, hqs⟩
    have hql : qs.length = q0.length := by
      have := congrArg List.length hqs
      simp at this
      omega
    by_cases hlt : j < q0.length
    · have hjq : j < qs.length := by omega
      have hjn : j < n0.length := by omega
      have hvj : nv qs[j].1 = n0[j] := by
        have h1 : (qs.map (fun q => nv q.1))[j]? = some (nv qs[j].1) := by simp [hjq]
        rw [hqs, List.getElem?_append_right (by simp; omega)] at h1
        simp [Nat.min_eq_left (Nat.le_of_lt hjn), hjn] at h1
        exact h1.symm
      have hvl : qs[j].1.2.2.length < 500000 := by
        have := e6 n0[j] (List.getElem_mem hjn)
        rw [← hvj] at this
        exact this
      have hnm := hnd2 qs[j] (List.getElem_mem hjq)
      simp -implicitDefEqProofs [slotsG, h46, h47, h3, hlt, hjq, q1, rowD, rw2, pr]
      refine inKr (1000000 + qs[j].2) (e := 9) (l := qs[j].1.2.2.map .str) (by simp [hh_ne, hh_ne', hnm, hnd, hd]) (sort_fn qs[j].1.2.2 (by omega)) ?_
      simp -implicitDefEqProofs [slotsG, h46, h47, h3, hlt, hjq, q1, rowD, rw2, pr, hh_ne, hh_ne']
      have hsl : (sortS qs[j].1.2.2).length = qs[j].1.2.2.length := by simp [sortS]
      refine nameK (1000000 + qs[j].2) (e := 9) (l := (sortS qs[j].1.2.2).map .str) (by simp [hh_ne, hh_ne']) (compact_fn (sortS qs[j].1.2.2) (by omega)) (fun A c => ?_)
      simp -implicitDefEqProofs [slotsG, h46, h47, h3, hlt, hjq, q1, rowD, rw2, pr, hh_ne, hh_ne']
      refine ⟨by omega, again hlt ⟨by simp [h46, hh_ne, hh_ne'], by simp [hh_ne, hh_ne'], qs.set j ((qs[j].1.1, (A, (Go.Lib.compact (sortS qs[j].1.2.2)).length, c), Go.Lib.compact (sortS qs[j].1.2.2)), qs[j].2), ?_, ⟨?_, fun q hq => ?_⟩, ?_⟩⟩
      · simp [hh_ne, hh_ne', q1, rowD, rw2, pr, List.map_set]
      · rw [List.map_set]
        have := List.set_getElem_self (i := j) (show j < (qs.map (·.2)).length by simpa using hjq)
        rw [List.getElem_map] at this
        rw [this]; exact hnd1
      · obtain ⟨i, hi, rfl⟩ := List.mem_iff_getElem.1 hq
        have hi' : i < qs.length := by simpa using hi
        by_cases hij : j = i
        · subst hij
          simp [hh_ne, hh_ne', hnd, hd]
        · rw [List.getElem_set_ne hij]
          have hne : ¬ qs[i].2 = qs[j].2 := fun e => by
            have h1 := List.pairwise_iff_getElem.1 hnd1
            rcases Nat.lt_or_gt_of_ne hij with h2 | h2
            · exact h1 j i (by simpa using hjq) (by simpa using hi') h2 (by simpa using e.symm)
            · exact h1 i j (by simpa using hi') (by simpa using hjq) h2 (by simpa using e)
          simp [hh_ne, hh_ne', hnd2 qs[i] (List.getElem_mem hi'), hne, hnd]
      · have hnn : nv ((qs[j].1.1, (A, (Go.Lib.compact (sortS qs[j].1.2.2)).length, c), Go.Lib.compact (sortS qs[j].1.2.2)) : Row) = normA n0[j] := by
          rw [← hvj]; rfl
        have hl1 : ((n0.take j).map normA).length = j := by simp; omega
        rw [List.map_set, hqs, List.set_append_right _ _ (by omega), hl1, Nat.sub_self, List.drop_eq_getElem_cons hjn, List.set_cons_zero, hnn, ← List.map_take, take_s hjn]
        simp only [List.map_append, List.map_cons, List.map_nil, List.append_assoc, List.singleton_append]
    · simp -implicitDefEqProofs [slotsG, h46, h47, h3, hlt]
      have hjl : j = n0.length := by omega
      subst hjl
      rw [List.take_length, List.drop_length, List.append_nil] at hqs
      have hmq : qs.map q1 = (qs.map fun q => pr q.1).map rw2 := by rw [List.map_map]; rfl
      rw [hmq]
      refine inKb (sortR_fn (qs.map fun q => pr q.1) (by simp; omega)) ?_
      obtain ⟨p1, p2⟩ := sortR_perm (qs.map fun q => pr q.1)
      replace p2 : ByName (sortR (qs.map fun q => pr q.1)) := p2
      generalize sortR (qs.map fun q => pr q.1) = ms at p1 p2 ⊢
      obtain ⟨qs', p3, rfl⟩ := perm_lift (fun q : QRow => pr q.1) p1 qs rfl
      have hlen' : qs'.length = qs.length := p3.length_eq
      have hT : ∀ (qs : List QRow) (τ' : St), (∀ q ∈ qs, τ' (1000000 + q.2) = hnd q.1) → (qs.map fun q => 1000000 + q.2).map τ' = (qs.map (·.1)).map hnd := by
        intro qs τ' h
        rw [List.map_map, List.map_map]
        exact List.map_congr_left h
      have hrow : (qs'.map fun q => pr q.1).map rw2 = qs'.map q1 := by rw [List.map_map]; rfl
      simp -implicitDefEqProofs [slotsG, h46, h47, h3, hlt]
      have hK : ∀ q ∈ qs', τ (1000000 + q.2) = hnd q.1 := fun q hq => hnd2 q (p3.mem_iff.1 hq)
      refine ⟨.own true 50 (qs'.map q1), qs'.map (fun q => 1000000 + q.2), ?_, fun k hk => ?_, ?_, qs'.map (·.1), ?_, ?_, ?_, ?_⟩
      · have h1 : (qs'.map (·.2)).Nodup := (p3.map _).nodup_iff.2 hnd1
        have h2 := List.Pairwise.map (R := fun a b : Nat => a ≠ b) (S := fun a b : Nat => a ≠ b) (fun x => 1000000 + x) (fun a b h => by omega) h1
        rw [List.map_map] at h2
        exact h2
      · obtain ⟨q, hq, rfl⟩ := List.mem_map.1 hk
        simp [hh_ne, hh_ne', hK q hq, hnd, isH]
      · simp [ResG, q1, rowD]
      · simp [q1]
      · rw [List.map_map, List.map_map]
        refine List.map_congr_left fun q hq => ?_
        simp [hh_ne, hh_ne', hK q hq, hnd]
      · rw [List.map_map]
        have h1 := p3.map (fun q : QRow => nv q.1)
        rw [hqs, e2] at h1
        exact h1
      · intro i j hij hj
        have := p2 i j hij (by simpa using hj)
        simpa [pr] using this
end Go.Proofs.Tz

namespace Go.Proofs.Tz
open Go.Vw Go.Lib
set_option linter.unusedSimpArgs false

theorem bl (x y : Str) : Op.bytesLess x y = decide (x < y) := bytesLess_eq x y
theorem bl_t {x y : Str} : Op.bytesLess x y = true ↔ x < y := by rw [bl]; simp
theorem bl_f {x y : Str} : Op.bytesLess x y = false ↔ ¬ x < y := by rw [bl]; simp
theorem s_irr (x : Str) : ¬ x < x := List.lt_irrefl x
theorem s_trans {x y z : Str} (h1 : x < y) (h2 : y < z) : x < z := List.lt_trans h1 h2
theorem s_tri {x y : Str} (h1 : ¬ x < y) (h2 : ¬ y < x) : x = y := List.le_antisymm (List.not_lt.1 h2) (List.not_lt.1 h1)

/-- Strictly ascending. -/
def SS (l : List Str) : Prop := l.Pairwise (· < ·)
theorem SS.nodup {l : List Str} (h : SS l) : l.Nodup := List.Pairwise.imp (R := fun a b : Str => a < b) (S := fun a b : Str => a ≠ b) (fun hab e => by subst e; exact s_irr _ hab) h
theorem SS_ext {a b : List Str} (ha : SS a) (hb : SS b) (h : ∀ x, x ∈ a ↔ x ∈ b) : a = b := by
  have hp : a.Perm b := (List.perm_ext_iff_of_nodup ha.nodup hb.nodup).2 h
  exact hp.eq_of_pairwise (fun x y _ _ h1 h2 => absurd (s_trans h1 h2) (s_irr x)) ha hb

/-- Insert, by recursion. -/
def insR (s : Str) : List Str → List Str
  | [] => [s]
  | x :: l => if x < s then x :: insR s l else if x = s then x :: l else s :: x :: l
theorem ins_rest (s : Str) : ∀ (l out : List Str), (∀ x ∈ l, s < x) → l.foldl (insS s) (true, out) = (true, out ++ l)
  | [], out, _ => by simp
  | x :: l, out, h => by
    have hx := h x (by simp)
    have hne : ¬ x = s := fun e => s_irr s (e ▸ hx)
    have : insS s (true, out) x = (true, out ++ [x]) := by simp [insS, hne]
    rw [List.foldl_cons, this, ins_rest s l _ (fun y hy => h y (by simp [hy]))]
    simp
theorem ins_go (s : Str) : ∀ (l out : List Str), SS l → (l.foldl (insS s) (false, out)).2 ++ (if (l.foldl (insS s) (false, out)).1 then [] else [s]) = out ++ insR s l
  | [], out, _ => by simp [insR]
  | x :: l, out, h => by
    have hp := List.pairwise_cons.1 h
    rw [List.foldl_cons, insR]
    by_cases hx : x < s
    · have hne : ¬ x = s := fun e => s_irr s (e ▸ hx)
      have : insS s (false, out) x = (false, out ++ [x]) := by simp [insS, bl_t.2 hx, hne]
      rw [this, ins_go s l _ hp.2, if_pos hx]
      simp
    · rw [if_neg hx]
      by_cases he : x = s
      · subst he
        have : insS x (false, out) x = (true, out ++ [x]) := by simp [insS, bl_f.2 hx]
        rw [this, ins_rest x l _ hp.1, if_pos rfl]
        simp
      · have hs : s < x := Classical.byContradiction fun h2 => he (s_tri hx h2)
        have : insS s (false, out) x = (true, out ++ [s] ++ [x]) := by simp [insS, bl_f.2 hx, he]
        rw [this, ins_rest s l _ (fun y hy => s_trans hs (hp.1 y hy)), if_neg he]
        simp
theorem ins_eq {l : List Str} (h : SS l) (s : Str) : ins l s = insR s l := by
  have := ins_go s l [] h
  rw [List.nil_append] at this
  exact this
theorem insR_mem (s : Str) : ∀ (l : List Str) (x : Str), x ∈ insR s l ↔ x = s ∨ x ∈ l
  | [], x => by simp [insR]
  | y :: l, x => by
    rw [insR]
    split
    · simp only [List.mem_cons, insR_mem s l x]
      constructor
      · rintro (h | h | h) <;> simp [h]
      · rintro (h | h | h) <;> simp [h]
    · split
      · rename_i h; subst h; simp
      · simp
theorem insR_SS (s : Str) : ∀ (l : List Str), SS l → SS (insR s l)
  | [], _ => by simp [insR, SS]
  | y :: l, h => by
    have hp := List.pairwise_cons.1 h
    rw [insR]
    split
    · rename_i hy
      refine List.pairwise_cons.2 ⟨fun z hz => ?_, insR_SS s l hp.2⟩
      rcases (insR_mem s l z).1 hz with rfl | hz
      · exact hy
      · exact hp.1 z hz
    · rename_i hy
      split
      · exact h
      · rename_i he
        have hs : s < y := Classical.byContradiction fun h2 => he (s_tri hy h2)
        refine List.pairwise_cons.2 ⟨fun z hz => ?_, h⟩
        rcases List.mem_cons.1 hz with rfl | hz
        · exact hs
        · exact s_trans hs (hp.1 z hz)
theorem ins_mem {l : List Str} (h : SS l) (s x : Str) : x ∈ ins l s ↔ x = s ∨ x ∈ l := by rw [ins_eq h]; exact insR_mem s l x
theorem ins_SS {l : List Str} (h : SS l) (s : Str) : SS (ins l s) := by rw [ins_eq h]; exact insR_SS s l h

theorem insAll_spec : ∀ (vs l : List Str), SS l → SS (vs.foldl ins l) ∧ ∀ x, x ∈ vs.foldl ins l ↔ x ∈ l ∨ x ∈ vs
  | [], l, h => ⟨h, fun x => by simp⟩
  | v :: vs, l, h => by
    have := insAll_spec vs (ins l v) (ins_SS h v)
    refine ⟨this.1, fun x => ?_⟩
    rw [List.foldl_cons, this.2, ins_mem h]
    simp only [List.mem_cons]
    constructor
    · rintro ((h | h) | h) <;> simp [h]
    · rintro (h | h | h) <;> simp [h]

theorem namesF_spec : ∀ (l : List Att) (ns : List Str), SS ns → SS (l.foldl namesS ns) ∧ ∀ x, x ∈ l.foldl namesS ns ↔ x ∈ ns ∨ ∃ a ∈ l, a.2 ≠ [] ∧ lower a.1 = x
  | [], ns, h => ⟨h, fun x => by simp⟩
  | a :: l, ns, h => by
    rw [List.foldl_cons]
    by_cases ha : a.2 = []
    · rw [namesS, if_pos ha]
      have := namesF_spec l ns h
      refine ⟨this.1, fun x => ?_⟩
      rw [this.2]
      simp [ha]
    · rw [namesS, if_neg ha]
      have := namesF_spec l (ins ns (lower a.1)) (ins_SS h _)
      refine ⟨this.1, fun x => ?_⟩
      rw [this.2, ins_mem h]
      simp only [List.mem_cons, exists_eq_or_imp, ne_eq, ha, not_false_eq_true, true_and]
      constructor
      · rintro ((h | h) | h)
        · exact .inr (.inl h.symm)
        · exact .inl h
        · exact .inr (.inr h)
      · rintro (h | h | h)
        · exact .inl (.inr h)
        · exact .inl (.inl h.symm)
        · exact .inr h
theorem valsF_spec (n : Str) : ∀ (l : List Att) (vs : List Str), SS vs → SS (l.foldl (valsS n) vs) ∧ ∀ x, x ∈ l.foldl (valsS n) vs ↔ x ∈ vs ∨ ∃ a ∈ l, lower a.1 = n ∧ x ∈ a.2
  | [], vs, h => ⟨h, fun x => by simp⟩
  | a :: l, vs, h => by
    rw [List.foldl_cons]
    by_cases ha : lower a.1 = n
    · rw [valsS, if_pos ha]
      have h1 := insAll_spec a.2 vs h
      have := valsF_spec n l _ h1.1
      refine ⟨this.1, fun x => ?_⟩
      rw [this.2, h1.2]
      simp only [List.mem_cons, exists_eq_or_imp, ha, true_and]
      constructor
      · rintro ((h | h) | h) <;> simp [h]
      · rintro (h | h | h) <;> simp [h]
    · rw [valsS, if_neg ha]
      have := valsF_spec n l vs h
      refine ⟨this.1, fun x => ?_⟩
      rw [this.2]
      simp [ha]

/-! ### what the program's sort and compaction come to -/
theorem sortS_asc (l : List Str) : (sortS l).Pairwise fun x y => ¬ y < x := by
  have h := List.pairwise_mergeSort (le := fun x y : Str => decide (x ≤ y)) (fun a b c h1 h2 => by
    simp only [decide_eq_true_eq] at *
    exact List.le_trans h1 h2) (fun a b => by
    simp only [Bool.or_eq_true, decide_eq_true_eq]
    exact List.le_total a b) l
  exact h.imp fun h => by simpa using h
theorem sortS_mem (l : List Str) (x : Str) : x ∈ sortS l ↔ x ∈ l := by simp [sortS]

theorem compact_spec (zs : List Str) (h : zs.Pairwise fun x y => ¬ y < x) : ∀ m, m ≤ zs.length → SS (compactUpTo zs.toArray m) ∧ ∀ x, x ∈ compactUpTo zs.toArray m ↔ x ∈ zs.take m
  | 0, _ => by simp [compactUpTo, SS]
  | m + 1, hm => by
    obtain ⟨h1, h2⟩ := compact_spec zs h m (by omega)
    have hlt : m < zs.length := by omega
    have hg : zs.toArray[m]! = zs[m] := by rw [getElem!_pos _ m (by simpa using hlt)]; simp
    have asc : ∀ i (hi : i < m), ¬ zs[m] < zs[i]'(by omega) := fun i hi => List.pairwise_iff_getElem.1 h i m (by omega) hlt hi
    rw [compactUpTo_succ, hg, take_s hlt]
    by_cases hk : keeps zs.toArray m = true
    · rw [if_pos hk]
      refine ⟨List.pairwise_append.2 ⟨h1, by simp, fun x hx y hy => ?_⟩, fun x => by rw [List.mem_append, List.mem_append, h2 x]⟩
      rw [List.mem_singleton.1 hy]
      obtain ⟨i, hi, rfl⟩ := List.mem_iff_getElem.1 ((h2 x).1 hx)
      have him : i < m := by simp at hi; omega
      simp only [List.getElem_take]
      have hm0 : m ≠ 0 := by omega
      have hg1 : zs.toArray[m - 1]! = zs[m - 1] := by rw [getElem!_pos _ (m - 1) (by simp; omega)]; simp
      have hne : zs[m] ≠ zs[m - 1] := by simpa [keeps, hm0, hg, hg1] using hk
      have hlt2 : zs[m - 1] < zs[m] := Classical.byContradiction fun hc => hne (s_tri (asc (m - 1) (by omega)) hc)
      by_cases hc : zs[i] < zs[m - 1]
      · exact s_trans hc hlt2
      · by_cases hie : i = m - 1
        · subst hie; exact hlt2
        · have := List.pairwise_iff_getElem.1 h i (m - 1) (by omega) (by omega) (by omega)
          rw [s_tri hc this]; exact hlt2
    · rw [if_neg hk, List.append_nil]
      refine ⟨h1, fun x => ?_⟩
      rw [h2 x]
      have hk' : keeps zs.toArray m = false := by simpa using hk
      have hm0 : m ≠ 0 := fun e => by subst e; simp [keeps] at hk'
      have hg1 : zs.toArray[m - 1]! = zs[m - 1] := by rw [getElem!_pos _ (m - 1) (by simp; omega)]; simp
      have he : zs[m] = zs[m - 1] := by simpa [keeps, hm0, hg, hg1] using hk'
      have hin : zs[m] ∈ zs.take m := by
        rw [he]
        exact List.mem_iff_getElem.2 ⟨m - 1, by simp; omega, by simp⟩
      simp only [List.mem_append, List.mem_singleton]
      constructor
      · intro hx; exact .inl hx
      · rintro (hx | rfl)
        · exact hx
        · exact hin
theorem normV (vs : List Str) : SS (compact (sortS vs)) ∧ ∀ x, x ∈ compact (sortS vs) ↔ x ∈ vs := by
  have h := compact_spec (sortS vs) (sortS_asc vs) (sortS vs).length (Nat.le_refl _)
  refine ⟨h.1, fun x => ?_⟩
  rw [← sortS_mem vs x]
  have := h.2 x
  rw [List.take_length] at this
  exact this

/-! ### the grouping -/
theorem idxR_at {α : Type} (p : α → Bool) : ∀ (l : List α) (k : Nat), idxR p k l ≠ -1 → ∃ i : Nat, idxR p k l = ((k + i : Nat) : Int) ∧ ∃ h : i < l.length, p l[i] = true
  | [], k, h => absurd rfl h
  | x :: l, k, h => by
    rw [idxR] at h ⊢
    by_cases hx : p x = true
    · rw [if_pos hx]
      exact ⟨0, by simp, by simp, hx⟩
    · rw [if_neg hx] at h ⊢
      obtain ⟨i, h1, h2, h3⟩ := idxR_at p l (k + 1) h
      exact ⟨i + 1, by rw [h1]; omega, by simpa using h2, by simpa using h3⟩

/-- Name n has value v. -/
def Has (l : List Att) (n v : Str) : Prop := ∃ x ∈ l, x.1 = n ∧ v ∈ x.2

theorem addG_spec (acc : List Att) (a : Att) (hn : (acc.map (·.1)).Nodup) : ((addG acc a).map (·.1)).Nodup ∧ ∀ n v, Has (addG acc a) n v ↔ Has acc n v ∨ (lower a.1 = n ∧ v ∈ a.2) := by
  unfold addG
  split
  · rename_i h
    have hf := idxR_neg _ acc 0 h
    have hno : ∀ x ∈ acc, ¬ x.1 = lower a.1 := fun x hx => by
      have := List.filter_eq_self.1 hf x hx
      simpa using this
    refine ⟨?_, fun n v => ?_⟩
    · rw [List.map_append, List.nodup_append]
      refine ⟨hn, by simp, ?_⟩
      intro x hx y hy e
      simp at hy
      obtain ⟨z, hz, rfl⟩ := List.mem_map.1 hx
      exact hno z hz (e.trans hy)
    · simp only [Has, List.mem_append, List.mem_singleton]
      constructor
      · rintro ⟨x, hx | rfl, h1, h2⟩
        · exact .inl ⟨x, hx, h1, h2⟩
        · exact .inr ⟨h1, h2⟩
      · rintro (⟨x, hx, h1, h2⟩ | ⟨h1, h2⟩)
        · exact ⟨x, .inl hx, h1, h2⟩
        · exact ⟨_, .inr rfl, h1, h2⟩
  · rename_i h
    obtain ⟨i, h1, hi, h3⟩ := idxR_at _ acc 0 h
    simp only [Nat.zero_add] at h1
    simp only [decide_eq_true_eq] at h3
    rw [h1, Int.toNat_natCast, modify_set (fun x : Att => (x.1, x.2 ++ a.2)) acc i acc[i] (List.getElem?_eq_getElem hi)]
    refine ⟨?_, fun n v => ?_⟩
    · rw [List.map_set]
      have := List.set_getElem_self (i := i) (show i < (acc.map (·.1)).length by simpa using hi)
      rw [List.getElem_map] at this
      rw [this]; exact hn
    · simp only [Has]
      constructor
      · rintro ⟨x, hx, e1, e2⟩
        obtain ⟨j, hj, rfl⟩ := List.mem_iff_getElem.1 hx
        have hj' : j < acc.length := by simpa using hj
        by_cases hij : i = j
        · subst hij
          rw [List.getElem_set_self] at e1 e2
          simp only [List.mem_append] at e1 e2
          rcases e2 with e2 | e2
          · exact .inl ⟨_, List.getElem_mem hi, e1, e2⟩
          · exact .inr ⟨h3.symm.trans e1, e2⟩
        · rw [List.getElem_set_ne hij] at e1 e2
          exact .inl ⟨_, List.getElem_mem hj', e1, e2⟩
      · rintro (⟨x, hx, e1, e2⟩ | ⟨e1, e2⟩)
        · obtain ⟨j, hj, rfl⟩ := List.mem_iff_getElem.1 hx
          by_cases hij : i = j
          · subst hij
            refine ⟨_, List.mem_iff_getElem.2 ⟨i, by simpa using hi, List.getElem_set_self _⟩, e1, by simp [e2]⟩
          · exact ⟨_, List.mem_iff_getElem.2 ⟨j, by simpa using hj, List.getElem_set_ne hij _⟩, e1, e2⟩
        · exact ⟨_, List.mem_iff_getElem.2 ⟨i, by simpa using hi, List.getElem_set_self _⟩, h3.trans e1, by simp [e2]⟩

theorem grp_spec (l : List Att) : ((grp l).map (·.1)).Nodup ∧ ∀ n v, Has (grp l) n v ↔ ∃ a ∈ l, lower a.1 = n ∧ v ∈ a.2 := by
  have key : ∀ (l acc : List Att), (acc.map (·.1)).Nodup → ((l.foldl addG acc).map (·.1)).Nodup ∧ ∀ n v, Has (l.foldl addG acc) n v ↔ Has acc n v ∨ ∃ a ∈ l, lower a.1 = n ∧ v ∈ a.2 := by
    intro l
    induction l with
    | nil => intro acc h; exact ⟨h, fun n v => by simp⟩
    | cons a l ih =>
      intro acc h
      have h1 := addG_spec acc a h
      have h2 := ih _ h1.1
      refine ⟨h2.1, fun n v => ?_⟩
      rw [List.foldl_cons, h2.2, h1.2]
      simp only [List.mem_cons, exists_eq_or_imp, or_assoc]
  have := key l [] (by simp)
  exact ⟨this.1, fun n v => by rw [show grp l = l.foldl addG [] from rfl, this.2]; simp [Has]⟩

/-- What the program returns is the normal form of the specification. -/
theorem normal_eq (l out : List Att) (hp : out.Perm (((grp l).filter nonE).map normA)) (hs : ∀ i j (_ : i < j) (hj : j < out.length), Op.bytesLess out[j].1 (out[i]'(by omega)).1 = false) : out = sortedL l := by
  obtain ⟨g1, g2⟩ := grp_spec l
  have hnames : (out.map (·.1)).Perm (((grp l).filter nonE).map (·.1)) := by
    have := hp.map (·.1)
    rw [List.map_map] at this
    exact this
  have hnd : (out.map (·.1)).Nodup := hnames.nodup_iff.2 (g1.sublist (List.filter_sublist.map _))
  have hSS : SS (out.map (·.1)) := by
    refine List.pairwise_iff_getElem.2 fun i j hi hj hij => ?_
    have hj' : j < out.length := by simpa using hj
    have h1 := hs i j hij hj'
    rw [bl_f] at h1
    simp only [List.getElem_map]
    refine Classical.byContradiction fun hc => ?_
    have he := s_tri hc h1
    exact List.pairwise_iff_getElem.1 hnd i j hi hj hij (by simpa using he)
  have hN := namesF_spec l [] (by simp [SS])
  have e1 : out.map (·.1) = namesF l := by
    refine SS_ext hSS hN.1 fun n => ?_
    rw [hnames.mem_iff, show namesF l = l.foldl namesS [] from rfl, hN.2]
    simp only [List.mem_map, List.mem_filter, List.not_mem_nil, false_or]
    constructor
    · rintro ⟨x, ⟨hx, hne⟩, rfl⟩
      have hne' : x.2 ≠ [] := by simpa [nonE] using hne
      obtain ⟨v, hv⟩ := List.exists_mem_of_ne_nil _ hne'
      obtain ⟨a, ha, e, hav⟩ := (g2 x.1 v).1 ⟨x, hx, rfl, hv⟩
      exact ⟨a, ha, List.ne_nil_of_mem hav, e⟩
    · rintro ⟨a, ha, hne, e⟩
      obtain ⟨v, hv⟩ := List.exists_mem_of_ne_nil _ hne
      obtain ⟨x, hx, e2, hxv⟩ := (g2 n v).2 ⟨a, ha, e, hv⟩
      exact ⟨x, ⟨hx, by simp [nonE]; exact List.ne_nil_of_mem hxv⟩, e2⟩
  have e2 : ∀ x ∈ out, x.2 = valsF l x.1 := by
    intro x hx
    obtain ⟨y, hy, rfl⟩ := List.mem_map.1 (hp.mem_iff.1 hx)
    have hyg := (List.mem_filter.1 hy).1
    have hv := normV y.2
    have hV := valsF_spec y.1 l [] (by simp [SS])
    refine SS_ext hv.1 hV.1 fun v => ?_
    rw [show valsF l (normA y).1 = l.foldl (valsS y.1) [] from rfl, hV.2]
    refine (hv.2 v).trans ?_
    simp only [List.not_mem_nil, false_or]
    rw [← g2 y.1 v]
    constructor
    · intro h; exact ⟨y, hyg, rfl, h⟩
    · rintro ⟨z, hz, e, h⟩
      obtain ⟨i, hi, rfl⟩ := List.mem_iff_getElem.1 hz
      obtain ⟨j, hj, rfl⟩ := List.mem_iff_getElem.1 hyg
      have hij : i = j := by
        have h1 := List.pairwise_iff_getElem.1 g1
        rcases Nat.lt_trichotomy i j with h2 | h2 | h2
        · have h3 := h1 i j (by simpa using hi) (by simpa using hj) h2
          simp only [List.getElem_map] at h3
          exact absurd e h3
        · exact h2
        · have h3 := h1 j i (by simpa using hj) (by simpa using hi) h2
          simp only [List.getElem_map] at h3
          exact absurd e.symm h3
      subst hij; exact h
  have e3 : out = out.map fun x => (x.1, valsF l x.1) := by
    conv => lhs; rw [← List.map_id' out]
    refine List.map_congr_left fun x hx => ?_
    rw [← e2 x hx]
  rw [e3, sortedL, ← e1, List.map_map]
  rfl
end Go.Proofs.Tz

namespace Go.Proofs.Tz
open Go.Vw
set_option maxRecDepth 100000
set_option maxHeartbeats 8000000
set_option linter.unusedSimpArgs false

theorem fz_rows (H : List AV) : ∀ rs : List Row, (∀ r ∈ rs, hnd r ∈ H) → FzL H (rs.map rowD) ((rs.map nv).map att)
  | [], _ => .nil
  | r :: rs, h => .cons (.agg (.cons (.same _) (.cons (.sl (h r (by simp))) .nil))) (fz_rows H rs fun x hx => h x (by simp [hx]))

theorem sorted_fn (l : List Att) (hl : Fit2 l) : Ctr Tryz.prog 28 [.d (atts l)] (.own true 50 ((sortedL l).map att)) := by
  refine (sortedG_fn l hl).frozen (by simp) ?_
  rintro r hs ⟨rs, rfl, rfl, hp, ha⟩
  refine ⟨_, rfl, ?_⟩
  have := normal_eq l (rs.map nv) hp (fun i j hij hj => by
    have := ha i j hij (by simpa using hj)
    simpa [nv] using this)
  rw [← this]
  exact fz_rows _ rs fun r hr => List.mem_map.2 ⟨r, hr, rfl⟩
end Go.Proofs.Tz

namespace Go.Proofs.Tz
open Go.Vw
set_option maxRecDepth 100000
set_option maxHeartbeats 8000000
set_option linter.unusedSimpArgs false

theorem findQ_fn (x : Str × Sl) (n : Str) : Ctr Tryz.prog 84 [.d (rw2 x), .d (.ref (.str n))] (.d (.bool (decide (x.1 = n)))) := by
  refine fn_of_vwp (fun _ => false) (by kernel_rfl) Tryz.func84 (by kernel_rfl) rfl rfl (Nat.le_of_ble_eq_true rfl) (by kernel_rfl) rfl rfl ?_
  simp -implicitDefEqProofs [rw2]

theorem findRows_fn (rows : List (Str × Sl)) (name : Str) (hl : rows.length < 1000000) (hn : List.length name < 1000000) : Ctr Tryz.prog 54 [.d (.sl (rows.map rw2)), .d (.str name)] (.d (.int .i64 (idxR (fun x => decide (x.1 = lower name)) 0 rows))) := by
  refine fn_of_vwp (fun _ => false) (by kernel_rfl) Tryz.func54 (by kernel_rfl) rfl rfl (Nat.le_of_ble_eq_true rfl) (by kernel_rfl) rfl rfl ?_
  simp -implicitDefEqProofs
  refine callK (foldLower_fn _ hn) ?_
  simp -implicitDefEqProofs
  refine callK (indexR_fn 84 [.ref (.str (lower name))] rfl (fun x => decide (x.1 = lower name)) rows hl (fun a _ => findQ_fn a _)) ?_
  simp -implicitDefEqProofs

theorem findA_idx (n : Str) : ∀ (l : List Att) (k : Nat), (idxR (fun x : Att => decide (x.1 = n)) k l = -1 ∧ findA n l = []) ∨ ∃ i, ∃ h : i < l.length, idxR (fun x : Att => decide (x.1 = n)) k l = ((k + i : Nat) : Int) ∧ findA n l = l[i].2
  | [], k => .inl ⟨rfl, rfl⟩
  | x :: l, k => by
    rw [idxR, findA]
    by_cases hx : x.1 = n
    · exact .inr ⟨0, by simp, by simp [hx]⟩
    · simp only [hx, decide_false, Bool.false_eq_true, if_false]
      rcases findA_idx n l (k + 1) with h | ⟨i, h1, h2, h3⟩
      · exact .inl h
      · exact .inr ⟨i + 1, by simpa using h1, by rw [h2]; omega, by simpa using h3⟩

theorem get_fn (l : List Att) (name : Str) (hl : Fit2 l) (hn : List.length name < 1000000) : Ctr Tryz.prog 27 [.d (atts l), .d (.str name)] (.own true 9 ((getL l name).map .str)) := by
  refine fn_of_vwp (fun i => i == 4 || i == 5000009 || i == 2000012) (by kernel_rfl) Tryz.func27 (by kernel_rfl) rfl rfl (Nat.le_of_ble_eq_true rfl) (by kernel_rfl) rfl rfl ?_
  simp -implicitDefEqProofs
  refine givK0 (sortedG_fn l hl).shaped ?_ ?_
  · rintro r hs ⟨⟨rs, rfl, rfl, _⟩, _⟩ x hx
    obtain ⟨r, _, rfl⟩ := List.mem_map.1 hx
    rfl
  rintro r hs τ ⟨⟨rs, rfl, rfl, hp, ha⟩, hsh⟩ hhi hlo
  have h1 : τ 1 = .d (.str name) := (hlo 1 (by decide) (by simp [initG])).trans (by simp [initG])
  have h9 : τ 9 = .own true 50 (rs.map rowD) := (hlo 9 (by decide) (by simp)).trans (by simp)
  have hn2 : rs.map nv = sortedL l := normal_eq l (rs.map nv) hp (fun i j hij hj => by
    have := ha i j hij (by simpa using hj)
    simpa [nv] using this)
  have hrl : rs.length ≤ l.length := by
    have := sorted_len l
    rw [← hn2] at this
    simpa using this
  have hl1 := hl.1.1
  have hH : ∀ i (h : i < rs.length), τ (1000000 + i) = hnd rs[i] := fun i h => by rw [hhi i (by simpa using h)]; simp
  clear hhi hlo hp ha
  simp -implicitDefEqProofs [h1, h9]
  have hmr : rs.map rowD = (rs.map pr).map rw2 := by simp [rowD]
  rw [hmr]
  refine lendK (findRows_fn (rs.map pr) name (by simp; omega) hn) rfl ?_
  rw [← hmr]
  have hidx : idxR (fun x : Str × Sl => decide (x.1 = lower name)) 0 (rs.map pr) = idxR (fun x : Att => decide (x.1 = lower name)) 0 (sortedL l) := by
    rw [← hn2, idxR_map, idxR_map]; rfl
  rw [hidx]
  rcases findA_idx (lower name) (sortedL l) 0 with ⟨e1, e2⟩ | ⟨i, hi, e1, e2⟩
  · simp -implicitDefEqProofs [h1, h9, e1, getL, e2]
  · have hir : i < rs.length := by rw [← hn2] at hi; simpa using hi
    have hi0 : ¬ (i : Int) < 0 := by omega
    simp only [Nat.zero_add] at e1
    have e3 : (sortedL l)[i].2 = rs[i].2.2 := by
      have : (rs.map nv)[i]'(by simpa using hir) = nv rs[i] := by simp
      have h2 : (sortedL l)[i] = nv rs[i] := by rw [← this]; congr 1; exact hn2.symm
      rw [h2]; rfl
    obtain ⟨A, c, he⟩ := hsh (hd rs[i]) 9 (rs[i].2.2.map .str) (List.mem_map.2 ⟨rs[i], List.getElem_mem hir, rfl⟩)
    simp only [hd, Value.slice.injEq, List.length_map] at he
    simp -implicitDefEqProofs [h1, h9, e1, hi0, hir, rowD, rw2, pr, he.2.1]
    refine ⟨1000000 + i, 9, rs[i].2.2.map .str, ?_, rfl, by simp, ?_⟩
    · simp [hh_ne, hh_ne', hH i hir, hnd, hd, he.2.1]
    have e4 : (rs[i].2.2.map D.str).take rs[i].2.2.length = rs[i].2.2.map .str := List.take_of_length_le (by simp)
    simp -implicitDefEqProofs [getL, e2, e3, e4]
end Go.Proofs.Tz

namespace Go.Proofs.Tz
open Go.Vw
set_option maxRecDepth 100000
set_option maxHeartbeats 4000000
set_option linter.unusedSimpArgs false

/-- Every string is short enough for the walk. -/
def FitS (l : List Str) : Prop := l.length < 1000000 ∧ ∀ v ∈ l, List.length v < 1000000

theorem values_fn (l : List Str) (hl : FitS l) : Ctr Tryz.prog 61 [.d (strs l)] (.d (.int .i64 (chkV [] [] l))) := by
  refine fn_of_vwp (fun _ => false) (by kernel_rfl) Tryz.func61 (by kernel_rfl) rfl rfl (Nat.le_of_ble_eq_true rfl) (by kernel_rfl) rfl rfl ?_
  obtain ⟨hl, hv⟩ := hl
  simp -implicitDefEqProofs [strs]
  refine loopN l.length (fun k τ => τ 0 = .d (.sl (l.map .str)) ∧ τ 5 = .d (.sl (l.map .str)) ∧ τ 6 = .d (.int .i64 l.length) ∧ τ 7 = .d (.int .i64 k) ∧ chkV [] [] l = chkV [] (l.take k) (l.drop k)) (by simp) ?_
  rintro k τ hk ⟨h0, h5, h6, h7, hc⟩
  by_cases hlt : k < l.length
  · rw [chkV_drop hlt] at hc
    simp -implicitDefEqProofs [h0, h5, h6, h7, hlt]
    refine callK (fclean_fn l[k] (hv _ (List.getElem_mem hlt))) ?_
    rw [cleanF_eq]
    by_cases e1 : cleanB l[k] = true
    · simp -implicitDefEqProofs [h0, h5, h6, h7, hlt, e1]
      have hf := contains_fn (l.take k) l[k] (by rw [List.length_take]; omega)
      simp only [strs, List.map_take] at hf
      refine ⟨hk, callK hf ?_⟩
      by_cases e3 : l[k] ∈ l.take k
      · simp -implicitDefEqProofs [h0, h5, h6, h7, hlt, e1, e3]
        rw [hc]; simp [e1, e3]
      · simp -implicitDefEqProofs [h0, h5, h6, h7, hlt, e1, e3]
        refine ⟨by omega, again hlt ⟨by simp [h0], by simp [h5], by simp [h6], by simp, ?_⟩⟩
        rw [hc]; simp [e1, e3]
    · simp -implicitDefEqProofs [h0, h5, h6, h7, hlt, e1]
      rw [hc]; simp [e1]
  · simp -implicitDefEqProofs [h0, h5, h6, h7, hlt]
    rw [hc, List.drop_eq_nil_of_le (by omega)]
    simp [chkV]

/-- The strings of attributes are short enough, too. -/
def FitV (l : List Att) : Prop := ∀ a ∈ l, ∀ v ∈ a.2, List.length v < 1000000

theorem check_fn (l : List Att) (hl : Fits l) (hv : FitV l) : Ctr Tryz.prog 30 [.d (atts l)] (.d (.int .i64 (checkL l))) := by
  refine fn_of_vwp (fun _ => false) (by kernel_rfl) Tryz.func30 (by kernel_rfl) rfl rfl (Nat.le_of_ble_eq_true rfl) (by kernel_rfl) rfl rfl ?_
  have hl1 := hl.1
  by_cases h32 : 32 < (l.length : Int)
  · have : 32 < l.length := by omega
    simp -implicitDefEqProofs [atts, checkL, h32, this]
    all_goals (intro h; omega)
  have h32' : ¬ 32 < l.length := by omega
  simp -implicitDefEqProofs [atts, h32]
  refine loopN l.length (fun k τ => τ 0 = .d (atts l) ∧ τ 11 = .d (atts l) ∧ τ 12 = .d (.int .i64 l.length) ∧ τ 13 = .d (.int .i64 k) ∧ checkL l = chkA (l.take k) (l.drop k)) (by simp [atts, checkL, h32']) ?_
  rintro k τ hk ⟨h0, h11, h12, h13, hc⟩
  by_cases hlt : k < l.length
  · rw [chkA_drop hlt] at hc
    simp -implicitDefEqProofs [h0, h11, h12, h13, hlt, atts, att, strs]
    refine callK (fname_fn l[k].1 (hl.2 _ (List.getElem_mem hlt)).1) ?_
    by_cases e1 : nameB l[k].1 = true
    · simp -implicitDefEqProofs [h0, h11, h12, h13, hlt, atts, att, strs, e1]
      refine ⟨hk, by rintro y n v _ rfl; rfl, ?_⟩
      refine loopN k (fun j τ => τ 0 = .d (atts l) ∧ τ 3 = .d (.int .i64 k) ∧ τ 4 = .box (att l[k]) ∧ τ 11 = .d (atts l) ∧ τ 12 = .d (.int .i64 l.length) ∧ τ 13 = .d (.int .i64 k) ∧ τ 24 = .d (atts (l.take k)) ∧ τ 25 = .d (.int .i64 k) ∧ τ 26 = .d (.int .i64 j) ∧ (l.take j).any (fun c => decide (lower c.1 = lower l[k].1)) = false) ?_ ?_
      · refine ⟨?_, ?_, ?_, ?_, ?_, ?_, ?_, ?_, ?_, ?_⟩
        all_goals simp [h0, h11, h12, h13, atts, att, strs, List.map_take]
        all_goals omega
      clear h0 h11 h12 h13 τ
      rintro j τ hj ⟨h0, h3, h4, h11, h12, h13, h24, h25, h26, hn⟩
      by_cases hjk : j < k
      · have hjl : j < l.length := by omega
        simp -implicitDefEqProofs [h0, h3, h4, h11, h12, h13, h24, h25, h26, hjk, hjl, hlt, atts, att, strs]
        refine callP (foldLower_fn _ (hl.2 _ (List.getElem_mem hlt)).1) ?_
        simp -implicitDefEqProofs [h0, h3, h4, h11, h12, h13, h24, h25, h26, hjk, hjl, hlt, atts, att, strs]
        refine callP (foldLower_fn _ (hl.2 _ (List.getElem_mem hjl)).1) ?_
        by_cases he : lower l[j].1 = lower l[k].1
        · simp -implicitDefEqProofs [h0, h3, h4, h11, h12, h13, h24, h25, h26, hjk, hjl, hlt, atts, att, strs, he]
          have e2 : (l.take k).any (fun c => decide (lower c.1 = lower l[k].1)) = true := List.any_eq_true.2 ⟨l[j], List.mem_iff_getElem.2 ⟨j, by simp; omega, by simp⟩, by simpa using he⟩
          rw [hc, if_neg (by simp [e1]), if_pos e2]
        · have he' : ¬ lower l[k].1 = lower l[j].1 := fun e => he e.symm
          simp -implicitDefEqProofs [h0, h3, h4, h11, h12, h13, h24, h25, h26, hjk, hjl, hlt, atts, att, strs, he, he']
          refine ⟨by omega, again hjk ⟨?_, ?_, ?_, ?_, ?_, ?_, ?_, ?_, ?_, ?_⟩⟩
          all_goals first | (simp [h0, h3, h4, h11, h12, h13, h24, h25, h26, atts, att, strs]; done) | skip
          rw [take_s hjl]
          intro a b hab e
          rcases List.mem_append.1 hab with h | h
          · exact List.any_eq_false.1 hn _ h (by simpa using e)
          · have : l[j].1 = a := by rw [← List.mem_singleton.1 h]
            exact he (by rw [this]; exact e)
      · have hjk2 : j = k := by omega
        subst hjk2
        by_cases e3 : l[j].2 = []
        · simp -implicitDefEqProofs [h0, h3, h4, h11, h12, h13, h24, h25, h26, hlt, atts, att, strs, e3]
          rw [hc]; simp [e1, hn, e3]
        · by_cases e4 : 16 < (l[j].2.length : Int)
          · have e4' : 16 < l[j].2.length := by omega
            simp -implicitDefEqProofs [h0, h3, h4, h11, h12, h13, h24, h25, h26, hlt, atts, att, strs, e3, e4]
            rw [hc]; simp only [e1, hn, if_false, Bool.true_eq_false, Bool.false_eq_true, List.length_eq_zero_iff, e3, e4', if_true]
          · have e4' : ¬ 16 < l[j].2.length := by omega
            simp -implicitDefEqProofs [h0, h3, h4, h11, h12, h13, h24, h25, h26, hlt, atts, att, strs, e3, e4]
            have hf := values_fn l[j].2 ⟨(hl.2 _ (List.getElem_mem hlt)).2, hv _ (List.getElem_mem hlt)⟩
            simp only [strs] at hf
            refine callK hf ?_
            by_cases e5 : chkV [] [] l[j].2 = 0
            · simp -implicitDefEqProofs [h0, h3, h4, h11, h12, h13, h24, h25, h26, hlt, atts, att, strs, e3, e4, e5]
              refine ⟨by omega, again hlt ⟨by simp [h0, atts, att, strs], by simp [h11, atts, att, strs], by simp [h12], by simp, ?_⟩⟩
              rw [hc]; simp only [e1, hn, e3, e4', e5, if_false, Bool.true_eq_false, Bool.false_eq_true, List.length_eq_zero_iff, ne_eq, not_true_eq_false]
            · simp -implicitDefEqProofs [h0, h3, h4, h11, h12, h13, h24, h25, h26, hlt, atts, att, strs, e3, e4, e5]
              rw [hc]; simp only [e1, hn, e3, e4', e5, if_false, Bool.true_eq_false, Bool.false_eq_true, List.length_eq_zero_iff, ne_eq, not_false_eq_true, if_true]
    · simp -implicitDefEqProofs [h0, h11, h12, h13, hlt, atts, att, strs, e1]
      rw [hc]; simp [e1]
  · simp -implicitDefEqProofs [h0, h11, h12, h13, hlt, atts]
    rw [hc, List.drop_eq_nil_of_le (by omega)]
    first | exact ⟨by omega, by simp [chkA]⟩ | (simp [chkV, chkA]; done)
end Go.Proofs.Tz

namespace Go.Proofs.Tz
open Go.Vw
set_option maxRecDepth 100000
set_option maxHeartbeats 4000000
set_option linter.unusedSimpArgs false

end Go.Proofs.Tz

namespace Go.Proofs.Tz
open Go.Vw
set_option maxRecDepth 100000
set_option maxHeartbeats 4000000
set_option linter.unusedSimpArgs false

/-! ### Pick -/
/-! ### set -/
theorem idxG_neg {α : Type} (p : α → Bool) : ∀ (l : List α) (k : Nat), idxG p k l = -1 → l.filter (fun x => !p x) = l
  | [], k, _ => rfl
  | x :: l, k, h => by
    rw [idxG] at h
    by_cases hx : p x = true
    · rw [if_pos hx] at h; omega
    · rw [if_neg hx] at h
      simp -implicitDefEqProofs [hx, idxG_neg p l (k + 1) h]
theorem idxG_pos {α : Type} (p : α → Bool) : ∀ (l : List α) (k : Nat), idxG p k l ≠ -1 → ∃ i : Nat, idxG p k l = ((k + i : Nat) : Int) ∧ i < l.length ∧ (l.take i).filter (fun x => !p x) = l.take i ∧ (l.take (i + 1)).filter (fun x => !p x) = l.take i
  | [], k, h => absurd rfl h
  | x :: l, k, h => by
    rw [idxG] at h ⊢
    by_cases hx : p x = true
    · rw [if_pos hx]
      exact ⟨0, by simp, by simp, by simp, by simp [hx]⟩
    · rw [if_neg hx] at h ⊢
      obtain ⟨i, h1, h2, h3, h4⟩ := idxG_pos p l (k + 1) h
      refine ⟨i + 1, by rw [h1]; omega, by simpa using h2, ?_, ?_⟩
      · simp -implicitDefEqProofs [hx, h3]
      · rw [List.take_succ_cons, List.filter_cons, if_pos (by simp [hx]), h4, List.take_succ_cons]

theorem deleteA_fn (g : FuncId) (cs : List D) (hcs : (cs.all fun c => !c.isAgg) = true) (p : Att → Bool) (l : List Att) (hl : l.length < 1000000) (hp : ∀ a ∈ l, Ctr Tryz.prog g ([.d (att a)] ++ cs.map .d) (.d (.bool (p a)))) :
    Ctr Tryz.prog 57 [.own true 50 (l.map att), .d (.clo g cs)] (.own true 50 ((l.filter fun x => !p x).map att)) := by
  refine fn_of_vwp (fun i => i == 2000010) (by kernel_rfl) Tryz.func57 (by kernel_rfl) rfl rfl (Nat.le_of_ble_eq_true rfl) (by kernel_rfl) rfl rfl ?_
  simp -implicitDefEqProofs
  refine lendK (indexA_fn g cs hcs p l hl hp) rfl ?_
  by_cases hn : idxG p 0 l = -1
  · simp -implicitDefEqProofs [hn, idxG_neg p l 0 hn]
  · obtain ⟨i, h1, h2, h3, h4⟩ := idxG_pos p l 0 hn
    simp only [Nat.zero_add] at h1
    have e1 : ¬ ((i : Int) = -1) := by omega
    simp -implicitDefEqProofs [h1, e1]
    refine ⟨by omega, ?_⟩
    refine loopK (fun n τ => ∃ (j q : Nat) (m : List Att), n = l.length - j ∧ j ≤ l.length ∧ τ 0 = .own true 50 (m.map att) ∧ τ 1 = .d (.clo g cs) ∧ τ 5 = .d (.int .i64 q) ∧ τ 6 = .d (.int .i64 j) ∧ m.length = l.length ∧ q < j ∧ m.take q = (l.take j).filter (fun x => !p x) ∧ m.drop j = l.drop j)
      (l.length - (i + 1)) ⟨i + 1, i, l, rfl, by omega, by simp, by simp, by simp, by simp, rfl, by omega, h4.symm, rfl⟩ ?_
    rintro n τ ⟨j, q, m, rfl, hj, g0, g1, g5, g6, hm, hq, ht, hd⟩
    by_cases hlt : j < l.length
    · have hmj : m[j]'(by omega) = l[j] := by
        have := congrArg (fun x : List Att => x[0]?) hd
        simpa [hlt, hm] using this
      have hf := hp _ (List.getElem_mem hlt)
      simp only [att, strs, List.cons_append, List.nil_append] at hf
      have hlt' : (j : Int) < l.length := by omega
      simp -implicitDefEqProofs [g0, g1, g5, g6, hm, hlt', hlt, att, strs, hmj]
      refine ⟨by simpa using hcs, callK hf ?_⟩
      by_cases he : p l[j] = true
      · simp -implicitDefEqProofs [g0, g1, g5, g6, hm, hlt', hlt, att, strs, hmj, he]
        refine ⟨by omega, _, ?_, j + 1, rfl, by omega, q, m, rfl, rfl, by omega, hm, by omega, ?_, ?_⟩
        · omega
        · rw [take_s hlt, List.filter_append, ht]; simp [he]
        · rw [← List.drop_drop, hd, List.drop_drop]
      · have hq2 : q < m.length := by omega
        have hqq : m[q]? = some m[q] := List.getElem?_eq_getElem hq2
        simp -implicitDefEqProofs [g0, g1, g5, g6, hm, hlt', hlt, att, strs, hmj, he, hqq]
        refine ⟨by omega, by omega, by omega, _, ?_, j + 1, rfl, by omega, q + 1, m.set q l[j], ?_, by simp, by simp, by simpa using hm, by omega, ?_, ?_⟩
        · omega
        · rw [List.map_set]; rfl
        · rw [List.take_set, take_s hq2, List.set_append_right _ _ (by simp; omega)]
          simp only [List.length_take, Nat.min_eq_left (Nat.le_of_lt hq2), Nat.sub_self, List.set_cons_zero]
          rw [take_s hlt, List.filter_append, ht]; simp [he]
        · rw [List.drop_set_of_lt (by omega), ← List.drop_drop, hd, List.drop_drop]
    · simp -implicitDefEqProofs [g0, g1, g5, g6, hm, hlt]
      have hjl : j = l.length := by omega
      subst hjl
      refine ⟨by omega, by omega, ?_⟩
      rw [List.take_append_of_le_length (by simp; omega), List.take_take, Nat.min_self, ← List.map_take, ht, List.take_length]
end Go.Proofs.Tz

namespace Go.Proofs.Tz
open Go.Vw
set_option maxRecDepth 100000
set_option maxHeartbeats 4000000
set_option linter.unusedSimpArgs false

def setL (l : List Att) (name : Str) (v : List Str) : List Att := sortedL ((l.filter fun x => !decide (x.1 = lower name)) ++ [(lower name, v)])
def limL (l : List Att) (name : Str) : List Att × Int := if 32 < l.length ∨ 16 < (getL l name).length then ([], 3) else (l, 0)
end Go.Proofs.Tz

namespace Go.Proofs.Tz
open Go.Vw
set_option maxRecDepth 100000
set_option maxHeartbeats 4000000
set_option linter.unusedSimpArgs false

/-- The program's Replace. -/
def replP (l : List Att) (name : Str) (v : List Str) : List Att × Int :=
  if nameB name = false then ([], 5) else if chkV [] [] v ≠ 0 then ([], chkV [] [] v) else if 16 < v.length then ([], 3) else limL (setL (sortedL l) name v) name

def withP (l : List Att) (name : Str) (v : List Str) : List Att := ((sortedL l).filter fun x => !decide (x.1 = lower name)) ++ [(lower name, v)]

/-- The program's Add. -/
def addP (l : List Att) (name : Str) (v : List Str) : List Att × Int :=
  if nameB name = false then ([], 5) else if v = [] then ([], 6) else if chkV (getL l name) [] v ≠ 0 then ([], chkV (getL l name) [] v) else limL (setL (sortedL l) name (getL l name ++ v)) name

end Go.Proofs.Tz

namespace Go.Proofs.Tz
open Go.Vw
set_option maxRecDepth 100000
set_option maxHeartbeats 4000000
set_option linter.unusedSimpArgs false

/-- The values that are left; none if one is lacking. -/
def remV : List Str → List Str → Option (List Str)
  | old, [] => some old
  | old, v :: l => if idxG (fun x => decide (v = x)) 0 old = -1 then none else remV (old.eraseIdx (idxG (fun x => decide (v = x)) 0 old).toNat) l

/-- The program's Remove. -/
def remO (l : List Att) (name : Str) : Option (List Str) → List Att × Int
  | none => ([], 6)
  | some o => (setL (sortedL l) name o, 0)
def removeP (l : List Att) (name : Str) (v : List Str) : List Att × Int :=
  if nameB name = false then ([], 5) else if getL l name = [] then ([], 6) else if v = [] then (setL (sortedL l) name [], 0) else remO l name (remV (getL l name) v)

end Go.Proofs.Tz

namespace Go.Proofs.Tz
open Go.Vw
set_option maxRecDepth 100000
set_option maxHeartbeats 4000000
set_option linter.unusedSimpArgs false

/-- The bytes of strings. -/
def bytesL (l : List Str) : Nat := (l.map List.length).sum
theorem bytesL_take {l : List Str} {k : Nat} (h : k < l.length) : bytesL (l.take (k + 1)) = bytesL (l.take k) + List.length l[k] := by
  rw [take_s h]; simp only [bytesL, List.map_append, List.sum_append, List.map_cons, List.map_nil, List.sum_cons, List.sum_nil, Nat.add_zero]
theorem bytesL_le (l : List Str) (k : Nat) : bytesL (l.take k) ≤ bytesL l := by
  have : bytesL l = bytesL (l.take k) + bytesL (l.drop k) := by
    conv => lhs; rw [← List.take_append_drop k l]
    simp only [bytesL, List.map_append, List.sum_append]
  omega
theorem bytesL_mem {l : List Str} {x : Str} (h : x ∈ l) : List.length x ≤ bytesL l := by
  induction l with
  | nil => simp at h
  | cons y l ih =>
    simp only [bytesL, List.map_cons, List.sum_cons] at ih ⊢
    rcases List.mem_cons.1 h with rfl | h
    · omega
    · have := ih h; omega
def fewB (l : List Str) : Bool := decide (l.length ≤ 20) && decide (bytesL l ≤ 3000)

/-- Every string is within the reach of the form. -/
def ReachS (l : List Str) : Prop := ∀ v ∈ l, List.length v ≤ 140737488351232
theorem bytesL_reach {l : List Str} (h : ReachS l) : bytesL l ≤ l.length * 140737488351232 := by
  induction l with
  | nil => simp [bytesL]
  | cons v l ih =>
    have h1 := h v (by simp)
    have h2 := ih fun x hx => h x (by simp [hx])
    simp only [bytesL, List.map_cons, List.sum_cons, List.length_cons] at h2 ⊢
    omega
theorem ReachS.take {l : List Str} (h : ReachS l) (k : Nat) : ReachS (l.take k) := fun v hv => h v (List.mem_of_mem_take hv)
end Go.Proofs.Tz

namespace Go.Proofs.Tz
open Go.Vw
set_option maxRecDepth 100000
set_option maxHeartbeats 4000000
set_option linter.unusedSimpArgs false

/-- The bytes of attributes. -/
def bytesT (l : List Att) : Nat := (l.map fun a => List.length a.1 + bytesL a.2).sum
theorem bytesT_take {l : List Att} {k : Nat} (h : k < l.length) : bytesT (l.take (k + 1)) = bytesT (l.take k) + (List.length l[k].1 + bytesL l[k].2) := by
  rw [take_s h]; simp only [bytesT, List.map_append, List.sum_append, List.map_cons, List.map_nil, List.sum_cons, List.sum_nil, Nat.add_zero]
theorem bytesT_le (l : List Att) (k : Nat) : bytesT (l.take k) ≤ bytesT l := by
  have : bytesT l = bytesT (l.take k) + bytesT (l.drop k) := by
    conv => lhs; rw [← List.take_append_drop k l]
    simp only [bytesT, List.map_append, List.sum_append]
  omega
theorem total_s {l : List Att} {k : Nat} (h : k < l.length) : total (l.take (k + 1)) = total (l.take k) + l[k].2.length := by
  rw [take_s h, total_app]; simp [total]
theorem total_le (l : List Att) (k : Nat) : total (l.take k) ≤ total l := by
  have : total l = total (l.take k) + total (l.drop k) := by
    conv => lhs; rw [← List.take_append_drop k l]
    rw [total_app]
  omega
def shortB (l : List Att) : Bool := decide (l.length ≤ 40) && (l.all fun a => decide (a.2.length ≤ 20)) && decide (total l ≤ 300) && decide (bytesT l ≤ 6000)

/-- Every string is within the reach of the form. -/
def Reach (l : List Att) : Prop := ∀ a ∈ l, List.length a.1 ≤ 140737488351232 ∧ ReachS a.2
theorem bytesT_reach {l : List Att} (h : Reach l) (h20 : ∀ a ∈ l, a.2.length ≤ 20) : bytesT l ≤ l.length * 2955487255375872 := by
  induction l with
  | nil => simp [bytesT]
  | cons a l ih =>
    have h1 := h a (by simp)
    have h2 := ih (fun x hx => h x (by simp [hx])) (fun x hx => h20 x (by simp [hx]))
    have h3 := bytesL_reach h1.2
    have h4 := h20 a (by simp)
    simp only [bytesT, List.map_cons, List.sum_cons, List.length_cons] at h2 ⊢
    omega
theorem total_reach {l : List Att} (h20 : ∀ a ∈ l, a.2.length ≤ 20) : total l ≤ l.length * 20 := by
  induction l with
  | nil => simp [total]
  | cons a l ih =>
    have h2 := ih (fun x hx => h20 x (by simp [hx]))
    have h4 := h20 a (by simp)
    simp only [total, List.map_cons, List.sum_cons, List.length_cons] at h2 ⊢
    omega
end Go.Proofs.Tz

namespace Go.Proofs.Tz
open Go.Vw Go.Lib
set_option linter.unusedSimpArgs false

theorem sorted_perm (l : List Att) : (sortedL l).Perm (((grp l).filter nonE).map normA) := by
  have hp : ((((grp l).filter nonE).map normA).mergeSort fun a b => decide (a.1 ≤ b.1)).Perm (((grp l).filter nonE).map normA) := List.mergeSort_perm _ _
  have hs := List.pairwise_mergeSort (le := fun a b : Att => decide (a.1 ≤ b.1)) (fun a b c h1 h2 => by
    simp only [decide_eq_true_eq] at *
    exact List.le_trans h1 h2) (fun a b => by
    simp only [Bool.or_eq_true, decide_eq_true_eq]
    exact List.le_total a.1 b.1) (((grp l).filter nonE).map normA)
  rw [← normal_eq l _ hp (fun i j hij hj => by
    have := List.pairwise_iff_getElem.1 hs i j (by omega) hj hij
    rw [bl_f]
    simpa using this)]
  exact hp

theorem compact_len (l : List Str) : (compact l).length ≤ l.length := by
  have key : ∀ m, (compactUpTo l.toArray m).length ≤ m := by
    intro m
    induction m with
    | zero => simp [compactUpTo]
    | succ m ih =>
      rw [compactUpTo_succ]
      split <;> simp <;> omega
  exact key l.length
theorem total_perm {a b : List Att} (h : a.Perm b) : total a = total b := (h.map _).sum_nat
theorem total_norm (l : List Att) : total ((l.filter nonE).map normA) ≤ total l := by
  induction l with
  | nil => simp [total]
  | cons a l ih =>
    have hc := compact_len (sortS a.2)
    have hs : (sortS a.2).length = a.2.length := by simp [sortS]
    rw [List.filter_cons]
    split
    · simp only [List.map_cons, total, List.sum_cons] at ih ⊢
      simp only [normA]
      omega
    · simp only [total, List.map_cons, List.sum_cons] at ih ⊢
      omega
theorem total_sorted (l : List Att) : total (sortedL l) ≤ total l := by
  rw [total_perm (sorted_perm l), ← total_grp l]
  exact total_norm _
theorem sorted_name {l : List Att} {x : Att} (h : x ∈ sortedL l) : ∃ a ∈ l, a.2 ≠ [] ∧ lower a.1 = x.1 := by
  obtain ⟨n, hn, rfl⟩ := List.mem_map.1 h
  have hN := (namesF_spec l [] (by simp [SS])).2 n
  rw [show l.foldl namesS [] = namesF l from rfl] at hN
  rcases hN.1 hn with h | h
  · simp at h
  · exact h
theorem sorted_val {l : List Att} {x : Att} (h : x ∈ sortedL l) {v : Str} (hv : v ∈ x.2) : ∃ a ∈ l, lower a.1 = x.1 ∧ v ∈ a.2 := by
  obtain ⟨n, hn, rfl⟩ := List.mem_map.1 h
  have hV := (valsF_spec n l [] (by simp [SS])).2 v
  rw [show l.foldl (valsS n) [] = valsF l n from rfl] at hV
  rcases hV.1 hv with h | h
  · simp at h
  · exact h
theorem total_mem' {l : List Att} {x : Att} (h : x ∈ l) : x.2.length ≤ total l := total_mem h
theorem sorted_fit2 {l : List Att} (hl : Fit2 l) : Fit2 (sortedL l) := by
  refine ⟨⟨Nat.lt_of_le_of_lt (sorted_len l) hl.1.1, fun x hx => ⟨?_, ?_⟩⟩, Nat.lt_of_le_of_lt (total_sorted l) hl.2⟩
  · obtain ⟨a, ha, _, e⟩ := sorted_name hx
    rw [← e, lower_len]
    exact (hl.1.2 a ha).1
  · have h1 := total_mem hx
    have h2 := total_sorted l
    have h3 := hl.2
    omega
theorem sorted_fitV {l : List Att} (hl : FitV l) : FitV (sortedL l) := fun x hx v hv => by
  obtain ⟨a, ha, _, h⟩ := sorted_val hx hv
  exact hl a ha v h
end Go.Proofs.Tz

/- Rules: Apply and Account, in both. -/
set_option maxRecDepth 100000
set_option maxHeartbeats 4000000
set_option linter.unusedVariables false
set_option linter.unusedSimpArgs false
namespace Go.Proofs.Tz
open Go.Vw Go.RowKit Go.Proofs

/-- What a rule computes. -/
def compR (a : List Att) (r : Rule) : List Str := match parsedF r.2.2 with
  | some (f, v) => compF f.1 v (getL a r.2.1)
  | none => []
def nextA (a : List Att) (r : Rule) (out : List Att) : List Att := sortedL (out ++ [(r.1, compR a r)])
def applyGo (a : List Att) : List Rule → List Att → List Att × Int
  | [], out => (out, 0)
  | r :: l, out => if (compR a r).all cleanB = false then ([], 8)
      else if 32 < (nextA a r out).length ∨ 16 < (getL (nextA a r out) r.1).length then ([], 3) else applyGo a l (nextA a r out)
def applyM (l : List Rule) (a : List Att) : List Att × Int := if checkM l = 0 then applyGo a l [] else ([], checkM l)

theorem chkRs_all : ∀ {l : List Rule}, chkRs l = 0 → ∀ r ∈ l, chkRule r = 0
  | [], _, _, h => by simp at h
  | r :: l, h, x, hx => by
    simp only [chkRs] at h
    split at h
    · rename_i h0
      rcases List.mem_cons.1 hx with rfl | hx
      · exact h0
      · exact chkRs_all h x hx
    · rename_i h0; exact absurd h h0
theorem checkM_all {l : List Rule} (h : checkM l = 0) : ∀ r ∈ l, chkRule r = 0 := by
  unfold checkM at h
  split at h
  · cases h
  · exact chkRs_all h
theorem chkRule_form {r : Rule} (h : chkRule r = 0) : nameB r.1 = true ∧ ∃ f v, parsedF r.2.2 = some (f, v) := by
  unfold chkRule at h
  split at h
  · cases h
  · rename_i hn
    refine ⟨by simpa using hn, ?_⟩
    split at h
    · cases h
    · rename_i f v hp
      exact ⟨f, v, hp⟩

/-- What rules need of the attributes. -/
def FitA (l : List Rule) (a : List Att) : Prop := FitR l ∧ Fit2 a ∧ ∀ r ∈ l, List.length r.2.2 ≤ 400 ∧ GoodV (getL a r.2.1)

theorem compF_len (n v : Str) (vs : List Str) (h : vs.length ≤ 200) : (compF n v vs).length ≤ 200 := by
  unfold compF
  repeat' split
  all_goals first | (simp; omega) | simp_all
theorem compF_val (n v : Str) (vs : List Str) (hg : GoodV vs) (hv : List.length v ≤ 400) : ∀ x ∈ compF n v vs, List.length x < 1000000 := by
  intro x hx
  unfold compF at hx
  split at hx
  · obtain ⟨y, hy, rfl⟩ := List.mem_map.1 hx
    have := hg.2 y hy
    rw [lower_len]; omega
  split at hx
  · have := hg.2 x (List.mem_of_mem_take hx); omega
  split at hx
  · simp at hx; subst hx; omega
  split at hx
  · split at hx
    · simp at hx
    · simp at hx; subst hx
      have h1 := join_len vs v 300 hg.2
      have h2 := hg.1
      have : vs.length * (300 + List.length v) ≤ 200 * 700 := Nat.mul_le_mul h2 (by omega)
      omega
  split at hx
  · obtain ⟨y, hy, rfl⟩ := List.mem_map.1 hx
    have := hg.2 y hy
    simp; omega
  · have := hg.2 x hx; omega

def ApplyI (R : List Att × Int) (l : List Rule) (a : List Att) (k : Nat) (out : List Att) : Prop := out.length ≤ 32 ∧ Fit2 out ∧ total out ≤ 201 * k ∧ R = applyGo a (l.drop k) out

theorem fit_snoc {out : List Att} {T : Str} {vs : List Str} {k : Nat} (h1 : out.length ≤ 32) (h2 : Fit2 out) (h3 : total out ≤ 201 * k) (hk : k ≤ 64) (hT : List.length T < 1000000) (hv : vs.length ≤ 200) :
    Fit2 (out ++ [(T, vs)]) ∧ total (out ++ [(T, vs)]) ≤ 201 * k + 200 := by
  have ht : total (out ++ [(T, vs)]) = total out + vs.length := by simp [total]
  refine ⟨⟨⟨by simp; omega, fun x hx => ?_⟩, by omega⟩, by omega⟩
  rcases List.mem_append.1 hx with hx | hx
  · exact h2.1.2 x hx
  · rw [List.mem_singleton.1 hx]; exact ⟨hT, by simp; omega⟩

theorem applyGo_cons (a : List Att) (r : Rule) (l : List Rule) (out : List Att) : applyGo a (r :: l) out = if (compR a r).all cleanB = false then ([], 8)
      else if 32 < (nextA a r out).length ∨ 16 < (getL (nextA a r out) r.1).length then ([], 3) else applyGo a l (nextA a r out) := rfl

def ApplyS (R : List Att × Int) (l : List Rule) (a : List Att) (k : Nat) (τ : St) : Prop := τ 21 = .d (.sl (l.map ruleD)) ∧ τ 22 = .d (.int .i64 l.length) ∧ τ 23 = .d (.int .i64 k) ∧ τ 1 = .d (atts a) ∧ ∃ out, τ 7 = .own false 50 (out.map att) ∧ ApplyI R l a k out

theorem apply_fn (l : List Rule) (a : List Att) (h : FitA l a) : Ctr Tryz.prog 22 [.d (rules l), .d (atts a)] (.tup [.d (atts (applyM l a).1), .d (.int .i64 (applyM l a).2)]) := by
  obtain ⟨hl, ha, hg⟩ := h
  refine fn_of_vwpN (rv := .tmp 4) (rs := [.tmp 5]) (r := .d (atts (applyM l a).1)) (ys := [.d (.int .i64 (applyM l a).2)]) (fun _ => false) (by kernel_rfl) Tryz.func22 (by kernel_rfl) rfl rfl (by simp) (Nat.le_of_ble_eq_true rfl) (by kernel_rfl) rfl rfl ?_
  simp -implicitDefEqProofs
  refine callK (mcheck_fn l hl) ?_
  by_cases hc : checkM l = 0
  case neg => simp -implicitDefEqProofs [hc, applyM, atts]
  have h64 := checkM_le hc
  obtain ⟨R, hM⟩ : ∃ R, applyM l a = R := ⟨_, rfl⟩
  rw [hM]
  rw [applyM, if_pos hc] at hM
  simp -implicitDefEqProofs [hc, rules]
  refine loopN l.length (ApplyS R l a) ?_ ?_
  · refine ⟨by simp, by simp, by simp, by simp, [], by simp, by simp, ⟨⟨by simp, by simp⟩, by simp [total]⟩, by simp [total], by rw [← hM]; rfl⟩
  rintro k τ hk ⟨h21, h22, h23, h1, out, h7, ho1, ho2, ho3, hgo⟩
  clear hM
  by_cases hlt : k < l.length
  · obtain ⟨f1, f2, f3⟩ := hl.2 l[k] (List.getElem_mem hlt)
    obtain ⟨g1, g2⟩ := hg l[k] (List.getElem_mem hlt)
    obtain ⟨n1, f, v, hp⟩ := chkRule_form (checkM_all hc l[k] (List.getElem_mem hlt))
    have hlt' : (k : Int) < l.length := by omega
    rw [drop_c hlt, applyGo_cons] at hgo
    generalize hr : l[k] = r at *
    obtain ⟨T, S, F⟩ := r
    simp only at f1 f2 f3 g1 g2 hp n1
    obtain ⟨hfm, hvl⟩ := form_find hp
    have hcf := compute_fn f hfm v (getL a S) (by omega) g2
    have hclen := compF_len f.1 v (getL a S) g2.1
    have hcval := compF_val f.1 v (getL a S) g2 (by omega)
    have hcR : compR a (T, S, F) = compF f.1 v (getL a S) := by simp [compR, hp]
    have hnx : nextA a (T, S, F) out = sortedL (out ++ [(T, compF f.1 v (getL a S))]) := by rw [nextA, hcR]
    rw [hcR, hnx] at hgo
    have hget := get_fn a S ha f2
    generalize getL a S = src at *
    generalize compF f.1 v src = vs at *
    obtain ⟨hfit, htot⟩ := fit_snoc (T := T) (vs := vs) ho1 ho2 ho3 (by omega) f1 hclen
    simp -implicitDefEqProofs [h21, h22, h23, h1, h7, hlt, hlt', ruleD, hr]
    refine callK (parse_fn F f3) ?_
    simp -implicitDefEqProofs [h21, h22, h23, h1, h7, hlt, hlt', parseT, hp, formD]
    refine callP hget ?_
    simp -implicitDefEqProofs [h21, h22, h23, h1, h7, hlt, hlt', parseT, hp, formD]
    refine callP hcf ?_
    simp -implicitDefEqProofs [h21, h22, h23, h1, h7, hlt, hlt', strs]
    refine loopN vs.length (fun j τ => τ 21 = .d (.sl (l.map ruleD)) ∧ τ 22 = .d (.int .i64 l.length) ∧ τ 23 = .d (.int .i64 k) ∧ τ 1 = .d (atts a) ∧ τ 7 = .own false 50 (out.map att) ∧ τ 9 = .box (.agg [.str T, .str S, .str F]) ∧
      τ 13 = .d (.sl (vs.map .str)) ∧ τ 42 = .d (.sl (vs.map .str)) ∧ τ 43 = .d (.int .i64 vs.length) ∧ τ 44 = .d (.int .i64 j) ∧ AllB cleanB (vs.take j)) (by simp [h21, h22, h23, h1, h7, AllB.nil]) ?_
    clear h21 h22 h23 h1 h7 τ
    rintro j τ hj ⟨h21, h22, h23, h1, h7, h9, h13, h42, h43, h44, hall⟩
    by_cases hjt : j < vs.length
    · have hjt' : (j : Int) < vs.length := by omega
      have e2 := take_s hjt
      have hxl := hcval vs[j] (List.getElem_mem hjt)
      have hno : cleanB vs[j] = false → vs.all cleanB = false := fun h => all_no (h := hjt) rfl h
      generalize hx : vs[j] = x at *
      simp -implicitDefEqProofs [h21, h22, h23, h1, h7, h9, h13, h42, h43, h44, hjt, hjt', hx]
      refine callK (fclean_fn x hxl) ?_
      by_cases hcl : cleanB x = true
      · simp -implicitDefEqProofs [h21, h22, h23, h1, h7, h9, h13, h42, h43, h44, hjt, hjt', hx, cleanF_eq, hcl]
        repeat refine And.intro (by omega) ?_
        refine again hjt ⟨by simp [h21], by simp [h22], by simp [h23], by simp [h1], by simp [h7], by simp [h9], by simp [h13], by simp [h42], by simp [h43], by simp, hall.snoc hcl e2⟩
      · have hcl' : cleanB x = false := by simpa using hcl
        rw [if_pos (hno hcl')] at hgo
        subst hgo
        simp -implicitDefEqProofs [h21, h22, h23, h1, h7, h9, h13, h42, h43, h44, hjt, hjt', hx, cleanF_eq, hcl']
        simp [atts]
    · have hjt' : ¬ (j : Int) < vs.length := by omega
      rw [List.take_of_length_le (by omega)] at hall
      rw [if_neg (by rw [hall.all]; simp)] at hgo
      have hS := sorted_fn (out ++ [(T, vs)]) hfit
      simp only [atts, att, strs, List.map_append, List.map_cons, List.map_nil] at hS
      have hfit2 := sorted_fit2 hfit
      have htot2 := total_sorted (out ++ [(T, vs)])
      have hG := get_fn (sortedL (out ++ [(T, vs)])) T hfit2 f1
      generalize sortedL (out ++ [(T, vs)]) = nxt at *
      simp only [atts] at hG
      simp -implicitDefEqProofs [h21, h22, h23, h1, h7, h9, h13, h42, h43, h44, hjt, hjt', att, strs]
      repeat refine And.intro (by omega) ?_
      refine callK hS ?_
      by_cases c1 : 32 < nxt.length
      · have c1' : (32 : Int) < nxt.length := by omega
        rw [if_pos (.inl c1)] at hgo
        subst hgo
        simp -implicitDefEqProofs [h21, h22, h23, h1, h7, h9, h13, h42, h43, h44, hjt, hjt', c1, c1', atts]
      have c1' : ¬ (32 : Int) < nxt.length := by omega
      simp -implicitDefEqProofs [h21, h22, h23, h1, h7, h9, h13, h42, h43, h44, hjt, hjt', c1, c1', att, strs]
      refine callK hG ?_
      by_cases c2 : 16 < (getL nxt T).length
      · have c2' : (16 : Int) < (getL nxt T).length := by omega
        rw [if_pos (.inr c2)] at hgo
        subst hgo
        simp -implicitDefEqProofs [h21, h22, h23, h1, h7, h9, h13, h42, h43, h44, hjt, hjt', c2, c2', atts, strs]
      have c2' : ¬ (16 : Int) < (getL nxt T).length := by omega
      rw [if_neg (show ¬ (32 < nxt.length ∨ 16 < (getL nxt T).length) by omega)] at hgo
      simp -implicitDefEqProofs [h21, h22, h23, h1, h7, h9, h13, h42, h43, h44, hjt, hjt', c2, c2', atts, strs]
      repeat refine And.intro (by omega) ?_
      exact again hlt ⟨by simp [h21], by simp [h22], by simp, by simp [h1, atts], nxt, by simp, by omega, hfit2, by omega, hgo⟩
  · rw [List.drop_of_length_le (by omega)] at hgo
    subst hgo
    have hlt' : ¬ (k : Int) < l.length := by omega
    simp -implicitDefEqProofs [h21, h22, h23, h1, h7, hlt, hlt', applyGo, atts]

def ApplyRS (R : List Att × Int) (l : List Rule) (a : List Att) (k : Nat) (τ : St) : Prop := τ 0 = .d (.sl (l.map ruleD)) ∧ τ 8 = .d (.int .i64 k) ∧ τ 1 = .d (atts a) ∧ ∃ out, τ 7 = .own false 50 (out.map att) ∧ ApplyI R l a k out

theorem applyR_fn (l : List Rule) (a : List Att) (h : FitA l a) : Ctr Tryz.prog 23 [.d (rules l), .d (atts a)] (.tup [.d (atts (applyM l a).1), .d (.int .i64 (applyM l a).2)]) := by
  obtain ⟨hl, ha, hg⟩ := h
  refine fn_of_vwpN (rv := .tmp 4) (rs := [.tmp 5]) (r := .d (atts (applyM l a).1)) (ys := [.d (.int .i64 (applyM l a).2)]) (fun _ => false) (by kernel_rfl) Tryz.func23 (by kernel_rfl) rfl rfl (by simp) (Nat.le_of_ble_eq_true rfl) (by kernel_rfl) rfl rfl ?_
  simp -implicitDefEqProofs
  refine callK (mcheckR_fn l hl) ?_
  by_cases hc : checkM l = 0
  case neg => simp -implicitDefEqProofs [hc, applyM, atts]
  have h64 := checkM_le hc
  obtain ⟨R, hM⟩ : ∃ R, applyM l a = R := ⟨_, rfl⟩
  rw [hM]
  rw [applyM, if_pos hc] at hM
  simp -implicitDefEqProofs [hc, rules]
  refine loopN l.length (ApplyRS R l a) ?_ ?_
  · refine ⟨by simp, by simp, by simp, [], by simp, by simp, ⟨⟨by simp, by simp⟩, by simp [total]⟩, by simp [total], by rw [← hM]; rfl⟩
  rintro k τ hk ⟨h0, h8, h1, out, h7, ho1, ho2, ho3, hgo⟩
  clear hM
  by_cases hlt : k < l.length
  · obtain ⟨f1, f2, f3⟩ := hl.2 l[k] (List.getElem_mem hlt)
    obtain ⟨g1, g2⟩ := hg l[k] (List.getElem_mem hlt)
    obtain ⟨n1, f, v, hp⟩ := chkRule_form (checkM_all hc l[k] (List.getElem_mem hlt))
    have hlt' : (k : Int) < l.length := by omega
    rw [drop_c hlt, applyGo_cons] at hgo
    generalize hr : l[k] = r at *
    obtain ⟨T, S, F⟩ := r
    simp only at f1 f2 f3 g1 g2 hp n1
    obtain ⟨hfm, hvl⟩ := form_find hp
    have hcf := computed_fn (T, S, F) a ha f2 g1 hp g2
    simp only [ruleD] at hcf
    have hclen := compF_len f.1 v (getL a S) g2.1
    have hcval := compF_val f.1 v (getL a S) g2 (by omega)
    have hcR : compR a (T, S, F) = compF f.1 v (getL a S) := by simp [compR, hp]
    have hnx : nextA a (T, S, F) out = sortedL (out ++ [(T, compF f.1 v (getL a S))]) := by rw [nextA, hcR]
    rw [hcR, hnx] at hgo
    generalize getL a S = src at *
    generalize compF f.1 v src = vs at *
    obtain ⟨hfit, htot⟩ := fit_snoc (T := T) (vs := vs) ho1 ho2 ho3 (by omega) f1 hclen
    simp -implicitDefEqProofs [h0, h8, h1, h7, hlt, hlt', ruleD, hr]
    refine callK hcf ?_
    simp -implicitDefEqProofs [h0, h8, h1, h7, hlt, hlt', strs]
    refine loopN vs.length (fun j τ => τ 0 = .d (.sl (l.map ruleD)) ∧ τ 8 = .d (.int .i64 k) ∧ τ 1 = .d (atts a) ∧ τ 7 = .own false 50 (out.map att) ∧
      τ 9 = .d (.sl (vs.map .str)) ∧ τ 10 = .d (.int .i64 j) ∧ AllB cleanB (vs.take j)) (by simp [h0, h8, h1, h7, AllB.nil]) ?_
    clear h0 h8 h1 h7 τ
    rintro j τ hj ⟨h0, h8, h1, h7, h9, h10, hall⟩
    by_cases hjt : j < vs.length
    · have hjt' : (j : Int) < vs.length := by omega
      have e2 := take_s hjt
      have hxl := hcval vs[j] (List.getElem_mem hjt)
      have hno : cleanB vs[j] = false → vs.all cleanB = false := fun h => all_no (h := hjt) rfl h
      generalize hx : vs[j] = x at *
      simp -implicitDefEqProofs [h0, h8, h1, h7, h9, h10, hjt, hjt', hx]
      refine callK (clean_fn x) ?_
      by_cases hcl : cleanB x = true
      · simp -implicitDefEqProofs [h0, h8, h1, h7, h9, h10, hjt, hjt', hx, hcl]
        repeat refine And.intro (by omega) ?_
        refine again hjt ⟨by simp [h0], by simp [h8], by simp [h1], by simp [h7], by simp [h9], by simp, hall.snoc hcl e2⟩
      · have hcl' : cleanB x = false := by simpa using hcl
        rw [if_pos (hno hcl')] at hgo
        subst hgo
        simp -implicitDefEqProofs [h0, h8, h1, h7, h9, h10, hjt, hjt', hx, hcl']
        simp [atts]
    · have hjt' : ¬ (j : Int) < vs.length := by omega
      rw [List.take_of_length_le (by omega)] at hall
      rw [if_neg (by rw [hall.all]; simp)] at hgo
      have hS := sortedR_fn (out ++ [(T, vs)]) hfit
      simp only [atts, att, strs, List.map_append, List.map_cons, List.map_nil] at hS
      have hfit2 := sorted_fit2 hfit
      have htot2 := total_sorted (out ++ [(T, vs)])
      have hG := getR_fn (sortedL (out ++ [(T, vs)])) T hfit2 f1
      generalize sortedL (out ++ [(T, vs)]) = nxt at *
      simp only [atts] at hG
      simp -implicitDefEqProofs [h0, h8, h1, h7, h9, h10, hjt, hjt', hlt, hlt', ruleD, hr, att, strs]
      repeat refine And.intro (by omega) ?_
      refine callK hS ?_
      by_cases c1 : 32 < nxt.length
      · have c1' : (32 : Int) < nxt.length := by omega
        rw [if_pos (.inl c1)] at hgo
        subst hgo
        simp -implicitDefEqProofs [h0, h8, h1, h7, h9, h10, hjt, hjt', hlt, hlt', c1, c1', atts]
      have c1' : ¬ (32 : Int) < nxt.length := by omega
      simp -implicitDefEqProofs [h0, h8, h1, h7, h9, h10, hjt, hjt', hlt, hlt', c1, c1', att, strs, ruleD, hr]
      refine callK hG ?_
      by_cases c2 : 16 < (getL nxt T).length
      · have c2' : (16 : Int) < (getL nxt T).length := by omega
        rw [if_pos (.inr c2)] at hgo
        subst hgo
        simp -implicitDefEqProofs [h0, h8, h1, h7, h9, h10, hjt, hjt', hlt, hlt', c2, c2', atts, strs]
      have c2' : ¬ (16 : Int) < (getL nxt T).length := by omega
      rw [if_neg (show ¬ (32 < nxt.length ∨ 16 < (getL nxt T).length) by omega)] at hgo
      simp -implicitDefEqProofs [h0, h8, h1, h7, h9, h10, hjt, hjt', hlt, hlt', c2, c2', atts, strs]
      repeat refine And.intro (by omega) ?_
      exact again hlt ⟨by simp [h0], by simp, by simp [h1, atts], nxt, by simp, by omega, hfit2, by omega, hgo⟩
  · rw [List.drop_of_length_le (by omega)] at hgo
    subst hgo
    have hlt' : ¬ (k : Int) < l.length := by omega
    simp -implicitDefEqProofs [h0, h8, h1, h7, hlt, hlt', applyGo, atts]
end Go.Proofs.Tz

/- Rules: what is written is read again, and what is read is written as it was: plain laws. -/
set_option linter.unusedVariables false
set_option linter.unusedSimpArgs false
namespace Go.Proofs.Tz
open Go.Vw Go.RowKit Go.Proofs

theorem hexC_safe : ∀ n, n < 16 → 33 ≤ (hexC n).toNat ∧ (hexC n).toNat ≤ 126 := by decide
theorem escS_safe {s : Str} {c : UInt8} (h : c ∈ escS s) : 33 ≤ c.toNat ∧ c.toNat ≤ 126 := by
  simp only [escS, List.mem_flatMap] at h
  obtain ⟨x, _, hx⟩ := h
  have hlt := x.toNat_lt
  unfold escB at hx
  split at hx
  · rename_i hp
    rw [List.mem_singleton] at hx
    subst hx
    simp only [plainB, decide_eq_true_eq] at hp
    omega
  · simp only [List.mem_cons, List.not_mem_nil, or_false] at hx
    rcases hx with rfl | rfl | rfl
    · decide
    · exact hexC_safe _ (by omega)
    · exact hexC_safe _ (by omega)
theorem escS_no10 (s : Str) : (10 : UInt8) ∉ escS s := fun h => by have := (escS_safe h).1; revert this; decide
theorem escS_no32 (s : Str) : (32 : UInt8) ∉ escS s := fun h => by have := (escS_safe h).1; revert this; decide

theorem ixB_mid {c : UInt8} {a b : Str} (h : c ∉ a) : ixB (a ++ c :: b) c = List.length a :=
  ixB_at (by simp) (by simp) (by simpa using h)
theorem splitB_mid {c : UInt8} {a b : Str} (h : c ∉ a) : splitB c (a ++ c :: b) = a :: splitB c b := by
  have e1 : List.take (List.length a) (a ++ c :: b) = a := by simp
  have e2 : List.drop (List.length a + 1) (a ++ c :: b) = b := by rw [← List.drop_drop]; simp
  rw [splitB_at (ixB_mid h), e1, e2]

/-- The pieces, joined. -/
def joinB (c : UInt8) : List Str → Str
  | [] => []
  | [p] => p
  | p :: q :: ps => p ++ c :: joinB c (q :: ps)
theorem joinB_split (c : UInt8) : ∀ (s : Str), joinB c (splitB c s) = s
  | [] => rfl
  | x :: s => by
    have ih := joinB_split c s
    simp only [splitB]
    cases hs : splitB c s with
    | nil => exact absurd hs (splitB_ne c s)
    | cons q qs =>
      rw [hs] at ih
      by_cases hx : x = c
      · rw [if_pos hx]
        simp only [joinB, List.nil_append, ih, hx]
      · rw [if_neg hx]
        cases qs with
        | nil => simp only [joinB] at ih ⊢; rw [ih]
        | cons r rs => simp only [joinB, List.cons_append] at ih ⊢; rw [ih]

theorem unescL_esc : ∀ {ps xs : List Str}, unescL ps = some xs → ps = xs.map escS
  | [], xs, h => by simp [unescL] at h; subst h; rfl
  | p :: ps, xs, h => by
    simp only [unescL] at h
    split at h
    · rename_i x hx
      obtain ⟨ys, hy, rfl⟩ := Option.map_eq_some_iff.1 h
      rw [unescL_esc hy, ← (unesc_dec _ _ _ (Nat.le_refl _) hx).2]
      rfl
    · cases h

/-- A line without its end. -/
def line0 (r : Rule) : Str := escS r.1 ++ 32 :: (escS r.2.1 ++ 32 :: escS r.2.2)
theorem lineS_eq (r : Rule) : lineS r = line0 r ++ [10] := by simp [lineS, line0]
theorem line0_no10 (r : Rule) : (10 : UInt8) ∉ line0 r := by
  simp only [line0, List.mem_append, List.mem_cons, not_or]
  exact ⟨escS_no10 _, by decide, escS_no10 _, by decide, escS_no10 _⟩
theorem lineP_line0 (r : Rule) : lineP (line0 r) = some r := by
  rw [lineP, line0, splitB_mid (escS_no32 _), splitB_mid (escS_no32 _), splitB_none (escS_no32 _)]
  simp [unescL, unesc_esc, lineOf]
theorem lineP_inv {s : Str} {r : Rule} (h : lineP s = some r) : s = line0 r := by
  have h1 := unescL_esc (lineOf_some h)
  have h2 := joinB_split 32 s
  rw [h1] at h2
  rw [← h2]
  simp [joinB, line0]

theorem chkRs_app : ∀ (a b : List Rule), chkRs (a ++ b) = if chkRs a = 0 then chkRs b else chkRs a
  | [], b => by simp [chkRs]
  | r :: a, b => by
    simp only [List.cons_append, chkRs, chkRs_app a b]
    by_cases h : chkRule r = 0 <;> simp [h]
theorem checkM_left {a b : List Rule} (h : checkM (a ++ b) = 0) : checkM a = 0 := by
  unfold checkM at h ⊢
  split at h
  · cases h
  · rename_i hl
    simp only [List.length_append] at hl
    rw [if_neg (by omega)]
    rw [chkRs_app] at h
    split at h
    · assumption
    · rename_i h0; exact absurd h h0

theorem linesS_cons (r : Rule) (m : List Rule) : linesS (r :: m) = line0 r ++ 10 :: linesS m := by simp [linesS, lineS_eq]
theorem parse_lines : ∀ (m out : List Rule), checkM (out ++ m) = 0 → parseGo (linesS m) out = (out ++ m, 0, 0)
  | [], out, _ => by simp [linesS, parseGo_nil]
  | r :: m, out, h => by
    rw [linesS_cons, parseGo_at out (ixB_mid (line0_no10 r))]
    have e1 : List.take (List.length (line0 r)) (line0 r ++ 10 :: linesS m) = line0 r := by simp
    have e2 : List.drop (List.length (line0 r) + 1) (line0 r ++ 10 :: linesS m) = linesS m := by
      rw [← List.drop_drop]; simp
    have h1 : checkM (out ++ [r]) = 0 := checkM_left (b := m) (by simpa using h)
    rw [e1, e2, lineP_line0]
    simp only [h1, if_true]
    rw [parse_lines m (out ++ [r]) (by simpa using h)]
    simp

theorem parseGo_ok : ∀ (n : Nat) (s : Str) (out x : List Rule) (k : Int), s.length ≤ n → parseGo s out = (x, k, 0) → ∃ m, x = out ++ m ∧ k = 0 ∧ s = linesS m ∧ (m ≠ [] → checkM x = 0) := by
  intro n
  induction n with
  | zero =>
    intro s out x k hn h
    have : s = [] := List.length_eq_zero_iff.1 (by omega)
    subst this
    rw [parseGo_nil] at h
    simp only [Prod.mk.injEq] at h
    exact ⟨[], by simp [h.1], h.2.1.symm, by simp [linesS], by simp⟩
  | succ n ih =>
    intro s out x k hn h
    by_cases hs : s = []
    · subst hs
      rw [parseGo_nil] at h
      simp only [Prod.mk.injEq] at h
      exact ⟨[], by simp [h.1], h.2.1.symm, by simp [linesS], by simp⟩
    by_cases hix : 0 ≤ ixB s 10
    · obtain ⟨j, hj⟩ := Int.eq_ofNat_of_zero_le hix
      have hlt := ixB_lt hix
      rw [hj, Int.toNat_natCast] at hlt
      have hj' : ixB s 10 = (j : Int) := hj
      rw [parseGo_at out hj'] at h
      cases hl : lineP (s.take j) with
      | none => rw [hl] at h; simp at h
      | some r =>
        rw [hl] at h
        simp only at h
        split at h
        · rename_i hc
          obtain ⟨m, h1, h2, h3, h4⟩ := ih (s.drop (j + 1)) (out ++ [r]) x k (by simp; omega) h
          have hsplit : s = s.take j ++ 10 :: s.drop (j + 1) := by
            have a := joinB_split 10 s
            rw [splitB_at hj'] at a
            have b := joinB_split 10 (s.drop (j + 1))
            cases hq : splitB 10 (s.drop (j + 1)) with
            | nil => exact absurd hq (splitB_ne _ _)
            | cons q qs =>
              rw [hq] at a b
              simp only [joinB] at a
              rw [b] at a
              exact a.symm
          refine ⟨r :: m, by rw [h1]; simp, h2, ?_, fun _ => ?_⟩
          · rw [linesS_cons, ← h3, ← lineP_inv hl]; exact hsplit
          · by_cases hm : m = []
            · subst hm; rw [h1]; simpa using hc
            · exact h4 hm
        · rename_i hc
          simp only [Prod.mk.injEq] at h
          exact absurd h.2.2 hc
    · rw [parseGo_no out hs (by omega)] at h
      simp at h

theorem parseGo_err : ∀ (n : Nat) (s : Str) (out : List Rule), s.length ≤ n → (parseGo s out).2.2 ≠ 0 → (parseGo s out).1 = [] := by
  intro n
  induction n with
  | zero =>
    intro s out hn h
    have : s = [] := List.length_eq_zero_iff.1 (by omega)
    subst this
    rw [parseGo_nil] at h
    exact absurd rfl h
  | succ n ih =>
    intro s out hn h
    by_cases hs : s = []
    · subst hs
      rw [parseGo_nil] at h
      exact absurd rfl h
    by_cases hix : 0 ≤ ixB s 10
    · obtain ⟨j, hj⟩ := Int.eq_ofNat_of_zero_le hix
      have hlt := ixB_lt hix
      rw [hj, Int.toNat_natCast] at hlt
      have hj' : ixB s 10 = (j : Int) := hj
      rw [parseGo_at out hj'] at h ⊢
      cases hl : lineP (s.take j) with
      | none => rfl
      | some r =>
        rw [hl] at h
        simp only at h ⊢
        split at h
        · rename_i hc
          rw [if_pos hc]
          exact ih _ _ (by simp; omega) h
        · rename_i hc
          rw [if_neg hc]
    · rw [parseGo_no out hs (by omega)]

/-- Rules are read from their text. -/
theorem back1 {l : List Rule} {t : Str} (h : textM l = (t, 0)) : parseM t = (l, 0, 0) := by
  unfold textM at h
  split at h
  · rename_i hc
    split at h
    · simp at h
    · rename_i h4
      simp only [Prod.mk.injEq, and_true] at h
      subst h
      rw [parseM, if_neg h4, parse_lines l [] (by simpa using hc)]
      simp
  · rename_i hc
    simp only [Prod.mk.injEq] at h
    exact absurd h.2 hc
/-- What is read is written as it was. -/
theorem back2 {s : Str} {x : List Rule} {k : Int} (h : parseM s = (x, k, 0)) : textM x = (s, 0) ∧ k = 0 := by
  unfold parseM at h
  split at h
  · simp at h
  · rename_i h4
    obtain ⟨m, h1, h2, h3, h5⟩ := parseGo_ok _ _ _ _ _ (Nat.le_refl _) h
    simp only [List.nil_append] at h1
    subst h1
    have hc : checkM x = 0 := by
      by_cases hm : x = []
      · subst hm; rfl
      · exact h5 hm
    exact ⟨by rw [textM, if_pos hc, ← h3, if_neg h4], h2⟩
theorem back3 {s : Str} (h : (parseM s).2.2 ≠ 0) : (parseM s).1 = [] := by
  unfold parseM at h ⊢
  split at h
  · rename_i h4; rw [if_pos h4]
  · rename_i h4; rw [if_neg h4]; exact parseGo_err _ _ _ (Nat.le_refl _) h
end Go.Proofs.Tz

namespace Go.Proofs.Tz
open Go.Vw Go.Lib
set_option linter.unusedSimpArgs false

/-! ### normal forms as sets -/
def HasL (l : List Att) (n v : Str) : Prop := ∃ a ∈ l, lower a.1 = n ∧ v ∈ a.2
structure NF (s : List Att) : Prop where
  names : SS (s.map (·.1))
  vals : ∀ x ∈ s, SS x.2
  ne : ∀ x ∈ s, x.2 ≠ []

theorem lowc_lowc (c : UInt8) : lowc (lowc c) = lowc c := by
  unfold lowc
  by_cases h : 65 ≤ (c.toNat : Int) ∧ (c.toNat : Int) ≤ 90
  · rw [if_pos h, if_neg]
    rw [UInt8.toNat_add]
    have : (32 : UInt8).toNat = 32 := rfl
    omega
  · rw [if_neg h, if_neg h]
theorem lower_lower (s : Str) : lower (lower s) = lower s := by simp [lower, lowc_lowc]

theorem SS_sub {a b : List Str} (h : a.Sublist b) (hb : SS b) : SS a := List.Pairwise.sublist h hb
theorem nf_sorted (l : List Att) : NF (sortedL l) := by
  have hN := namesF_spec l [] (by simp [SS])
  refine ⟨?_, fun x hx => ?_, fun x hx => ?_⟩
  · rw [sortedL, List.map_map]
    rw [show ((fun x : Att => x.1) ∘ fun n => (n, valsF l n)) = id from rfl, List.map_id]
    exact hN.1
  · obtain ⟨n, _, rfl⟩ := List.mem_map.1 hx
    exact (valsF_spec n l [] (by simp [SS])).1
  · obtain ⟨n, hn, rfl⟩ := List.mem_map.1 hx
    have hV := (valsF_spec n l [] (by simp [SS])).2
    rcases (hN.2 n).1 hn with h | ⟨a, ha, hne, e⟩
    · simp at h
    · obtain ⟨v, hv⟩ := List.exists_mem_of_ne_nil _ hne
      exact List.ne_nil_of_mem ((hV v).2 (.inr ⟨a, ha, e, hv⟩))
theorem sorted_has (l : List Att) (n v : Str) : Has (sortedL l) n v ↔ HasL l n v := by
  have hN := namesF_spec l [] (by simp [SS])
  constructor
  · rintro ⟨x, hx, rfl, hv⟩
    obtain ⟨a, ha, e, h⟩ := sorted_val hx hv
    exact ⟨a, ha, e, h⟩
  · rintro ⟨a, ha, e, hv⟩
    refine ⟨(n, valsF l n), List.mem_map.2 ⟨n, ?_, rfl⟩, rfl, ?_⟩
    · exact (hN.2 n).2 (.inr ⟨a, ha, List.ne_nil_of_mem hv, e⟩)
    · exact ((valsF_spec n l [] (by simp [SS])).2 v).2 (.inr ⟨a, ha, e, hv⟩)
theorem nodup_inj {α : Type} {l : List α} (h : l.Nodup) {i j : Nat} (hi : i < l.length) (hj : j < l.length) (e : l[i] = l[j]) : i = j := by
  have h1 := List.pairwise_iff_getElem.1 h
  rcases Nat.lt_trichotomy i j with h2 | h2 | h2
  · exact absurd e (h1 i j hi hj h2)
  · exact h2
  · exact absurd e.symm (h1 j i hj hi h2)
theorem nf_inj {s : List Att} (hs : NF s) {x y : Att} (hx : x ∈ s) (hy : y ∈ s) (h : x.1 = y.1) : x = y := by
  have hnd := hs.names.nodup
  obtain ⟨i, hi, rfl⟩ := List.mem_iff_getElem.1 hx
  obtain ⟨j, hj, rfl⟩ := List.mem_iff_getElem.1 hy
  have := nodup_inj hnd (i := i) (j := j) (by simpa using hi) (by simpa using hj) (by simpa using h)
  subst this; rfl
theorem nf_ext {s t : List Att} (hs : NF s) (ht : NF t) (h : ∀ n v, Has s n v ↔ Has t n v) : s = t := by
  have e1 : s.map (·.1) = t.map (·.1) := by
    refine SS_ext hs.names ht.names fun n => ?_
    constructor
    · intro hn
      obtain ⟨x, hx, rfl⟩ := List.mem_map.1 hn
      obtain ⟨v, hv⟩ := List.exists_mem_of_ne_nil _ (hs.ne x hx)
      obtain ⟨y, hy, e, _⟩ := (h x.1 v).1 ⟨x, hx, rfl, hv⟩
      exact List.mem_map.2 ⟨y, hy, e⟩
    · intro hn
      obtain ⟨x, hx, rfl⟩ := List.mem_map.1 hn
      obtain ⟨v, hv⟩ := List.exists_mem_of_ne_nil _ (ht.ne x hx)
      obtain ⟨y, hy, e, _⟩ := (h x.1 v).2 ⟨x, hx, rfl, hv⟩
      exact List.mem_map.2 ⟨y, hy, e⟩
  have hl : s.length = t.length := by simpa using congrArg List.length e1
  refine List.ext_getElem hl fun i h1 h2 => ?_
  have en : s[i].1 = t[i].1 := by
    have := List.getElem_of_eq e1 (i := i) (by simpa using h1)
    simpa using this
  refine Prod.ext en ?_
  refine SS_ext (hs.vals _ (List.getElem_mem h1)) (ht.vals _ (List.getElem_mem h2)) fun v => ?_
  constructor
  · intro hv
    obtain ⟨y, hy, e, hv⟩ := (h s[i].1 v).1 ⟨_, List.getElem_mem h1, rfl, hv⟩
    rw [← nf_inj ht hy (List.getElem_mem h2) (e.trans en)]
    exact hv
  · intro hv
    obtain ⟨y, hy, e, hv⟩ := (h t[i].1 v).2 ⟨_, List.getElem_mem h2, rfl, hv⟩
    rw [← nf_inj hs hy (List.getElem_mem h1) (e.trans en.symm)]
    exact hv
theorem sorted_ext {a b : List Att} (h : ∀ n v, HasL a n v ↔ HasL b n v) : sortedL a = sortedL b :=
  nf_ext (nf_sorted a) (nf_sorted b) fun n v => by rw [sorted_has, sorted_has, h]
theorem sorted_low {l : List Att} {x : Att} (h : x ∈ sortedL l) : lower x.1 = x.1 := by
  obtain ⟨a, _, _, e⟩ := sorted_name h
  rw [← e, lower_lower]
theorem hasL_sorted (l : List Att) (n v : Str) : HasL (sortedL l) n v ↔ HasL l n v := by
  rw [← sorted_has l n v]
  constructor
  · rintro ⟨x, hx, e, hv⟩; exact ⟨x, hx, (sorted_low hx).symm.trans e, hv⟩
  · rintro ⟨x, hx, e, hv⟩; exact ⟨x, hx, (sorted_low hx).trans e, hv⟩
theorem sorted_idem (l : List Att) : sortedL (sortedL l) = sortedL l := sorted_ext (hasL_sorted l)

theorem mem_findA {s : List Att} (hs : NF s) (n v : Str) : v ∈ findA n s ↔ Has s n v := by
  have key : ∀ (s : List Att), (∀ x ∈ s, ∀ y ∈ s, x.1 = y.1 → x = y) → (v ∈ findA n s ↔ Has s n v) := by
    intro s
    induction s with
    | nil => intro _; simp [findA, Has]
    | cons a s ih =>
      intro hi
      rw [findA]
      split
      · rename_i h
        constructor
        · intro hv; exact ⟨a, by simp, h, hv⟩
        · rintro ⟨y, hy, e, hv⟩
          rw [hi a (by simp) y hy (h.trans e.symm)]; exact hv
      · rename_i h
        rw [ih fun x hx y hy => hi x (by simp [hx]) y (by simp [hy])]
        constructor
        · rintro ⟨y, hy, e, hv⟩; exact ⟨y, by simp [hy], e, hv⟩
        · rintro ⟨y, hy, e, hv⟩
          rcases List.mem_cons.1 hy with rfl | hy
          · exact absurd e h
          · exact ⟨y, hy, e, hv⟩
  exact key s fun x hx y hy => nf_inj hs hx hy
theorem mem_getL (l : List Att) (name v : Str) : v ∈ getL l name ↔ HasL l (lower name) v := by
  rw [getL, mem_findA (nf_sorted l), sorted_has]
theorem findA_SS {s : List Att} (h : ∀ x ∈ s, SS x.2) (n : Str) : SS (findA n s) := by
  induction s with
  | nil => simp [findA, SS]
  | cons a s ih =>
    rw [findA]
    split
    · exact h a (by simp)
    · exact ih fun x hx => h x (by simp [hx])
theorem SS_getL (l : List Att) (name : Str) : SS (getL l name) := findA_SS (nf_sorted l).vals _
theorem getL_ext {a b : List Att} {n m : Str} (h : ∀ v, HasL a (lower n) v ↔ HasL b (lower m) v) : getL a n = getL b m :=
  SS_ext (SS_getL _ _) (SS_getL _ _) fun v => by rw [mem_getL, mem_getL, h]

/-! ### setting -/
theorem hasL_app (a b : List Att) (n v : Str) : HasL (a ++ b) n v ↔ HasL a n v ∨ HasL b n v := by
  simp only [HasL, List.mem_append]
  constructor
  · rintro ⟨x, h | h, h2⟩
    · exact .inl ⟨x, h, h2⟩
    · exact .inr ⟨x, h, h2⟩
  · rintro (⟨x, h, h2⟩ | ⟨x, h, h2⟩)
    · exact ⟨x, .inl h, h2⟩
    · exact ⟨x, .inr h, h2⟩
theorem hasL_one (m : Str) (w : List Str) (n v : Str) : HasL [(m, w)] n v ↔ lower m = n ∧ v ∈ w := by simp [HasL]
theorem hasL_fil (l : List Att) (m n v : Str) : HasL ((sortedL l).filter fun x => !decide (x.1 = m)) n v ↔ n ≠ m ∧ HasL l n v := by
  rw [← hasL_sorted l]
  constructor
  · rintro ⟨x, hx, e, hv⟩
    obtain ⟨h1, h2⟩ := List.mem_filter.1 hx
    rw [sorted_low h1] at e
    subst e
    exact ⟨by simpa using h2, x, h1, sorted_low h1, hv⟩
  · rintro ⟨hne, x, hx, e, hv⟩
    refine ⟨x, List.mem_filter.2 ⟨hx, ?_⟩, e, hv⟩
    rw [sorted_low hx] at e
    simp [e, hne]
theorem hasL_set (l : List Att) (name : Str) (w : List Str) (n v : Str) : HasL (setL (sortedL l) name w) n v ↔ (n ≠ lower name ∧ HasL l n v) ∨ (n = lower name ∧ v ∈ w) := by
  rw [setL, hasL_sorted, hasL_app, hasL_fil, hasL_one, lower_lower, eq_comm (a := lower name)]
theorem set_with (l : List Att) (name : Str) (w : List Str) : sortedL (withoutL l name ++ [(name, w)]) = setL (sortedL l) name w := by
  refine sorted_ext fun n v => ?_
  rw [hasL_app, hasL_app, hasL_one, hasL_one, lower_lower, withoutL, fil]
theorem nodup_len {a b : List Str} (ha : a.Nodup) (hb : b.Nodup) (h : ∀ x, x ∈ a ↔ x ∈ b) : a.length = b.length :=
  ((List.perm_ext_iff_of_nodup ha hb).2 h).length_eq
theorem getL_set (l : List Att) (name : Str) (w : List Str) (v : Str) : v ∈ getL (setL (sortedL l) name w) name ↔ v ∈ w := by
  rw [mem_getL, hasL_set]; simp
theorem getL_set_len (l : List Att) (name : Str) {w : List Str} (h : w.Nodup) : (getL (setL (sortedL l) name w) name).length = w.length :=
  nodup_len (SS_getL _ _).nodup h (getL_set l name w)
theorem getL_other (l : List Att) {name other : Str} (w : List Str) (h : ¬ lower name = lower other) : getL (setL (sortedL l) name w) other = getL l other :=
  getL_ext fun v => by
    rw [hasL_set]
    have h' : ¬ lower other = lower name := fun e => h e.symm
    simp [h, h']

/-! ### errors of values -/
theorem chkV_zero (old : List Str) : ∀ (l b : List Str), chkV old b l = 0 ↔ (∀ v ∈ l, cleanB v = true ∧ v ∉ old ∧ v ∉ b) ∧ l.Nodup
  | [], b => by simp [chkV]
  | x :: l, b => by
    rw [chkV]
    by_cases h1 : cleanB x = false
    · simp [h1]
    · rw [if_neg h1]
      by_cases h2 : x ∈ old ∨ x ∈ b
      · rw [if_pos h2]
        simp only [List.mem_cons, forall_eq_or_imp]
        constructor
        · intro h; simp at h
        · rintro ⟨⟨⟨_, h3, h4⟩, _⟩, _⟩
          rcases h2 with h | h
          · exact absurd h h3
          · exact absurd h h4
      · rw [if_neg h2, chkV_zero old l (b ++ [x])]
        simp only [not_or] at h2
        simp only [List.mem_cons, forall_eq_or_imp, List.mem_append, List.nodup_cons, List.mem_nil_iff, or_false, not_or]
        have h1' : cleanB x = true := by simpa using h1
        constructor
        · rintro ⟨h3, h4⟩
          refine ⟨⟨⟨h1', h2⟩, fun v hv => ⟨(h3 v hv).1, (h3 v hv).2.1, (h3 v hv).2.2.1⟩⟩, fun hx => ?_, h4⟩
          exact (h3 x hx).2.2.2 rfl
        · rintro ⟨⟨_, h3⟩, h4, h5⟩
          exact ⟨fun v hv => ⟨(h3 v hv).1, (h3 v hv).2.1, (h3 v hv).2.2, fun e => h4 (e ▸ hv)⟩, h5⟩
theorem chkV_nodup {old l : List Str} (ho : old.Nodup) (h : chkV old [] l = 0) : (old ++ l).Nodup := by
  obtain ⟨h1, h2⟩ := (chkV_zero old l []).1 h
  exact List.nodup_append.2 ⟨ho, h2, fun a ha b hb e => (h1 b hb).2.1 (e ▸ ha)⟩

/-! ### what the program's edits come to is what the specification's come to -/
theorem lim_with (l : List Att) (name : Str) {w : List Str} (h : w.Nodup) : limL (setL (sortedL l) name w) name = withL l name w := by
  rw [limL, withL, set_with, getL_set_len l name h]
theorem add_eq (l : List Att) (name : Str) (v : List Str) : addP l name v = addR l name v := by
  unfold addP addR
  split
  · rfl
  · split
    · rfl
    · split
      · rfl
      · rename_i h
        exact lim_with l name (chkV_nodup (SS_getL l name).nodup (by simpa using h))
theorem repl_eq (l : List Att) (name : Str) (v : List Str) : replP l name v = replaceR l name v := by
  unfold replP replaceR
  split
  · rfl
  · split
    · rfl
    · rename_i h
      have hn : v.Nodup := ((chkV_zero [] v []).1 (by simpa using h)).2
      rw [← lim_with l name hn]
      split
      · rename_i h2
        rw [limL, getL_set_len l name hn, if_pos (.inr h2)]
      · rfl

theorem remV_spec : ∀ (v old : List Str), old.Nodup → ((remV old v = none ∧ ¬ ((∀ x ∈ v, x ∈ old) ∧ v.Nodup)) ∨ (∃ o, remV old v = some o ∧ ((∀ x ∈ v, x ∈ old) ∧ v.Nodup) ∧ o = old.filter fun x => !decide (x ∈ v)))
  | [], old, _ => .inr ⟨old, rfl, by simp, (List.filter_eq_self.2 (by simp)).symm⟩
  | x :: v, old, hn => by
    rw [remV]
    split
    · rename_i h
      refine .inl ⟨rfl, fun ⟨h2, _⟩ => ?_⟩
      have hf := idxG_neg _ old 0 h
      have := List.filter_eq_self.1 hf x (h2 x (by simp))
      simp at this
    · rename_i h
      obtain ⟨i, h1, h2, h3, h4⟩ := idxG_pos _ old 0 h
      simp only [Nat.zero_add] at h1
      rw [h1, Int.toNat_natCast]
      have hxi : old[i] = x := by
        rw [take_s h2, List.filter_append, h3] at h4
        have h5 := (List.append_right_eq_self.1 h4)
        have := List.filter_eq_nil_iff.1 h5 old[i] (by simp)
        exact (by simpa using this : x = old[i]).symm
      have he : old.eraseIdx i = old.filter fun y => !decide (y = x) := by
        have hsp : old = old.take i ++ x :: old.drop (i + 1) := by
          have := List.take_append_drop i old
          rw [List.drop_eq_getElem_cons h2, hxi] at this
          exact this.symm
        have hnd := hn
        rw [hsp] at hnd
        obtain ⟨n1, n2, n3⟩ := List.nodup_append.1 hnd
        have n4 := (List.nodup_cons.1 n2).1
        have hf : (old.filter fun y => !decide (y = x)) = (old.take i ++ x :: old.drop (i + 1)).filter fun y => !decide (y = x) := congrArg _ hsp
        rw [List.eraseIdx_eq_take_drop_succ, hf, List.filter_append, List.filter_cons]
        simp only [decide_true, Bool.not_true, Bool.false_eq_true, if_false]
        congr 1
        · exact (List.filter_eq_self.2 fun y hy => by simpa using fun e : y = x => n3 y hy x (by simp) e).symm
        · exact (List.filter_eq_self.2 fun y hy => by simpa using fun e : y = x => n4 (e ▸ hy)).symm
      rw [he]
      have hxo : x ∈ old := hxi ▸ List.getElem_mem h2
      have ih := remV_spec v (old.filter fun y => !decide (y = x)) (hn.sublist List.filter_sublist)
      have key : ((∀ y ∈ v, y ∈ old.filter fun z => !decide (z = x)) ∧ v.Nodup) ↔ ((∀ y ∈ x :: v, y ∈ old) ∧ (x :: v).Nodup) := by
        simp only [List.mem_filter, List.mem_cons, forall_eq_or_imp, List.nodup_cons]
        constructor
        · rintro ⟨a, b⟩
          exact ⟨⟨hxo, fun y hy => (a y hy).1⟩, fun hx => by have := (a x hx).2; simp at this, b⟩
        · rintro ⟨⟨_, a⟩, b, c⟩
          exact ⟨fun y hy => ⟨a y hy, by simpa using fun e : y = x => b (e ▸ hy)⟩, c⟩
      rcases ih with ⟨a, b⟩ | ⟨o, a, b, c⟩
      · exact .inl ⟨a, fun h => b (key.2 h)⟩
      · refine .inr ⟨o, a, key.1 b, ?_⟩
        rw [c, List.filter_filter]
        refine List.filter_congr fun y _ => ?_
        by_cases e1 : y = x <;> by_cases e2 : y ∈ v <;> simp [e1, e2]
theorem badR_spec (old : List Str) : ∀ (l b : List Str), badR old b l = false ↔ (∀ x ∈ l, x ∈ old ∧ x ∉ b) ∧ l.Nodup
  | [], b => by simp [badR]
  | x :: l, b => by
    rw [badR]
    simp only [Bool.or_eq_false_iff, decide_eq_false_iff_not, badR_spec old l (b ++ [x]), Classical.not_not, List.mem_cons, forall_eq_or_imp, List.nodup_cons, List.mem_append, List.mem_nil_iff, or_false, not_or]
    constructor
    · rintro ⟨⟨h1, h2⟩, h3, h4⟩
      exact ⟨⟨⟨h1, h2⟩, fun y hy => ⟨(h3 y hy).1, (h3 y hy).2.1⟩⟩, fun hx => (h3 x hx).2.2 rfl, h4⟩
    · rintro ⟨⟨⟨h1, h2⟩, h3⟩, h4, h5⟩
      exact ⟨⟨h1, h2⟩, fun y hy => ⟨(h3 y hy).1, (h3 y hy).2, fun e => h4 (e ▸ hy)⟩, h5⟩
theorem rem_eq (l : List Att) (name : Str) (v : List Str) : removeP l name v = removeR l name v := by
  unfold removeP removeR
  split
  · rfl
  · split
    · rfl
    · rw [set_with]
      by_cases hv : v = []
      · subst hv
        have : leftL [] (getL l name) = [] := List.filter_eq_nil_iff.2 (by simp)
        simp [badR, this]
      · rw [if_neg hv]
        have hb := badR_spec (getL l name) v []
        rcases remV_spec v (getL l name) (SS_getL l name).nodup with ⟨a, b⟩ | ⟨o, a, b, c⟩
        · rw [a, remO]
          have : badR (getL l name) [] v = true := by
            cases h : badR (getL l name) [] v with
            | true => rfl
            | false =>
              obtain ⟨h1, h2⟩ := hb.1 h
              exact absurd ⟨fun x hx => (h1 x hx).1, h2⟩ b
          rw [if_pos this]
        · rw [a, remO]
          have : badR (getL l name) [] v = false := hb.2 ⟨fun x hx => ⟨b.1 x hx, by simp⟩, b.2⟩
          rw [if_neg (by simp [this]), c, leftL]
          simp [hv]
end Go.Proofs.Tz

/- Rules: Sources in both. -/
set_option maxRecDepth 100000
set_option maxHeartbeats 4000000
set_option linter.unusedVariables false
set_option linter.unusedSimpArgs false
namespace Go.Proofs.Tz
open Go.Vw Go.RowKit Go.Proofs Go.Lib

def srcN (l : List Rule) : List Str := (l.filter fun r => nameB r.2.1).map fun r => lower r.2.1
def sourcesL (l : List Rule) : List Str := (srcN l).foldl ins []
theorem srcN_take {l : List Rule} {k : Nat} (h : k < l.length) : srcN (l.take (k + 1)) = srcN (l.take k) ++ if nameB l[k].2.1 = true then [lower l[k].2.1] else [] := by
  rw [take_s h]
  simp only [srcN, List.filter_append, List.map_append]
  congr 1
  generalize l[k] = r
  by_cases hn : nameB r.2.1 = true <;> simp [hn]
theorem srcN_len (l : List Rule) : (srcN l).length ≤ l.length := by simpa [srcN] using List.length_filter_le _ l
theorem sources_eq (l : List Rule) : compact (sortS (srcN l)) = sourcesL l := by
  have h1 := normV (srcN l)
  have h2 := insAll_spec (srcN l) [] List.Pairwise.nil
  exact SS_ext h1.1 h2.1 (fun x => by rw [h1.2, sourcesL, h2.2]; simp)

theorem sources_fn (l : List Rule) (hl : FitR l) : Ctr Tryz.prog 19 [.d (rules l)] (.d (strs (sourcesL l))) := by
  rw [← sources_eq]
  refine fn_of_vwp (fun i => i == 3 || i == 3000023) (by kernel_rfl) Tryz.func19 (by kernel_rfl) rfl rfl (Nat.le_of_ble_eq_true rfl) (by kernel_rfl) rfl rfl ?_
  have hlen := hl.1
  simp -implicitDefEqProofs [rules]
  refine loopN l.length (fun k τ => τ 6 = .d (.sl (l.map ruleD)) ∧ τ 7 = .d (.int .i64 l.length) ∧ τ 8 = .d (.int .i64 k) ∧ τ 3 = .own true 9 ((srcN (l.take k)).map .str)) (by simp [srcN]) ?_
  rintro k τ hk ⟨h6, h7, h8, h3⟩
  have hsl := srcN_len (l.take k)
  rw [List.length_take] at hsl
  by_cases hlt : k < l.length
  · obtain ⟨f1, f2, f3⟩ := hl.2 l[k] (List.getElem_mem hlt)
    have hlt' : (k : Int) < l.length := by omega
    have hs := srcN_take hlt
    generalize hr : l[k] = r at *
    obtain ⟨T, S, F⟩ := r
    simp only at f1 f2 f3
    simp -implicitDefEqProofs [h6, h7, h8, h3, hlt, hlt', ruleD, hr]
    refine callK (fname_fn S f2) ?_
    by_cases hn : nameB S = true
    · simp -implicitDefEqProofs [h6, h7, h8, h3, hlt, hlt', hn]
      refine callK (foldLower_fn S f2) ?_
      simp -implicitDefEqProofs [h6, h7, h8, h3, hlt, hlt', hn]
      repeat refine And.intro (by omega) ?_
      refine again hlt ⟨by simp [h6], by simp [h7], by simp, by simp [hs, hn]⟩
    · simp -implicitDefEqProofs [h6, h7, h8, h3, hlt, hlt', hn]
      repeat refine And.intro (by omega) ?_
      refine again hlt ⟨by simp [h6], by simp [h7], by simp, by simp [h3, hs, hn]⟩
  · rw [List.take_of_length_le (by omega)] at h3 hsl
    have hlt' : ¬ (k : Int) < l.length := by omega
    simp -implicitDefEqProofs [h6, h7, h8, h3, hlt, hlt']
    refine inKb (sort_fn (srcN l) (by omega)) ?_
    simp -implicitDefEqProofs [h6, h7, h8, h3, hlt, hlt']
    refine callK (compact_fn (sortS (srcN l)) (by simp [sortS]; omega)) ?_
    simp -implicitDefEqProofs [strs]

theorem sourcesR_fn (l : List Rule) (hl : FitR l) : Ctr Tryz.prog 20 [.d (rules l)] (.d (strs (sourcesL l))) := by
  refine fn_of_vwp (fun _ => false) (by kernel_rfl) Tryz.func20 (by kernel_rfl) rfl rfl (Nat.le_of_ble_eq_true rfl) (by kernel_rfl) rfl rfl ?_
  have hlen := hl.1
  simp -implicitDefEqProofs [rules]
  refine loopN l.length (fun k τ => τ 0 = .d (.sl (l.map ruleD)) ∧ τ 4 = .d (.int .i64 k) ∧ τ 3 = .own false 9 (((srcN (l.take k)).foldl ins []).map .str)) (by simp [srcN]) ?_
  rintro k τ hk ⟨h0, h4, h3⟩
  have hsl := srcN_len (l.take k)
  have hil := insAll_len (srcN (l.take k)) []
  rw [List.length_take] at hsl
  by_cases hlt : k < l.length
  · obtain ⟨f1, f2, f3⟩ := hl.2 l[k] (List.getElem_mem hlt)
    have hlt' : (k : Int) < l.length := by omega
    have hs := srcN_take hlt
    generalize hr : l[k] = r at *
    obtain ⟨T, S, F⟩ := r
    simp only at f1 f2 f3
    simp -implicitDefEqProofs [h0, h4, h3, hlt, hlt', ruleD, hr]
    refine callK (name_fn S) ?_
    by_cases hn : nameB S = true
    · have hins := ins_fn ((srcN (l.take k)).foldl ins []) (lower S) (by simp at hil; omega)
      simp only [strs] at hins
      simp -implicitDefEqProofs [h0, h4, h3, hlt, hlt', hn, ruleD, hr]
      refine callK (lower_fn S f2) ?_
      simp -implicitDefEqProofs [h0, h4, h3, hlt, hlt', hn]
      refine callK hins ?_
      simp -implicitDefEqProofs [h0, h4, h3, hlt, hlt', hn]
      repeat refine And.intro (by omega) ?_
      refine again hlt ⟨by simp [h0], by simp, by simp [hs, hn]⟩
    · simp -implicitDefEqProofs [h0, h4, h3, hlt, hlt', hn]
      repeat refine And.intro (by omega) ?_
      refine again hlt ⟨by simp [h0], by simp, by simp [h3, hs, hn]⟩
  · rw [List.take_of_length_le (by omega)] at h3
    have hlt' : ¬ (k : Int) < l.length := by omega
    simp -implicitDefEqProofs [h0, h4, h3, hlt, hlt', strs, sourcesL]

end Go.Proofs.Tz

namespace Go.Proofs.Tz
open Go.Vw Go.Lib
set_option linter.unusedSimpArgs false

theorem nodup_sub_len {α : Type} [DecidableEq α] : ∀ {a b : List α}, a.Nodup → (∀ x ∈ a, x ∈ b) → a.length ≤ b.length
  | [], _, _, _ => Nat.zero_le _
  | x :: a, b, hn, hs => by
    have hp := List.nodup_cons.1 hn
    have hx := hs x (by simp)
    have ih := nodup_sub_len (a := a) (b := b.erase x) hp.2 fun y hy => (List.mem_erase_of_ne (fun e : y = x => hp.1 (e ▸ hy))).2 (hs y (by simp [hy]))
    rw [List.length_erase_of_mem hx] at ih
    have := List.length_pos_of_mem hx
    simp only [List.length_cons]; omega

theorem isLetter_low (c : UInt8) : isLetter (lowc c) = isLetter c := by
  by_cases h : 65 ≤ (c.toNat : Int) ∧ (c.toNat : Int) ≤ 90
  · have e := lowc_toNat c h.1 h.2
    have h1 : isLetter c = true := by simp only [isLetter, Bool.or_eq_true, Bool.and_eq_true, decide_eq_true_eq]; omega
    have h2 : isLetter (lowc c) = true := by simp only [isLetter, Bool.or_eq_true, Bool.and_eq_true, decide_eq_true_eq]; omega
    rw [h1, h2]
  · rw [lowc, if_neg h]
theorem nameC_low (c : UInt8) : nameC (lowc c) = nameC c := by
  by_cases h : 65 ≤ (c.toNat : Int) ∧ (c.toNat : Int) ≤ 90
  · have e := lowc_toNat c h.1 h.2
    have h1 : isLetter c = true := by simp only [isLetter, Bool.or_eq_true, Bool.and_eq_true, decide_eq_true_eq]; omega
    rw [nameC, nameC, isLetter_low, h1]; simp
  · rw [lowc, if_neg h]
theorem nameB_low (s : Str) : nameB (lower s) = nameB s := by
  have h1 : (lower s).head?.any isLetter = s.head?.any isLetter := by
    cases s with
    | nil => rfl
    | cons c s => simp [lower, isLetter_low]
  have h2 : (lower s).all nameC = s.all nameC := by
    rw [Bool.eq_iff_iff, List.all_eq_true, List.all_eq_true]
    simp only [lower, List.mem_map, forall_exists_index, and_imp, forall_apply_eq_imp_iff₂, nameC_low]
  rw [nameB, nameB, h1, h2, lower_len]

theorem chkA_zero : ∀ (l b : List Att), chkA b l = 0 ↔ (∀ a ∈ l, nameB a.1 = true ∧ (∀ c ∈ b, lower c.1 ≠ lower a.1) ∧ a.2 ≠ [] ∧ a.2.length ≤ 16 ∧ chkV [] [] a.2 = 0) ∧ (l.map fun a => lower a.1).Nodup
  | [], b => by simp [chkA]
  | a :: l, b => by
    rw [chkA]
    by_cases h1 : nameB a.1 = false
    · simp [h1]
    have h1' : nameB a.1 = true := by simpa using h1
    rw [if_neg h1]
    by_cases h2 : (b.any fun c => decide (lower c.1 = lower a.1)) = true
    · rw [if_pos h2]
      obtain ⟨c, hc, he⟩ := List.any_eq_true.1 h2
      constructor
      · intro h; simp at h
      · rintro ⟨h, _⟩
        exact absurd (by simpa using he) ((h a (by simp)).2.1 c hc)
    have h2' : ∀ c ∈ b, lower c.1 ≠ lower a.1 := fun c hc e => h2 (List.any_eq_true.2 ⟨c, hc, by simpa using e⟩)
    rw [if_neg h2]
    by_cases h3 : a.2.length = 0
    · rw [if_pos h3]
      have : a.2 = [] := List.length_eq_zero_iff.1 h3
      simp [this]
    have h3' : a.2 ≠ [] := fun e => h3 (by rw [e]; rfl)
    rw [if_neg h3]
    by_cases h4 : 16 < a.2.length
    · rw [if_pos h4]
      constructor
      · intro h; simp at h
      · rintro ⟨h, _⟩
        have := (h a (by simp)).2.2.2.1
        omega
    rw [if_neg h4]
    by_cases h5 : chkV [] [] a.2 ≠ 0
    · rw [if_pos h5]
      constructor
      · intro h; exact absurd h h5
      · rintro ⟨h, _⟩
        exact absurd (h a (by simp)).2.2.2.2 h5
    have h5' : chkV [] [] a.2 = 0 := by simpa using h5
    rw [if_neg h5, chkA_zero l (b ++ [a])]
    simp only [List.mem_cons, forall_eq_or_imp, List.mem_append, List.mem_nil_iff, or_false, List.map_cons, List.nodup_cons]
    constructor
    · rintro ⟨g1, g2⟩
      refine ⟨⟨⟨h1', h2', h3', by omega, h5'⟩, fun x hx => ⟨(g1 x hx).1, fun c hc => (g1 x hx).2.1 c (.inl hc), (g1 x hx).2.2⟩⟩, fun hm => ?_, g2⟩
      obtain ⟨x, hx, e⟩ := List.mem_map.1 hm
      exact (g1 x hx).2.1 a (.inr rfl) e.symm
    · rintro ⟨⟨_, g1⟩, g2, g3⟩
      refine ⟨fun x hx => ⟨(g1 x hx).1, fun c hc => ?_, (g1 x hx).2.2⟩, g3⟩
      rcases hc with hc | rfl
      · exact (g1 x hx).2.1 c hc
      · exact fun e => g2 (List.mem_map.2 ⟨x, hx, e.symm⟩)

structure Valid (l : List Att) : Prop where
  len : l.length ≤ 32
  each : ∀ a ∈ l, nameB a.1 = true ∧ a.2 ≠ [] ∧ a.2.length ≤ 16 ∧ ∀ v ∈ a.2, cleanB v = true
  nod : ∀ a ∈ l, a.2.Nodup
  names : (l.map fun a => lower a.1).Nodup
theorem check_iff (l : List Att) : checkL l = 0 ↔ Valid l := by
  rw [checkL]
  by_cases h : 32 < l.length
  · rw [if_pos h]
    constructor
    · intro h; simp at h
    · intro v; have := v.len; omega
  · rw [if_neg h, chkA_zero]
    constructor
    · rintro ⟨h1, h2⟩
      exact ⟨by omega, fun a ha => ⟨(h1 a ha).1, (h1 a ha).2.2.1, (h1 a ha).2.2.2.1, fun v hv => (((chkV_zero [] a.2 []).1 (h1 a ha).2.2.2.2).1 v hv).1⟩, fun a ha => ((chkV_zero [] a.2 []).1 (h1 a ha).2.2.2.2).2, h2⟩
    · intro v
      exact ⟨fun a ha => ⟨(v.each a ha).1, by simp, (v.each a ha).2.1, (v.each a ha).2.2.1, (chkV_zero [] a.2 []).2 ⟨fun x hx => ⟨(v.each a ha).2.2.2 x hx, by simp, by simp⟩, v.nod a ha⟩⟩, v.names⟩
theorem valid_sorted {r : List Att} (h1 : (sortedL r).length ≤ 32) (h2 : ∀ n v, HasL r n v → nameB n = true ∧ cleanB v = true) (h3 : ∀ n, (getL r n).length ≤ 16) : Valid (sortedL r) := by
  have hN := nf_sorted r
  refine ⟨h1, fun x hx => ?_, fun x hx => (hN.vals x hx).nodup, ?_⟩
  · have hne := hN.ne x hx
    have hin : ∀ v ∈ x.2, HasL r x.1 v := fun v hv => (sorted_has r x.1 v).1 ⟨x, hx, rfl, hv⟩
    obtain ⟨v, hv⟩ := List.exists_mem_of_ne_nil _ hne
    refine ⟨(h2 _ _ (hin v hv)).1, hne, ?_, fun u hu => (h2 _ _ (hin u hu)).2⟩
    have e : getL r x.1 = x.2 := SS_ext (SS_getL _ _) (hN.vals x hx) fun u => by
      rw [mem_getL, sorted_low hx]
      constructor
      · intro h
        obtain ⟨y, hy, e, hu⟩ := (sorted_has r x.1 u).2 h
        rw [← nf_inj hN hy hx e]; exact hu
      · exact hin u
    rw [← e]; exact h3 x.1
  · have : ((sortedL r).map fun a => lower a.1) = (sortedL r).map (·.1) := List.map_congr_left fun x hx => sorted_low hx
    rw [this]
    exact hN.names.nodup
theorem getL_nil_or {l : List Att} (n : Str) : getL l n = [] ∨ ∃ x ∈ sortedL l, x.1 = lower n ∧ x.2 = getL l n := by
  have key : ∀ s : List Att, findA (lower n) s = [] ∨ ∃ x ∈ s, x.1 = lower n ∧ x.2 = findA (lower n) s := by
    intro s
    induction s with
    | nil => exact .inl rfl
    | cons a s ih =>
      rw [findA]
      split
      · rename_i h; exact .inr ⟨a, by simp, h, rfl⟩
      · rcases ih with h | ⟨x, hx, h⟩
        · exact .inl h
        · exact .inr ⟨x, by simp [hx], h⟩
  exact key _
theorem Valid.get {l : List Att} (h : Valid l) (n : Str) : (getL l n).length ≤ 16 := by
  by_cases he : getL l n = []
  · simp [he]
  obtain ⟨v, hv⟩ := List.exists_mem_of_ne_nil _ he
  obtain ⟨a, ha, ea, _⟩ := (mem_getL l n v).1 hv
  refine Nat.le_trans (nodup_sub_len (SS_getL l n).nodup fun u hu => ?_) (h.each a ha).2.2.1
  obtain ⟨b, hb, eb, hu⟩ := (mem_getL l n u).1 hu
  have : b = a := by
    obtain ⟨i, hi, rfl⟩ := List.mem_iff_getElem.1 ha
    obtain ⟨j, hj, rfl⟩ := List.mem_iff_getElem.1 hb
    have := nodup_inj h.names (i := i) (j := j) (by simpa using hi) (by simpa using hj) (by simp [ea, eb])
    subst this; rfl
  rw [← this]; exact hu
theorem Valid.has {l : List Att} (h : Valid l) {n v : Str} (hh : HasL l n v) : nameB n = true ∧ cleanB v = true := by
  obtain ⟨a, ha, rfl, hv⟩ := hh
  exact ⟨by rw [nameB_low]; exact (h.each a ha).1, (h.each a ha).2.2.2 v hv⟩
theorem Valid.sorted {l : List Att} (h : Valid l) : Valid (sortedL l) :=
  valid_sorted (Nat.le_trans (sorted_len l) h.len) (fun _ _ hh => h.has hh) h.get
theorem getL_set' (l : List Att) (name : Str) (w : List Str) (n : Str) : getL (setL (sortedL l) name w) n = if lower name = lower n then getL (setL (sortedL l) name w) name else getL l n := by
  split
  · rename_i h
    simp only [getL, h]
  · rename_i h; exact getL_other l w h
theorem Valid.set {l : List Att} (h : Valid l) {name : Str} {w : List Str} (hn : nameB name = true) (hw : ∀ v ∈ w, cleanB v = true) (h32 : (setL (sortedL l) name w).length ≤ 32) (h16 : (getL (setL (sortedL l) name w) name).length ≤ 16) : Valid (setL (sortedL l) name w) := by
  have hH := hasL_set l name w
  have hG := getL_set' l name w
  have key : Valid (sortedL (setL (sortedL l) name w)) := by
    have hi : sortedL (setL (sortedL l) name w) = setL (sortedL l) name w := by rw [setL, sorted_idem]
    refine valid_sorted (by rw [hi]; exact h32) (fun n v hh => ?_) (fun n => ?_)
    · rcases (hH n v).1 hh with ⟨_, h1⟩ | ⟨rfl, h1⟩
      · exact h.has h1
      · exact ⟨by rw [nameB_low]; exact hn, hw v h1⟩
    · rw [hG n]
      split
      · exact h16
      · exact h.get n
  have hi : sortedL (setL (sortedL l) name w) = setL (sortedL l) name w := by rw [setL, sorted_idem]
  rw [hi] at key
  exact key
theorem limL_ok {l : List Att} {name : Str} (h : (limL l name).2 = 0) : (limL l name).1 = l ∧ l.length ≤ 32 ∧ (getL l name).length ≤ 16 := by
  unfold limL at h ⊢
  split at h
  · simp at h
  · rename_i hc
    rw [if_neg hc]
    simp only [not_or] at hc
    exact ⟨rfl, by omega, by omega⟩

theorem addP_ok {l : List Att} {name : Str} {v : List Str} (h : (addP l name v).2 = 0) : nameB name = true ∧ v ≠ [] ∧ chkV (getL l name) [] v = 0 ∧ (addP l name v).1 = setL (sortedL l) name (getL l name ++ v) ∧ (addP l name v).1.length ≤ 32 ∧ (getL (addP l name v).1 name).length ≤ 16 := by
  unfold addP at h ⊢
  split at h
  · simp at h
  rename_i h1
  split at h
  · simp at h
  rename_i h2
  split at h
  · rename_i h3; exact absurd h h3
  rename_i h3
  rw [if_neg h1, if_neg h2, if_neg h3]
  obtain ⟨a, b, c⟩ := limL_ok h
  rw [a]
  exact ⟨by simpa using h1, h2, by simpa using h3, rfl, b, c⟩
theorem replP_ok {l : List Att} {name : Str} {v : List Str} (h : (replP l name v).2 = 0) : nameB name = true ∧ chkV [] [] v = 0 ∧ (replP l name v).1 = setL (sortedL l) name v ∧ (replP l name v).1.length ≤ 32 ∧ (getL (replP l name v).1 name).length ≤ 16 := by
  unfold replP at h ⊢
  split at h
  · simp at h
  rename_i h1
  split at h
  · rename_i h3; exact absurd h h3
  rename_i h2
  split at h
  · simp at h
  rename_i h3
  rw [if_neg h1, if_neg h2, if_neg h3]
  obtain ⟨a, b, c⟩ := limL_ok h
  rw [a]
  exact ⟨by simpa using h1, by simpa using h2, rfl, b, c⟩
theorem removeP_ok {l : List Att} {name : Str} {v : List Str} (h : (removeP l name v).2 = 0) : nameB name = true ∧ getL l name ≠ [] ∧ ∃ o, (∀ x ∈ o, x ∈ getL l name) ∧ (removeP l name v).1 = setL (sortedL l) name o ∧ (v ≠ [] → o = (getL l name).filter fun x => !decide (x ∈ v)) := by
  unfold removeP at h ⊢
  split at h
  · simp at h
  rename_i h1
  split at h
  · simp at h
  rename_i h2
  rw [if_neg h1, if_neg h2]
  refine ⟨by simpa using h1, h2, ?_⟩
  split at h
  · rename_i h3
    rw [if_pos h3]
    exact ⟨[], by simp, rfl, fun hv => absurd h3 hv⟩
  · rename_i h3
    rw [if_neg h3]
    rcases remV_spec v (getL l name) (SS_getL l name).nodup with ⟨a, b⟩ | ⟨o, a, b, c⟩
    · rw [a] at h; simp [remO] at h
    · rw [a]
      exact ⟨o, fun x hx => by rw [c] at hx; exact (List.mem_filter.1 hx).1, rfl, fun _ => c⟩

theorem Valid.add {l : List Att} (h : Valid l) {name : Str} {v : List Str} (h0 : (addP l name v).2 = 0) : Valid (addP l name v).1 := by
  obtain ⟨h1, h2, h3, h4, h5, h6⟩ := addP_ok h0
  rw [h4] at h5 h6 ⊢
  refine h.set h1 (fun x hx => ?_) h5 h6
  rcases List.mem_append.1 hx with hx | hx
  · exact (h.has ((mem_getL l name x).1 hx)).2
  · exact (((chkV_zero _ _ _).1 h3).1 x hx).1
theorem Valid.replace {l : List Att} (h : Valid l) {name : Str} {v : List Str} (h0 : (replP l name v).2 = 0) : Valid (replP l name v).1 := by
  obtain ⟨h1, h3, h4, h5, h6⟩ := replP_ok h0
  rw [h4] at h5 h6 ⊢
  exact h.set h1 (fun x hx => (((chkV_zero _ _ _).1 h3).1 x hx).1) h5 h6
theorem Valid.remove {l : List Att} (h : Valid l) {name : Str} {v : List Str} (h0 : (removeP l name v).2 = 0) : Valid (removeP l name v).1 := by
  obtain ⟨h1, h2, o, h3, h4, _⟩ := removeP_ok h0
  rw [h4]
  refine h.set h1 (fun x hx => (h.has ((mem_getL l name x).1 (h3 x hx))).2) ?_ ?_
  · refine Nat.le_trans ?_ h.sorted.len
    have hN : NF (setL (sortedL l) name o) := nf_sorted _
    have := nodup_sub_len (a := (setL (sortedL l) name o).map (·.1)) (b := (sortedL l).map (·.1)) hN.names.nodup fun n hn => by
      obtain ⟨x, hx, rfl⟩ := List.mem_map.1 hn
      obtain ⟨u, hu⟩ := List.exists_mem_of_ne_nil _ (hN.ne x hx)
      have hh : HasL (setL (sortedL l) name o) x.1 u := ⟨x, hx, sorted_low (l := (((sortedL l).filter fun x => !decide (x.1 = lower name)) ++ [(lower name, o)])) hx, hu⟩
      have hl : HasL l x.1 u := by
        rcases (hasL_set l name o x.1 u).1 hh with ⟨_, h5⟩ | ⟨e, h5⟩
        · exact h5
        · rw [e]; exact (mem_getL l name u).1 (h3 u h5)
      obtain ⟨y, hy, e, _⟩ := (sorted_has l x.1 u).2 hl
      exact List.mem_map.2 ⟨y, hy, e⟩
    simpa using this
  · refine Nat.le_trans (nodup_sub_len (SS_getL _ _).nodup fun x hx => ?_) (h.get name)
    exact h3 x ((getL_set l name o x).1 hx)

/-! ### what was added can be removed -/
theorem undone {l : List Att} {name : Str} {v : List Str} (h0 : (addP l name v).2 = 0) : removeP (addP l name v).1 name v = (sortedL l, 0) ∧ ∀ x ∈ v, x ∈ getL (addP l name v).1 name := by
  obtain ⟨h1, h2, h3, h4, _⟩ := addP_ok h0
  rw [h4]
  obtain ⟨c1, c2⟩ := (chkV_zero _ _ _).1 h3
  have hg : ∀ x, x ∈ getL (setL (sortedL l) name (getL l name ++ v)) name ↔ x ∈ getL l name ∨ x ∈ v := fun x => by rw [getL_set, List.mem_append]
  have hin : ∀ x ∈ v, x ∈ getL (setL (sortedL l) name (getL l name ++ v)) name := fun x hx => (hg x).2 (.inr hx)
  refine ⟨?_, hin⟩
  unfold removeP
  rw [if_neg (by simp [h1]), if_neg, if_neg h2]
  · rcases remV_spec v (getL (setL (sortedL l) name (getL l name ++ v)) name) (SS_getL _ name).nodup with ⟨a, b⟩ | ⟨o, a, b, c⟩
    · exact absurd ⟨hin, c2⟩ b
    · rw [a, remO, c]
      refine Prod.ext ?_ rfl
      simp only
      rw [setL]
      refine sorted_ext fun n x => ?_
      rw [hasL_app, hasL_fil, hasL_one, lower_lower, hasL_set]
      simp only [List.mem_filter, hg, List.mem_append, Bool.not_eq_true', decide_eq_false_iff_not]
      constructor
      · rintro (⟨e1, ⟨_, h⟩ | ⟨e2, _⟩⟩ | ⟨rfl, h | h, h'⟩)
        · exact h
        · exact absurd e2 e1
        · exact (mem_getL l name x).1 h
        · exact absurd h h'
      · intro h
        by_cases e : n = lower name
        · subst e
          have hm := (mem_getL l name x).2 h
          exact .inr ⟨rfl, .inl hm, fun hv => (c1 x hv).2.1 hm⟩
        · exact .inl ⟨e, .inl ⟨e, h⟩⟩
  · obtain ⟨x, hx⟩ := List.exists_mem_of_ne_nil _ h2
    exact List.ne_nil_of_mem (hin x hx)

/-! ### other attributes do not change -/
theorem add_other {l : List Att} {name other : Str} {v : List Str} (h0 : (addP l name v).2 = 0) (h : ¬ lower name = lower other) : getL (addP l name v).1 other = getL l other := by
  rw [(addP_ok h0).2.2.2.1]; exact getL_other l _ h
theorem repl_other {l : List Att} {name other : Str} {v : List Str} (h0 : (replP l name v).2 = 0) (h : ¬ lower name = lower other) : getL (replP l name v).1 other = getL l other := by
  rw [(replP_ok h0).2.2.1]; exact getL_other l _ h
theorem rem_other {l : List Att} {name other : Str} {v : List Str} (h0 : (removeP l name v).2 = 0) (h : ¬ lower name = lower other) : getL (removeP l name v).1 other = getL l other := by
  obtain ⟨_, _, o, _, h4, _⟩ := removeP_ok h0
  rw [h4]; exact getL_other l _ h
theorem repl_get {l : List Att} {name : Str} {v : List Str} (h0 : (replP l name v).2 = 0) : (∀ x ∈ v, x ∈ getL (replP l name v).1 name) ∧ (getL (replP l name v).1 name).length = v.length := by
  rw [(replP_ok h0).2.2.1]
  exact ⟨fun x hx => (getL_set l name v x).2 hx, getL_set_len l name ((chkV_zero _ _ _).1 (replP_ok h0).2.1).2⟩
end Go.Proofs.Tz

/- Rules: what they compute: plain laws. -/
set_option linter.unusedVariables false
set_option linter.unusedSimpArgs false
namespace Go.Proofs.Tz
open Go.Vw Go.RowKit Go.Proofs Go.Lib

def HasR (a : List Att) (l : List Rule) (n v : Str) : Prop := ∃ r ∈ l, lower r.1 = n ∧ v ∈ compR a r

theorem has_next (a : List Att) (r : Rule) (out : List Att) (n v : Str) : HasL (nextA a r out) n v ↔ HasL out n v ∨ (lower r.1 = n ∧ v ∈ compR a r) := by
  rw [nextA, hasL_sorted, hasL_app, hasL_one]
theorem norm_next (a : List Att) (r : Rule) (out : List Att) : sortedL (nextA a r out) = nextA a r out := sorted_idem _

theorem applyGo_ok (a : List Att) : ∀ (l : List Rule) (out x : List Att), applyGo a l out = (x, 0) → sortedL out = out →
    sortedL x = x ∧ (∀ n v, HasL x n v ↔ HasL out n v ∨ HasR a l n v) ∧ (∀ r ∈ l, (compR a r).all cleanB = true)
  | [], out, x, h, hn => by
    simp only [applyGo, Prod.mk.injEq, and_true] at h
    subst h
    exact ⟨hn, fun n v => by simp [HasR], by simp⟩
  | r :: l, out, x, h, hn => by
    rw [applyGo_cons] at h
    split at h
    · simp at h
    · rename_i hcl
      split at h
      · simp at h
      · obtain ⟨h1, h2, h3⟩ := applyGo_ok a l _ x h (norm_next a r out)
        refine ⟨h1, fun n v => ?_, fun y hy => ?_⟩
        · rw [h2, has_next]
          simp only [HasR, List.mem_cons, exists_eq_or_imp]
          rw [or_assoc]
        · rcases List.mem_cons.1 hy with rfl | hy
          · simpa using hcl
          · exact h3 y hy

theorem applyGo_err (a : List Att) : ∀ (l : List Rule) (out : List Att), (applyGo a l out).2 ≠ 0 → (applyGo a l out).1 = []
  | [], out, h => absurd rfl h
  | r :: l, out, h => by
    rw [applyGo_cons] at h ⊢
    split at h
    · rename_i hc; rw [if_pos hc]
    · rename_i hc
      rw [if_neg hc]
      split at h
      · rename_i h1; rw [if_pos h1]
      · rename_i h1; rw [if_neg h1]; exact applyGo_err a l _ h
theorem applyM_err {l : List Rule} {a : List Att} (h : (applyM l a).2 ≠ 0) : (applyM l a).1 = [] := by
  unfold applyM at h ⊢
  split at h
  · rename_i hc; rw [if_pos hc]; exact applyGo_err a l [] h
  · rename_i hc; rw [if_neg hc]
theorem applyM_check {l : List Rule} {a : List Att} (h : (applyM l a).2 = 0) : checkM l = 0 ∧ applyGo a l [] = ((applyM l a).1, 0) := by
  unfold applyM at h ⊢
  split at h
  · rename_i hc; rw [if_pos hc]; exact ⟨hc, by rw [← h]⟩
  · rename_i hc; exact absurd h hc

/-! ### Sources -/
theorem applyGo_congr {a b : List Att} : ∀ (l : List Rule) (out : List Att), (∀ r ∈ l, compR a r = compR b r) → applyGo a l out = applyGo b l out
  | [], _, _ => rfl
  | r :: l, out, h => by
    have h1 := h r (by simp)
    have h2 : nextA a r out = nextA b r out := by rw [nextA, nextA, h1]
    rw [applyGo_cons, applyGo_cons, h1, h2, applyGo_congr l _ (fun r hr => h r (by simp [hr]))]

/-- Of the attributes, those that the sources name. -/
def leftA (a : List Att) (ns : List Str) : List Att := (ns.filter fun n => !decide (getL a n = [])).map fun n => (n, getL a n)
theorem mem_sources (l : List Rule) (n : Str) : n ∈ sourcesL l ↔ ∃ r ∈ l, nameB r.2.1 = true ∧ lower r.2.1 = n := by
  rw [sourcesL, (insAll_spec (srcN l) [] List.Pairwise.nil).2]
  simp [srcN, and_assoc]
theorem left_get (a : List Att) (l : List Rule) {S : Str} (h : ∃ r ∈ l, nameB r.2.1 = true ∧ r.2.1 = S) : getL (leftA a (sourcesL l)) S = getL a S := by
  refine getL_ext fun v => ?_
  constructor
  · rintro ⟨x, hx, e, hv⟩
    obtain ⟨n, hn, rfl⟩ := List.mem_map.1 hx
    have hv' : v ∈ getL a n := hv
    have e' : lower n = lower S := e
    rw [mem_getL, e'] at hv'
    exact hv'
  · intro hv
    obtain ⟨r, hr, hn, rfl⟩ := h
    have hg : v ∈ getL a (lower r.2.1) := by rw [mem_getL, lower_lower]; exact hv
    refine ⟨(lower r.2.1, getL a (lower r.2.1)), List.mem_map.2 ⟨lower r.2.1, List.mem_filter.2 ⟨(mem_sources l _).2 ⟨r, hr, hn, rfl⟩, ?_⟩, rfl⟩, lower_lower _, hg⟩
    simp [List.ne_nil_of_mem hg]
theorem apply_left (l : List Rule) (a : List Att) : applyM l (leftA a (sourcesL l)) = applyM l a := by
  unfold applyM
  split
  · rename_i hc
    refine applyGo_congr l [] fun r hr => ?_
    have h0 := checkM_all hc r hr
    unfold chkRule at h0
    split at h0
    · cases h0
    · unfold compR
      cases hp : parsedF r.2.2 with
      | none => rfl
      | some fv =>
        obtain ⟨f, v⟩ := fv
        rw [hp] at h0
        simp only at h0 ⊢
        by_cases hk : f.1 = nConst
        · rw [hk]; simp [compF]
        · rw [if_neg hk] at h0
          split at h0
          · cases h0
          · rename_i hn
            rw [left_get a l ⟨r, hr, by simpa using hn, rfl⟩]
  · rfl

/-! ### two lists of rules -/
theorem applyGo_app (a : List Att) (B : List Rule) : ∀ (A : List Rule) (out : List Att), applyGo a (A ++ B) out = if (applyGo a A out).2 = 0 then applyGo a B (applyGo a A out).1 else applyGo a A out
  | [], out => by simp [applyGo]
  | r :: A, out => by
    rw [List.cons_append, applyGo_cons, applyGo_cons]
    split
    · simp
    · split
      · simp
      · exact applyGo_app a B A _
theorem checkM_right {a b : List Rule} (h : checkM (a ++ b) = 0) : checkM b = 0 := by
  have h1 := checkM_left h
  unfold checkM at h h1 ⊢
  split at h
  · cases h
  · rename_i hl
    simp only [List.length_append] at hl
    rw [if_neg (by omega)]
    rw [if_neg (by omega)] at h1
    rw [chkRs_app, if_pos h1] at h
    exact h
theorem checkM_both {a b : List Rule} (h1 : checkM a = 0) (h2 : checkM b = 0) : checkM (a ++ b) = 0 ∨ checkM (a ++ b) = 3 := by
  unfold checkM at h1 h2 ⊢
  split
  · exact .inr rfl
  · left
    rename_i hl
    simp only [List.length_append] at hl
    rw [if_neg (by omega)] at h1 h2
    rw [chkRs_app, if_pos h1, h2]
theorem applyGo_clean (a : List Att) : ∀ (l : List Rule) (out : List Att), (∀ r ∈ l, (compR a r).all cleanB = true) → (applyGo a l out).2 = 0 ∨ (applyGo a l out).2 = 3
  | [], out, _ => .inl rfl
  | r :: l, out, h => by
    rw [applyGo_cons, if_neg (by rw [h r (by simp)]; simp)]
    split
    · exact .inr rfl
    · exact applyGo_clean a l _ (fun r hr => h r (by simp [hr]))

theorem names_mono {m0 m1 : List Att} (h : ∀ n v, HasL m0 n v → HasL m1 n v) : (sortedL m0).length ≤ (sortedL m1).length := by
  have h0 := nf_sorted m0
  have h1 := nf_sorted m1
  have := nodup_sub_len (a := (sortedL m0).map (·.1)) (b := (sortedL m1).map (·.1)) h0.names.nodup fun n hn => by
    obtain ⟨x, hx, rfl⟩ := List.mem_map.1 hn
    obtain ⟨v, hv⟩ := List.exists_mem_of_ne_nil _ (h0.ne x hx)
    obtain ⟨y, hy, e, _⟩ := (sorted_has m1 x.1 v).2 (h _ _ ((sorted_has m0 x.1 v).1 ⟨x, hx, rfl, hv⟩))
    exact List.mem_map.2 ⟨y, hy, e⟩
  simpa using this
theorem vals_mono {m0 m1 : List Att} (h : ∀ n v, HasL m0 n v → HasL m1 n v) (n : Str) : (getL m0 n).length ≤ (getL m1 n).length :=
  nodup_sub_len (SS_getL m0 n).nodup fun v hv => (mem_getL m1 n v).2 (h _ _ ((mem_getL m0 n v).1 hv))

theorem applyGo_mono (a : List Att) : ∀ (l : List Rule) (out0 out1 : List Att), (∀ n v, HasL out0 n v → HasL out1 n v) → (applyGo a l out1).2 = 0 → (applyGo a l out0).2 = 0
  | [], _, _, _, _ => rfl
  | r :: l, out0, out1, hs, h => by
    rw [applyGo_cons] at h ⊢
    split at h
    · simp at h
    · rename_i hc
      rw [if_neg hc]
      split at h
      · simp at h
      · rename_i hl
        have hs2 : ∀ n v, HasL (nextA a r out0) n v → HasL (nextA a r out1) n v := fun n v hv => by
          rw [has_next] at hv ⊢
          rcases hv with hv | hv
          · exact .inl (hs n v hv)
          · exact .inr hv
        have hl1 := names_mono hs2
        rw [norm_next, norm_next] at hl1
        have hl2 := vals_mono hs2 r.1
        rw [if_neg (by omega)]
        exact applyGo_mono a l _ _ hs2 h

theorem together_err {A B : List Rule} {a : List Att} (h : (applyM (A ++ B) a).2 = 0) : (applyM A a).2 = 0 ∧ (applyM B a).2 = 0 := by
  obtain ⟨hc, hg⟩ := applyM_check h
  have hA := checkM_left hc
  have hB := checkM_right hc
  rw [applyGo_app] at hg
  split at hg
  · rename_i h0
    refine ⟨by rw [applyM, if_pos hA]; exact h0, ?_⟩
    rw [applyM, if_pos hB]
    exact applyGo_mono a B [] _ (fun n v hv => by simp [HasL] at hv) (by rw [hg])
  · rename_i h0; rw [hg] at h0; exact absurd rfl h0
theorem together_lim {A B : List Rule} {a : List Att} (hA : (applyM A a).2 = 0) (hB : (applyM B a).2 = 0) (h : (applyM (A ++ B) a).2 ≠ 0) : (applyM (A ++ B) a).2 = 3 := by
  obtain ⟨cA, gA⟩ := applyM_check hA
  obtain ⟨cB, gB⟩ := applyM_check hB
  rcases checkM_both cA cB with hc | hc
  · rw [applyM, if_pos hc] at h ⊢
    rcases applyGo_clean a (A ++ B) [] (fun r hr => by
      rcases List.mem_append.1 hr with hr | hr
      · exact (applyGo_ok a A [] _ gA rfl).2.2 r hr
      · exact (applyGo_ok a B [] _ gB rfl).2.2 r hr) with h0 | h0
    · exact absurd h0 h
    · exact h0
  · rw [applyM, if_neg (by omega)]; exact hc
theorem together_ok {A B : List Rule} {a : List Att} (hA : (applyM A a).2 = 0) (hB : (applyM B a).2 = 0) (h : (applyM (A ++ B) a).2 = 0) : (applyM (A ++ B) a).1 = sortedL ((applyM A a).1 ++ (applyM B a).1) := by
  obtain ⟨_, gA⟩ := applyM_check hA
  obtain ⟨_, gB⟩ := applyM_check hB
  obtain ⟨_, gC⟩ := applyM_check h
  obtain ⟨_, iA, _⟩ := applyGo_ok a A [] _ gA rfl
  obtain ⟨_, iB, _⟩ := applyGo_ok a B [] _ gB rfl
  obtain ⟨nC, iC, _⟩ := applyGo_ok a (A ++ B) [] _ gC rfl
  rw [← nC]
  refine sorted_ext fun n v => ?_
  rw [iC, hasL_app, iA, iB]
  simp only [HasR, List.mem_append, or_and_right, exists_or]
  simp [HasL]

/-! ### valid -/
theorem applyGo_lim (a : List Att) : ∀ (l : List Rule) (out x : List Att), applyGo a l out = (x, 0) → out.length ≤ 32 → (∀ n, (getL out n).length ≤ 16) → x.length ≤ 32 ∧ ∀ n, (getL x n).length ≤ 16
  | [], out, x, h, h1, h2 => by
    simp only [applyGo, Prod.mk.injEq, and_true] at h
    subst h
    exact ⟨h1, h2⟩
  | r :: l, out, x, h, h1, h2 => by
    rw [applyGo_cons] at h
    split at h
    · simp at h
    · split at h
      · simp at h
      · rename_i hl
        refine applyGo_lim a l _ x h (by omega) (fun n => ?_)
        by_cases hn : lower r.1 = lower n
        · have : getL (nextA a r out) n = getL (nextA a r out) r.1 := getL_ext fun v => by rw [hn]
          rw [this]; omega
        · have : getL (nextA a r out) n = getL out n := getL_ext fun v => by rw [has_next]; simp [hn]
          rw [this]; exact h2 n
theorem applied_valid {l : List Rule} {a : List Att} (h : (applyM l a).2 = 0) : Valid (applyM l a).1 ∧ sortedL (applyM l a).1 = (applyM l a).1 ∧ (∀ x ∈ (applyM l a).1, ∃ r ∈ l, lower r.1 = x.1) ∧ checkM l = 0 := by
  obtain ⟨hc, hg⟩ := applyM_check h
  obtain ⟨hn, hi, hcl⟩ := applyGo_ok a l [] _ hg rfl
  obtain ⟨h1, h2⟩ := applyGo_lim a l [] _ hg (by simp) (fun n => by show ([] : List Str).length ≤ 16; simp)
  generalize (applyM l a).1 = x at *
  refine ⟨?_, hn, fun y hy => ?_, hc⟩
  · rw [← hn]
    refine valid_sorted (by rw [hn]; exact h1) (fun n v hv => ?_) h2
    rw [hi] at hv
    rcases hv with hv | ⟨r, hr, rfl, hv⟩
    · simp [HasL] at hv
    · exact ⟨by rw [nameB_low]; exact (chkRule_form (checkM_all hc r hr)).1, List.all_eq_true.1 (hcl r hr) v hv⟩
  · have hN := nf_sorted x
    rw [hn] at hN
    obtain ⟨v, hv⟩ := List.exists_mem_of_ne_nil _ (hN.ne y hy)
    have : HasL x y.1 v := (sorted_has x y.1 v).1 (by rw [hn]; exact ⟨y, hy, rfl, hv⟩)
    rw [hi] at this
    rcases this with h3 | ⟨r, hr, e, _⟩
    · simp [HasL] at h3
    · exact ⟨r, hr, e⟩
end Go.Proofs.Tz

/- Rules: Account in both; the chapter's examples. -/
set_option maxRecDepth 100000
set_option maxHeartbeats 8000000
set_option linter.unusedVariables false
set_option linter.unusedSimpArgs false
namespace Go.Proofs.Tz
open Go.Vw Go.RowKit Go.Proofs

abbrev Acc := Str × Bool × List Att
def accD (c : Acc) : D := .agg [.str c.1, .bool c.2.1, atts c.2.2]
def accM (l : List Rule) (a : List Att) (id : Str) (act : Bool) : Acc × Int :=
  if wordB id = false then (([], false, []), 5) else if (applyM l a).2 = 0 then ((id, act, (applyM l a).1), 0) else (([], false, []), (applyM l a).2)

theorem account_fn (l : List Rule) (a : List Att) (nm id : Str) (act : Bool) (h : FitA l a) (hid : List.length id < 1000000) :
    Ctr Tryz.prog 24 [.d (rules l), .d (.agg [.str nm, atts a]), .d (.str id), .d (.bool act)] (.tup [.d (accD (accM l a id act).1), .d (.int .i64 (accM l a id act).2)]) := by
  refine fn_of_vwpN (rv := .cell 8 41) (rs := [.tmp 9]) (r := .d (accD (accM l a id act).1)) (ys := [.d (.int .i64 (accM l a id act).2)]) (fun _ => false) (by kernel_rfl) Tryz.func24 (by kernel_rfl) rfl rfl (by simp) (Nat.le_of_ble_eq_true rfl) (by kernel_rfl) rfl rfl ?_
  have hA := apply_fn l a h
  have eA : accM l a id act = if wordB id = false then (([], false, []), 5) else if (applyM l a).2 = 0 then ((id, act, (applyM l a).1), 0) else (([], false, []), (applyM l a).2) := rfl
  generalize accM l a id act = R at *
  generalize applyM l a = S at *
  simp only [atts] at hA
  simp -implicitDefEqProofs [atts]
  refine callK (fword_fn id hid) ?_
  by_cases hw : wordB id = true
  · simp -implicitDefEqProofs [hw]
    refine callK hA ?_
    by_cases h0 : S.2 = 0
    · have : R = ((id, act, S.1), 0) := by rw [eA]; simp [hw, h0]
      subst this
      simp -implicitDefEqProofs [hw, h0, atts, accD]
    · have : R = (([], false, []), S.2) := by rw [eA]; simp [hw, h0]
      subst this
      simp -implicitDefEqProofs [hw, h0, atts, accD]
  · have hw' : wordB id = false := by simpa using hw
    have : R = (([], false, []), 5) := by rw [eA]; simp [hw']
    subst this
    simp -implicitDefEqProofs [hw', accD, atts]

theorem accountR_fn (l : List Rule) (a : List Att) (nm id : Str) (act : Bool) (h : FitA l a) (hid : List.length id < 1000000) :
    Ctr Tryz.prog 25 [.d (rules l), .d (.agg [.str nm, atts a]), .d (.str id), .d (.bool act)] (.tup [.d (accD (accM l a id act).1), .d (.int .i64 (accM l a id act).2)]) := by
  refine fn_of_vwpN (rv := .cell 8 41) (rs := [.tmp 9]) (r := .d (accD (accM l a id act).1)) (ys := [.d (.int .i64 (accM l a id act).2)]) (fun _ => false) (by kernel_rfl) Tryz.func25 (by kernel_rfl) rfl rfl (by simp) (Nat.le_of_ble_eq_true rfl) (by kernel_rfl) rfl rfl ?_
  have hA := applyR_fn l a h
  have eA : accM l a id act = if wordB id = false then (([], false, []), 5) else if (applyM l a).2 = 0 then ((id, act, (applyM l a).1), 0) else (([], false, []), (applyM l a).2) := rfl
  generalize accM l a id act = R at *
  generalize applyM l a = S at *
  simp only [atts] at hA
  simp -implicitDefEqProofs [atts]
  refine callK (word_fn id hid) ?_
  by_cases hw : wordB id = true
  · simp -implicitDefEqProofs [hw]
    refine callK hA ?_
    by_cases h0 : S.2 = 0
    · have : R = ((id, act, S.1), 0) := by rw [eA]; simp [hw, h0]
      subst this
      simp -implicitDefEqProofs [hw, h0, atts, accD]
    · have : R = (([], false, []), S.2) := by rw [eA]; simp [hw, h0]
      subst this
      simp -implicitDefEqProofs [hw, h0, atts, accD]
  · have hw' : wordB id = false := by simpa using hw
    have : R = (([], false, []), 5) := by rw [eA]; simp [hw']
    subst this
    simp -implicitDefEqProofs [hw', accD, atts]

/-! ### literal values -/
def wl : List Rule := [([76, 111, 103, 105, 110], [67, 78], [112, 114, 101, 102, 105, 120, 58, 117, 45]), ([97, 108, 108], [99, 110], [106, 111, 105, 110, 58, 44]), ([107, 105, 110, 100], [], [99, 111, 110, 115, 116, 58, 112, 101, 114, 115, 111, 110]), ([110, 111, 110, 101], [120], [99, 111, 112, 121])]
def wa : List Att := [([99, 110], [[98], [97]])]
def wm : List Rule := [([109, 97, 105, 108], [109, 97, 105, 108], [108, 111, 119, 101, 114])]
def wt : Str := [109, 97, 105, 108, 32, 109, 97, 105, 108, 32, 108, 111, 119, 101, 114, 10]
def wu : Str := [97, 32, 98, 32, 117, 112, 112, 101, 114, 10]
theorem wl_apply : applyM wl wa = ([([97, 108, 108], [[97, 44, 98]]), ([107, 105, 110, 100], [[112, 101, 114, 115, 111, 110]]), ([108, 111, 103, 105, 110], [[117, 45, 97], [117, 45, 98]])], 0) := by decide +kernel
theorem wm_text : textM wm = (wt, 0) := by decide +kernel
theorem wt_parse : parseM wt = (wm, 0, 0) := back1 wm_text
theorem wu_parse : parseM wu = ([], 1, 4) := by
  have e : wu = line0 ([97], [98], [117, 112, 112, 101, 114]) ++ 10 :: [] := by decide +kernel
  rw [parseM, if_neg (by decide), e, parseGo_at [] (ixB_mid (line0_no10 _))]
  have e1 : List.take (List.length (line0 ([97], [98], [117, 112, 112, 101, 114]))) (line0 ([97], [98], [117, 112, 112, 101, 114]) ++ 10 :: []) = line0 ([97], [98], [117, 112, 112, 101, 114]) := by decide +kernel
  rw [e1, lineP_line0]
  decide +kernel
theorem wn_acc : accM [] wa [117, 49] true = (([117, 49], true, []), 0) := by decide +kernel
theorem wl_src : sourcesL wl = [[99, 110], [120]] := by decide +kernel
theorem fitR_of {l : List Rule} (h : (decide (l.length < 1000) && l.all fun r => decide (List.length r.1 < 1000) && decide (List.length r.2.1 < 1000) && decide (List.length r.2.2 < 1000)) = true) : FitR l := by
  simp only [Bool.and_eq_true, decide_eq_true_eq, List.all_eq_true] at h
  obtain ⟨h1, h2⟩ := h
  exact ⟨by omega, fun r hr => by have := h2 r hr; omega⟩
def goodB (vs : List Str) : Bool := decide (vs.length ≤ 200) && vs.all fun v => decide (List.length v ≤ 300)
theorem goodB_ok {vs : List Str} (h : goodB vs = true) : GoodV vs := by
  simp only [goodB, Bool.and_eq_true, decide_eq_true_eq, List.all_eq_true] at h
  exact h
theorem fit2_of' {l : List Att} (h : (decide (l.length < 1000) && l.all (fun a => decide (List.length a.1 < 1000) && decide (a.2.length < 1000)) && decide (total l < 1000)) = true) : Fit2 l := by
  simp only [Bool.and_eq_true, decide_eq_true_eq, List.all_eq_true] at h
  obtain ⟨⟨h1, h2⟩, h3⟩ := h
  exact ⟨⟨by omega, fun a ha => ⟨by have := (h2 a ha).1; omega, by have := (h2 a ha).2; omega⟩⟩, by omega⟩
theorem fitA_of {l : List Rule} {a : List Att} (h1 : FitR l) (h2 : Fit2 a) (h : (l.all fun r => decide (List.length r.2.2 ≤ 400) && goodB (getL a r.2.1)) = true) : FitA l a := by
  simp only [Bool.and_eq_true, decide_eq_true_eq, List.all_eq_true] at h
  exact ⟨h1, h2, fun r hr => ⟨(h r hr).1, goodB_ok (h r hr).2⟩⟩

theorem awakeM_fn : Ctr Tryz.prog 10 [] (.d (.bool true)) := by
  refine fn_of_vwp (fun _ => false) (by kernel_rfl) Tryz.func10 (by kernel_rfl) rfl rfl (Nat.le_of_ble_eq_true rfl) (by kernel_rfl) rfl rfl ?_
  simp -implicitDefEqProofs
  have fa : Fit2 wa := fit2_of' (by decide +kernel)
  have h1 := apply_fn wl wa (fitA_of (fitR_of (by decide +kernel)) fa (by decide +kernel))
  rw [wl_apply] at h1
  simp only [wl, wa, rules, ruleD, atts, att, strs, List.map_cons, List.map_nil] at h1
  repeat refine And.intro (by decide) ?_
  refine callK h1 ?_
  simp -implicitDefEqProofs
  have h2 := mtext_fn wm (fitR_of (by decide +kernel))
  rw [wm_text] at h2
  simp only [wm, wt, rules, ruleD, List.map_cons, List.map_nil] at h2
  refine callK h2 ?_
  simp -implicitDefEqProofs
  have h3 := mparse_fn wt (by decide)
  rw [wt_parse] at h3
  simp only [wm, wt, rules, ruleD, List.map_cons, List.map_nil] at h3
  refine callK h3 ?_
  simp -implicitDefEqProofs
  have h4 := mparse_fn wu (by decide)
  rw [wu_parse] at h4
  simp only [wu, rules, ruleD, List.map_cons, List.map_nil] at h4
  refine callK h4 ?_
  simp -implicitDefEqProofs
  have h5 := account_fn [] wa [] [117, 49] true (fitA_of (fitR_of (by decide +kernel)) fa (by decide +kernel)) (by decide)
  rw [wn_acc] at h5
  simp only [wa, rules, accD, atts, att, strs, List.map_cons, List.map_nil] at h5
  refine callK h5 ?_
  simp -implicitDefEqProofs
  have h6 := sources_fn wl (fitR_of (by decide +kernel))
  rw [wl_src] at h6
  simp only [wl, rules, ruleD, strs, List.map_cons, List.map_nil] at h6
  refine callK h6 ?_
  simp -implicitDefEqProofs
  have h7 := same_fn [[99, 110], [120]] [[99, 110], [120]] (by decide) (by decide)
  rw [decide_eq_true rfl] at h7
  simp only [strs, List.map_cons, List.map_nil] at h7
  repeat refine And.intro (by decide) ?_
  refine callK h7 ?_
  simp -implicitDefEqProofs
end Go.Proofs.Tz

namespace Go.Proofs.Tz
open Go.Vw
set_option linter.unusedSimpArgs false

theorem fits_str {d : D} (h : Sh.Fits .str d) : ∃ s : Str, d = .str s := by
  simp only [Sh.Fits] at h
  obtain ⟨s, rfl, _⟩ := h
  exact ⟨s, rfl⟩
theorem fits_list {α : Type} {s : Sh} (g : α → D) (hs : ∀ d, Sh.Fits s d → ∃ a, d = g a) {d : D} (h : Sh.Fits (.sl s) d) : ∃ l : List α, d = .sl (l.map g) := by
  simp only [Sh.Fits] at h
  obtain ⟨ds, rfl, _, h⟩ := h
  have : ∀ ds : List D, (∀ x ∈ ds, Sh.Fits s x) → ∃ l : List α, ds = l.map g := by
    intro ds
    induction ds with
    | nil => intro _; exact ⟨[], rfl⟩
    | cons x ds ih =>
      intro h
      obtain ⟨a, rfl⟩ := hs x (h x (by simp))
      obtain ⟨l, rfl⟩ := ih fun y hy => h y (by simp [hy])
      exact ⟨a :: l, rfl⟩
  obtain ⟨l, rfl⟩ := this ds h
  exact ⟨l, rfl⟩
theorem fits_strs {d : D} (h : Sh.Fits (.sl .str) d) : ∃ l : List Str, d = strs l := fits_list _ (fun _ h => fits_str h) h
theorem fits_att {d : D} (h : Sh.Fits (.agg [.str, .sl .str]) d) : ∃ a : Att, d = att a := by
  simp only [Sh.Fits, Sh.FitsL] at h
  obtain ⟨ds, rfl, x, xs, rfl, ⟨s, rfl, _⟩, y, ys, rfl, hy, rfl⟩ := h
  obtain ⟨l, rfl⟩ := fits_strs (d := y) (by simp only [Sh.Fits]; exact hy)
  exact ⟨(s, l), rfl⟩
theorem fits_atts {d : D} (h : Sh.Fits (.sl (.agg [.str, .sl .str])) d) : ∃ l : List Att, d = atts l := fits_list _ (fun _ h => fits_att h) h

theorem bulk_map {α : Type} (g : α → D) (c : α → Nat) (h : ∀ a, (g a).bulk = c a) (l : List α) : D.bulks (l.map g) = (l.map c).sum := by
  rw [D.bulks_sum, List.map_map]
  congr 1
  exact List.map_congr_left fun a _ => h a
end Go.Proofs.Tz

/- The statements about layer 47, for arguments of bounded size. -/
set_option maxRecDepth 100000
set_option maxHeartbeats 8000000
set_option linter.unusedVariables false
set_option linter.unusedSimpArgs false
namespace Go.Proofs.Tz
open Go.Vw Go.RowKit Go.Proofs

theorem light_spec {l : List Rule} (h : lightB l = true) : l.length ≤ 70 ∧ ∀ r ∈ l, List.length r.1 ≤ 400 ∧ List.length r.2.1 ≤ 400 ∧ List.length r.2.2 ≤ 400 := by
  simp only [lightB, Bool.and_eq_true, decide_eq_true_eq] at h
  obtain ⟨⟨h1, h2⟩, h3⟩ := h
  rw [List.take_of_length_le h2] at h1
  refine ⟨h2, fun r hr => ?_⟩
  have := List.all_eq_true.1 h1 r hr
  simpa [lightR, and_assoc] using this
theorem light_fit {l : List Rule} (h : lightB l = true) : FitR l := by
  obtain ⟨h1, h2⟩ := light_spec h
  exact ⟨by omega, fun r hr => by have := h2 r hr; omega⟩
theorem lightA_spec {a : List Att} (h : lightA a = true) : a.length ≤ 8 ∧ ∀ x ∈ a, List.length x.1 ≤ 300 ∧ x.2.length ≤ 20 ∧ ∀ v ∈ x.2, List.length v ≤ 300 := by
  simp only [lightA, Bool.and_eq_true, decide_eq_true_eq, List.all_eq_true] at h
  refine ⟨h.1, fun x hx => ?_⟩
  have := h.2 x hx
  simp only [lightT, lightV, Bool.and_eq_true, decide_eq_true_eq, List.all_eq_true] at this
  exact ⟨this.1.1, this.1.2, this.2⟩
theorem total_len {a : List Att} {m : Nat} (h : ∀ x ∈ a, x.2.length ≤ m) : total a ≤ a.length * m := by
  induction a with
  | nil => simp [total]
  | cons x a ih =>
    have h1 := h x (by simp)
    have h2 := ih (fun y hy => h y (by simp [hy]))
    simp only [total, List.map_cons, List.sum_cons, List.length_cons] at h2 ⊢
    rw [Nat.add_mul, Nat.one_mul]
    omega
theorem lightA_fit {a : List Att} (h : lightA a = true) : Fit2 a ∧ total a ≤ 160 := by
  obtain ⟨h1, h2⟩ := lightA_spec h
  have ht := total_len (m := 20) (fun x hx => (h2 x hx).2.1)
  have : a.length * 20 ≤ 8 * 20 := Nat.mul_le_mul_right _ h1
  exact ⟨⟨⟨by omega, fun x hx => by have := h2 x hx; omega⟩, by omega⟩, by omega⟩
theorem lightA_good {a : List Att} (h : lightA a = true) (n : Str) : GoodV (getL a n) := by
  obtain ⟨h1, h2⟩ := lightA_fit h
  refine ⟨by have := getL_len a n; omega, fun v hv => ?_⟩
  obtain ⟨x, hx, _, hv⟩ := (mem_getL a n v).1 hv
  exact ((lightA_spec h).2 x hx).2.2 v hv
theorem light_fitA {l : List Rule} {a : List Att} (h1 : lightB l = true) (h2 : lightA a = true) : FitA l a :=
  ⟨light_fit h1, (lightA_fit h2).1, fun r hr => ⟨((light_spec h1).2 r hr).2.2, lightA_good h2 _⟩⟩

theorem textM_len {l : List Rule} : List.length (textM l).1 < 1000000 := by
  unfold textM
  split
  · split
    · simp
    · simp only; omega
  · simp
theorem parseM_fit {s : Str} : FitR (parseM s).1 := by
  by_cases h : (parseM s).2.2 = 0
  · have hp : parseM s = ((parseM s).1, (parseM s).2.1, 0) := by rw [← h]
    have h2 := back2 hp
    have hl : List.length s ≤ 4096 := by
      unfold parseM at h
      split at h
      · simp at h
      · omega
    generalize (parseM s).1 = x at *
    obtain ⟨h2, _⟩ := h2
    have hc : checkM x = 0 := by
      unfold textM at h2
      split at h2
      · assumption
      · rename_i hc
        simp only [Prod.mk.injEq] at h2
        exact absurd h2.2 hc
    have hx := checkM_le hc
    refine ⟨by omega, fun r hr => ?_⟩
    have hs : linesS x = s := by
      rw [textM, if_pos hc] at h2
      split at h2
      · simp at h2
      · simp only [Prod.mk.injEq, and_true] at h2; exact h2
    have esc : ∀ t : Str, List.length t ≤ List.length (escS t) := fun t => by
      induction t with
      | nil => simp
      | cons c t ih =>
        have : 1 ≤ (escB c).length := by unfold escB; split <;> simp
        simp only [escS, List.flatMap_cons, List.length_append, List.length_cons] at ih ⊢
        omega
    have hle : List.length (lineS r) ≤ List.length s := by
      rw [← hs]
      clear hc hx hs h2 hp h
      induction x with
      | nil => simp at hr
      | cons y x ih =>
        simp only [linesS, List.flatMap_cons, List.length_append] at ih ⊢
        rcases List.mem_cons.1 hr with rfl | hr
        · omega
        · have := ih hr; omega
    have a := esc r.1
    have b := esc r.2.1
    have c := esc r.2.2
    simp only [lineS, List.length_append, List.length_cons, List.length_nil] at hle
    omega
  · rw [back3 h]
    exact ⟨by simp, by simp⟩

theorem applyM_fit {l : List Rule} {a : List Att} : (applyM l a).1.length ≤ 32 := by
  by_cases h : (applyM l a).2 = 0
  · obtain ⟨_, hg⟩ := applyM_check h
    exact (applyGo_lim a l [] _ hg (by simp) (fun n => by show ([] : List Str).length ≤ 16; simp)).1
  · rw [applyM_err h]; simp
theorem applyM_fit2 {l : List Rule} {a : List Att} (hf : FitR l) : Fit2 (applyM l a).1 ∧ total (applyM l a).1 ≤ 512 := by
  have hl := applyM_fit (l := l) (a := a)
  by_cases h : (applyM l a).2 = 0
  · obtain ⟨hv, _, hn, _⟩ := applied_valid h
    have ht := total_len (m := 16) (fun x hx => (hv.each x hx).2.2.1)
    have : (applyM l a).1.length * 16 ≤ 32 * 16 := Nat.mul_le_mul_right _ hl
    refine ⟨⟨⟨by omega, fun x hx => ⟨?_, by have := (hv.each x hx).2.2.1; omega⟩⟩, by omega⟩, by omega⟩
    obtain ⟨r, hr, e⟩ := hn x hx
    have := (hf.2 r hr).1
    rw [← e, lower_len]; exact this
  · rw [applyM_err h]; exact ⟨⟨⟨by simp, by simp⟩, by simp [total]⟩, by simp [total]⟩

theorem lawM3 (l : List Rule) (s : Str) : Ctr Tryz.prog 3 [.d (rules l), .d (.str s)] (.d (.bool true)) := by
  refine fn_of_vwp (fun _ => false) (by kernel_rfl) Tryz.func3 (by kernel_rfl) rfl rfl (Nat.le_of_ble_eq_true rfl) (by kernel_rfl) rfl rfl ?_
  simp -implicitDefEqProofs
  refine callK (light_fn l) ?_
  by_cases hl : lightB l = true
  case neg =>
    simp -implicitDefEqProofs [hl]
    refine callK awakeM_fn ?_
    simp -implicitDefEqProofs
  by_cases hs : (5000 : Int) < List.length s
  · simp -implicitDefEqProofs [hl, hs]
    refine callK awakeM_fn ?_
    simp -implicitDefEqProofs
  have hfit := light_fit hl
  have hs' : List.length s < 1000000 := by omega
  have hp := mparse_fn s hs'
  have hpR := mparseR_fn s hs'
  have hpf := parseM_fit (s := s)
  have hsame := sameM_fn (parseM s).1 (parseM s).1 hpf.1 hpf.1
  have ht := mtext_fn l hfit
  have htR := mtextR_fn l hfit
  have hS := sources_fn l hfit
  have hSR := sourcesR_fn l hfit
  have hSl : (sourcesL l).length < 1000000 := by
    have h1 := insAll_len (srcN l) []
    have h2 := srcN_len l
    have h3 := hfit.1
    simp only [List.length_nil] at h1
    rw [sourcesL]
    omega
  have hSS := same_fn (sourcesL l) (sourcesL l) hSl hSl
  generalize parseM s = P at *
  generalize textM l = T at *
  generalize sourcesL l = Q at *
  simp only [rules] at hp hpR hsame
  generalize List.map ruleD P.1 = PD at *
  simp -implicitDefEqProofs [hl, hs]
  refine callK ht ?_
  simp -implicitDefEqProofs
  refine callK htR ?_
  simp -implicitDefEqProofs
  refine callK hp ?_
  simp -implicitDefEqProofs
  refine callK hpR ?_
  simp -implicitDefEqProofs
  refine callK (mcheck_fn l hfit) ?_
  simp -implicitDefEqProofs
  refine callK (mcheckR_fn l hfit) ?_
  simp -implicitDefEqProofs
  refine callK hsame ?_
  simp -implicitDefEqProofs
  refine callK hS ?_
  simp -implicitDefEqProofs
  refine callK hSR ?_
  simp -implicitDefEqProofs
  refine callK hSS ?_
  simp -implicitDefEqProofs
  refine callK awakeM_fn ?_
  simp -implicitDefEqProofs

theorem lawM4 (l : List Rule) (a : List Att) (id : Str) (act : Bool) : Ctr Tryz.prog 4 [.d (rules l), .d (atts a), .d (.str id), .d (.bool act)] (.d (.bool true)) := by
  refine fn_of_vwp (fun _ => false) (by kernel_rfl) Tryz.func4 (by kernel_rfl) rfl rfl (Nat.le_of_ble_eq_true rfl) (by kernel_rfl) rfl rfl ?_
  simp -implicitDefEqProofs [atts]
  refine callK (light_fn l) ?_
  by_cases hl : lightB l = true
  case neg =>
    simp -implicitDefEqProofs [hl]
    refine callK awakeM_fn ?_
    simp -implicitDefEqProofs
  have hLA := lightA_fn a
  simp only [atts] at hLA
  by_cases ha : lightA a = true
  case neg =>
    simp -implicitDefEqProofs [hl]
    refine callK hLA ?_
    simp -implicitDefEqProofs [ha]
    refine callK awakeM_fn ?_
    simp -implicitDefEqProofs
  by_cases hs : (300 : Int) < List.length id
  · simp -implicitDefEqProofs [hl]
    refine callK hLA ?_
    simp -implicitDefEqProofs [ha, hs]
    refine callK awakeM_fn ?_
    simp -implicitDefEqProofs
  have hfit := light_fitA hl ha
  have hid : List.length id < 1000000 := by omega
  have hA := apply_fn l a hfit
  have hAR := applyR_fn l a hfit
  have hC := account_fn l a [99, 110, 61, 97] id act hfit hid
  have hCR := accountR_fn l a [99, 110, 61, 97] id act hfit hid
  obtain ⟨f1, f2⟩ := applyM_fit2 (l := l) (a := a) hfit.1
  have hsame := sameA_fn (applyM l a).1 (applyM l a).1 f1.1 f1.1
  have hacc : Fits (accM l a id act).1.2.2 := by
    unfold accM
    split
    · exact ⟨by simp, by simp⟩
    · split
      · exact f1.1
      · exact ⟨by simp, by simp⟩
  have hsameC := sameA_fn (accM l a id act).1.2.2 (accM l a id act).1.2.2 hacc hacc
  generalize accM l a id act = C at *
  generalize applyM l a = A at *
  obtain ⟨⟨c1, c2, c3⟩, c4⟩ := C
  simp only [accD, atts] at hA hAR hC hCR hsame hsameC
  simp -implicitDefEqProofs [hl]
  refine callK hLA ?_
  simp -implicitDefEqProofs [ha, hs]
  refine callK hA ?_
  simp -implicitDefEqProofs
  refine callK hAR ?_
  simp -implicitDefEqProofs
  refine callK hC ?_
  simp -implicitDefEqProofs
  refine callK hCR ?_
  simp -implicitDefEqProofs
  refine callK hsame ?_
  simp -implicitDefEqProofs
  refine callK hsameC ?_
  simp -implicitDefEqProofs
  refine callK awakeM_fn ?_
  simp -implicitDefEqProofs
end Go.Proofs.Tz

/- The statements about layer 47, for arguments of bounded size: the second part. -/
set_option maxRecDepth 100000
set_option maxHeartbeats 8000000
set_option linter.unusedVariables false
set_option linter.unusedSimpArgs false
namespace Go.Proofs.Tz
open Go.Vw Go.RowKit Go.Proofs

theorem lawM5 (l : List Rule) (s : Str) : Ctr Tryz.prog 5 [.d (rules l), .d (.str s)] (.d (.bool true)) := by
  refine fn_of_vwp (fun _ => false) (by kernel_rfl) Tryz.func5 (by kernel_rfl) rfl rfl (Nat.le_of_ble_eq_true rfl) (by kernel_rfl) rfl rfl ?_
  simp -implicitDefEqProofs
  refine callK (light_fn l) ?_
  by_cases hl : lightB l = true
  case neg =>
    simp -implicitDefEqProofs [hl]
    refine callK awakeM_fn ?_
    simp -implicitDefEqProofs
  by_cases hs : (5000 : Int) < List.length s
  · simp -implicitDefEqProofs [hl, hs]
    refine callK awakeM_fn ?_
    simp -implicitDefEqProofs
  have hfit := light_fit hl
  have hs' : List.length s < 1000000 := by omega
  have hp := mparse_fn s hs'
  have hpf := parseM_fit (s := s)
  have hback := fun k => back2 (s := s) (x := (parseM s).1) (k := k)
  have hnone := back3 (s := s)
  obtain ⟨x, k, e, hP⟩ : ∃ x k e, parseM s = (x, k, e) := ⟨_, _, _, rfl⟩
  rw [hP] at hp hpf hback hnone
  simp only at hpf hback hnone
  have hx := mtext_fn x hpf
  have ht := mtext_fn l hfit
  have htl := textM_len (l := l)
  have hb1 := fun t => back1 (l := l) (t := t)
  have hsame := sameM_fn l l hfit.1 hfit.1
  simp only [decide_true] at hsame
  obtain ⟨t, d, hT⟩ : ∃ t d, textM l = (t, d) := ⟨_, _, rfl⟩
  rw [hT] at ht htl hb1
  have hp1 := mparse_fn t htl
  simp only [rules] at hp hp1 hx
  by_cases e1 : d = 0
  · subst e1
    rw [hb1 t rfl] at hp1
    simp only at hp1
    simp only [rules] at hsame
    simp -implicitDefEqProofs [hl, hs, rules] at ht ⊢
    refine callK ht ?_
    simp -implicitDefEqProofs
    refine callK hp1 ?_
    simp -implicitDefEqProofs
    refine callK hsame ?_
    simp -implicitDefEqProofs
    refine callK hp ?_
    by_cases e2 : e = 0
    · subst e2
      obtain ⟨hb2, rfl⟩ := hback k rfl
      rw [hb2] at hx
      simp -implicitDefEqProofs
      refine callK hx ?_
      simp -implicitDefEqProofs
      refine callK awakeM_fn ?_
      simp -implicitDefEqProofs
    · have hx0 := hnone e2
      subst hx0
      simp -implicitDefEqProofs [e2]
      refine callK awakeM_fn ?_
      simp -implicitDefEqProofs
  · simp -implicitDefEqProofs [hl, hs, rules] at ht ⊢
    refine callK ht ?_
    simp -implicitDefEqProofs [e1]
    refine callK hp ?_
    by_cases e2 : e = 0
    · subst e2
      obtain ⟨hb2, rfl⟩ := hback k rfl
      rw [hb2] at hx
      simp -implicitDefEqProofs
      refine callK hx ?_
      simp -implicitDefEqProofs
      refine callK awakeM_fn ?_
      simp -implicitDefEqProofs
    · have hx0 := hnone e2
      subst hx0
      simp -implicitDefEqProofs [e2]
      refine callK awakeM_fn ?_
      simp -implicitDefEqProofs

/-! ### Sources -/
theorem left_take (a : List Att) {ns : List Str} {k : Nat} (h : k < ns.length) : leftA a (ns.take (k + 1)) = leftA a (ns.take k) ++ if getL a ns[k] = [] then [] else [(ns[k], getL a ns[k])] := by
  rw [take_s h]
  simp only [leftA, List.filter_append, List.map_append]
  congr 1
  generalize ns[k] = n
  by_cases hn : getL a n = [] <;> simp [hn]
theorem left_len (a : List Att) (ns : List Str) : (leftA a ns).length ≤ ns.length := by simpa [leftA] using List.length_filter_le _ ns
theorem left_sub {a : List Att} {ns : List Str} {S v : Str} (h : v ∈ getL (leftA a ns) S) : v ∈ getL a S := by
  obtain ⟨x, hx, e, hv⟩ := (mem_getL _ _ _).1 h
  obtain ⟨n, _, rfl⟩ := List.mem_map.1 hx
  have hv' := (mem_getL a n v).1 hv
  rw [show lower n = lower S from e] at hv'
  exact (mem_getL a S v).2 hv'
theorem left_good {a : List Att} (ns : List Str) {S : Str} (h : GoodV (getL a S)) : GoodV (getL (leftA a ns) S) :=
  ⟨Nat.le_trans (nodup_sub_len (SS_getL _ _).nodup fun v hv => left_sub hv) h.1, fun v hv => h.2 v (left_sub hv)⟩
theorem left_fit {a : List Att} {ns : List Str} (ha : lightA a = true) (hn : ns.length ≤ 70) (hn2 : ∀ n ∈ ns, List.length n < 1000000) : Fit2 (leftA a ns) := by
  obtain ⟨_, h2⟩ := lightA_fit ha
  have hl := left_len a ns
  have hv : ∀ x ∈ leftA a ns, List.length x.1 < 1000000 ∧ x.2.length ≤ 160 := fun x hx => by
    obtain ⟨n, hm, rfl⟩ := List.mem_map.1 hx
    exact ⟨hn2 n (List.mem_filter.1 hm).1, by have := getL_len a n; simp only; omega⟩
  have ht := total_len (m := 160) (fun x hx => (hv x hx).2)
  have : (leftA a ns).length * 160 ≤ 70 * 160 := Nat.mul_le_mul_right _ (by omega)
  exact ⟨⟨by omega, fun x hx => by have := hv x hx; omega⟩, by omega⟩

def SrcI (a : List Att) (l : List Rule) (ns : List Str) (k : Nat) (τ : St) : Prop := τ 0 = .d (.sl (l.map ruleD)) ∧ τ 1 = .d (atts a) ∧ τ 6 = .d (.sl (ns.map .str)) ∧ τ 7 = .d (.int .i64 k) ∧ τ 5 = .own false 50 ((leftA a (ns.take k)).map att)

theorem lawM6 (l : List Rule) (a : List Att) : Ctr Tryz.prog 6 [.d (rules l), .d (atts a)] (.d (.bool true)) := by
  refine fn_of_vwp (fun _ => false) (by kernel_rfl) Tryz.func6 (by kernel_rfl) rfl rfl (Nat.le_of_ble_eq_true rfl) (by kernel_rfl) rfl rfl ?_
  simp -implicitDefEqProofs
  refine callK (light_fn l) ?_
  by_cases hl : lightB l = true
  case neg =>
    simp -implicitDefEqProofs [hl]
    refine callK awakeM_fn ?_
    simp -implicitDefEqProofs
  by_cases ha : lightA a = true
  case neg =>
    simp -implicitDefEqProofs [hl]
    refine callK (lightA_fn a) ?_
    simp -implicitDefEqProofs [ha]
    refine callK awakeM_fn ?_
    simp -implicitDefEqProofs
  have hfit := light_fitA hl ha
  have hfa := (lightA_fit ha).1
  have hS := sources_fn l hfit.1
  have hnl : (sourcesL l).length ≤ 70 := by
    have h1 := insAll_len (srcN l) []
    have h2 := srcN_len l
    have h3 := (light_spec hl).1
    simp only [List.length_nil] at h1
    rw [sourcesL]
    omega
  have hn2 : ∀ n ∈ sourcesL l, List.length n < 1000000 := fun n hn => by
    obtain ⟨r, hr, _, rfl⟩ := (mem_sources l n).1 hn
    have := ((light_spec hl).2 r hr).2.1
    rw [lower_len]; omega
  have hfl : FitA l (leftA a (sourcesL l)) := ⟨hfit.1, left_fit ha hnl hn2, fun r hr => ⟨(hfit.2.2 r hr).1, left_good _ (hfit.2.2 r hr).2⟩⟩
  have hA := apply_fn l a hfit
  have hA2 := apply_fn l (leftA a (sourcesL l)) hfl
  rw [apply_left] at hA2
  obtain ⟨f1, f2⟩ := applyM_fit2 (l := l) (a := a) hfit.1
  have hsame := sameA_fn (applyM l a).1 (applyM l a).1 f1.1 f1.1
  generalize applyM l a = A at *
  generalize sourcesL l = ns at *
  simp only [strs, rules] at hS
  simp -implicitDefEqProofs [hl, rules]
  refine callK (lightA_fn a) ?_
  simp -implicitDefEqProofs [ha]
  refine callK hS ?_
  simp -implicitDefEqProofs
  refine loopN ns.length (SrcI a l ns) ?_ ?_
  · simp [SrcI, leftA]
  rintro k τ hk ⟨h0, h1, h6, h7, h5⟩
  have hll := left_len a (ns.take k)
  rw [List.length_take] at hll
  by_cases hlt : k < ns.length
  · have hlt' : (k : Int) < ns.length := by omega
    have e1 := left_take a hlt
    have hnn := hn2 ns[k] (List.getElem_mem hlt)
    generalize hx : ns[k] = n at *
    have hg := get_fn a n hfa hnn
    have hw : ∀ u ∈ (leftA a (ns.take k)).map att, width u = 2 := fun u hu => by
      obtain ⟨y, _, rfl⟩ := List.mem_map.1 hu
      rfl
    simp -implicitDefEqProofs [h0, h1, h6, h7, h5, hlt, hlt', hx]
    refine callK hg ?_
    by_cases h0g : getL a n = []
    · rw [if_pos h0g, List.append_nil] at e1
      simp -implicitDefEqProofs [h0, h1, h6, h7, h5, hlt, hlt', hx, h0g]
      repeat refine And.intro (by omega) ?_
      exact again hlt ⟨by simp [h0], by simp [h1], by simp [h6], by simp, by simp [h5, e1]⟩
    · rw [if_neg h0g] at e1
      have hgl : 0 < (getL a n).length := List.length_pos_iff.2 h0g
      have hgl' : (0 : Int) < (getL a n).length := by omega
      simp -implicitDefEqProofs [h0, h1, h6, h7, h5, hlt, hlt', hx, hgl, hgl', h0g]
      repeat refine And.intro (by omega) ?_
      exact again hlt ⟨by simp [h0], by simp [h1], by simp [h6], by simp, by simp [e1, att, strs]⟩
  · have hlt' : ¬ (k : Int) < ns.length := by omega
    rw [List.take_of_length_le (by omega)] at h5
    simp only [rules, atts] at hA hA2 hsame
    simp only [atts] at h1
    simp -implicitDefEqProofs [h0, h1, h6, h7, h5, hlt, hlt']
    refine callK hA ?_
    simp -implicitDefEqProofs [h0, h1, h6, h7, h5]
    refine callK hA2 ?_
    simp -implicitDefEqProofs
    refine callK hsame ?_
    simp -implicitDefEqProofs
    refine callK awakeM_fn ?_
    simp -implicitDefEqProofs

theorem ruleD_w (l : List Rule) : ∀ u ∈ l.map ruleD, width u = 3 := fun u hu => by
  obtain ⟨y, _, rfl⟩ := List.mem_map.1 hu
  rfl
theorem att_w (l : List Att) : ∀ u ∈ l.map att, width u = 2 := fun u hu => by
  obtain ⟨y, _, rfl⟩ := List.mem_map.1 hu
  rfl

theorem lawM7 (a b : List Rule) (l : List Att) : Ctr Tryz.prog 7 [.d (rules a), .d (rules b), .d (atts l)] (.d (.bool true)) := by
  refine fn_of_vwp (fun _ => false) (by kernel_rfl) Tryz.func7 (by kernel_rfl) rfl rfl (Nat.le_of_ble_eq_true rfl) (by kernel_rfl) rfl rfl ?_
  simp -implicitDefEqProofs
  refine callK (light_fn a) ?_
  by_cases ha : lightB a = true
  case neg =>
    simp -implicitDefEqProofs [ha]
    refine callK awakeM_fn ?_
    simp -implicitDefEqProofs
  by_cases hb : lightB b = true
  case neg =>
    simp -implicitDefEqProofs [ha]
    refine callK (light_fn b) ?_
    simp -implicitDefEqProofs [hb]
    refine callK awakeM_fn ?_
    simp -implicitDefEqProofs
  by_cases hl : lightA l = true
  case neg =>
    simp -implicitDefEqProofs [ha]
    refine callK (light_fn b) ?_
    simp -implicitDefEqProofs [hb]
    refine callK (lightA_fn l) ?_
    simp -implicitDefEqProofs [hl]
    refine callK awakeM_fn ?_
    simp -implicitDefEqProofs
  have hfa := light_fitA ha hl
  have hfb := light_fitA hb hl
  have hfab : FitA (a ++ b) l := ⟨⟨by have := (light_spec ha).1; have := (light_spec hb).1; simp; omega, fun r hr => by
      rcases List.mem_append.1 hr with hr | hr
      · exact hfa.1.2 r hr
      · exact hfb.1.2 r hr⟩, hfa.2.1, fun r hr => by
      rcases List.mem_append.1 hr with hr | hr
      · exact hfa.2.2 r hr
      · exact hfb.2.2 r hr⟩
  have al := (light_spec ha).1
  have bl := (light_spec hb).1
  have hA := apply_fn a l hfa
  have hB := apply_fn b l hfb
  have hC := apply_fn (a ++ b) l hfab
  have te := together_err (A := a) (B := b) (a := l)
  have tl := together_lim (A := a) (B := b) (a := l)
  have tk := together_ok (A := a) (B := b) (a := l)
  obtain ⟨fA, gA⟩ := applyM_fit2 (l := a) (a := l) hfa.1
  obtain ⟨fB, gB⟩ := applyM_fit2 (l := b) (a := l) hfb.1
  have lA := applyM_fit (l := a) (a := l)
  have lB := applyM_fit (l := b) (a := l)
  obtain ⟨fC, gC⟩ := applyM_fit2 (l := a ++ b) (a := l) hfab.1
  have wa := ruleD_w a
  have wb := ruleD_w b
  generalize applyM a l = A at *
  generalize applyM b l = B at *
  generalize applyM (a ++ b) l = C at *
  have wA := att_w A.1
  have wB := att_w B.1
  have hAB : Fit2 (A.1 ++ B.1) := ⟨⟨by simp; omega, fun x hx => by
      rcases List.mem_append.1 hx with hx | hx
      · exact fA.1.2 x hx
      · exact fB.1.2 x hx⟩, by
      have : total (A.1 ++ B.1) = total A.1 + total B.1 := by simp [total]
      omega⟩
  have hS := sorted_fn (A.1 ++ B.1) hAB
  have hsame := sameA_fn C.1 C.1 fC.1 fC.1
  simp only [atts, List.map_append] at hS hsame
  simp only [rules, List.map_append] at hC
  obtain ⟨c, g⟩ := C
  obtain ⟨x, e⟩ := A
  obtain ⟨y, f⟩ := B
  simp only at te tl tk hA hB hC hS hsame wA wB lA lB
  have hgen : (e ≠ 0 ∨ f ≠ 0) → g ≠ 0 := fun h h0 => by
    have := te h0
    rcases h with h | h
    · exact h this.1
    · exact h this.2
  by_cases e1 : e = 0
  case neg =>
    have e3 := hgen (.inl e1)
    simp -implicitDefEqProofs [ha, rules]
    refine callK (light_fn b) ?_
    simp -implicitDefEqProofs [hb]
    refine callK (lightA_fn l) ?_
    simp -implicitDefEqProofs [hl]
    refine callK hA ?_
    simp -implicitDefEqProofs
    refine callK hB ?_
    simp -implicitDefEqProofs
    refine ⟨fun u x y z _ hu => by subst hu; rfl, by omega, by omega, fun u x y z _ hu => by subst hu; rfl, by omega, by omega, callK hC ?_⟩
    simp -implicitDefEqProofs [e1, e3]
    refine callK awakeM_fn ?_
    simp -implicitDefEqProofs
  subst e1
  by_cases e2 : f = 0
  case neg =>
    have e3 := hgen (.inr e2)
    simp -implicitDefEqProofs [ha, rules]
    refine callK (light_fn b) ?_
    simp -implicitDefEqProofs [hb]
    refine callK (lightA_fn l) ?_
    simp -implicitDefEqProofs [hl]
    refine callK hA ?_
    simp -implicitDefEqProofs
    refine callK hB ?_
    simp -implicitDefEqProofs
    refine ⟨fun u x y z _ hu => by subst hu; rfl, by omega, by omega, fun u x y z _ hu => by subst hu; rfl, by omega, by omega, callK hC ?_⟩
    simp -implicitDefEqProofs [e2, e3]
    refine callK awakeM_fn ?_
    simp -implicitDefEqProofs
  subst e2
  by_cases e3 : g = 0
  case neg =>
    have h3 := tl rfl rfl e3
    subst h3
    simp -implicitDefEqProofs [ha, rules]
    refine callK (light_fn b) ?_
    simp -implicitDefEqProofs [hb]
    refine callK (lightA_fn l) ?_
    simp -implicitDefEqProofs [hl]
    refine callK hA ?_
    simp -implicitDefEqProofs
    refine callK hB ?_
    simp -implicitDefEqProofs
    refine ⟨fun u x y z _ hu => by subst hu; rfl, by omega, by omega, fun u x y z _ hu => by subst hu; rfl, by omega, by omega, callK hC ?_⟩
    simp -implicitDefEqProofs
    refine callK awakeM_fn ?_
    simp -implicitDefEqProofs
  subst e3
  have hk := tk rfl rfl rfl
  rw [← hk] at hS
  clear hk tk
  simp -implicitDefEqProofs [ha, rules]
  refine callK (light_fn b) ?_
  simp -implicitDefEqProofs [hb]
  refine callK (lightA_fn l) ?_
  simp -implicitDefEqProofs [hl]
  refine callK hA ?_
  simp -implicitDefEqProofs
  refine callK hB ?_
  simp -implicitDefEqProofs
  refine ⟨fun u x y z _ hu => by subst hu; rfl, by omega, by omega, fun u x y z _ hu => by subst hu; rfl, by omega, by omega, callK hC ?_⟩
  simp -implicitDefEqProofs [atts]
  refine ⟨fun u x y _ hu => by subst hu; rfl, by omega, by omega, fun u x y _ hu => by subst hu; rfl, by omega, by omega, callK hS ?_⟩
  simp -implicitDefEqProofs
  refine callK hsame ?_
  simp -implicitDefEqProofs
  refine callK awakeM_fn ?_
  simp -implicitDefEqProofs

end Go.Proofs.Tz

/- The statements about layer 47, for arguments of bounded size: the third part. -/
set_option maxRecDepth 100000
set_option maxHeartbeats 8000000
set_option linter.unusedVariables false
set_option linter.unusedSimpArgs false
namespace Go.Proofs.Tz
open Go.Vw Go.RowKit Go.Proofs

/-- Whether a target is this name. -/
def tgt (n : Str) (l : List Rule) : Bool := l.any fun r => decide (lower r.1 = n)
theorem tgt_take {n : Str} {l : List Rule} {k : Nat} (h : k < l.length) : tgt n (l.take (k + 1)) = (tgt n (l.take k) || decide (lower l[k].1 = n)) := by
  rw [take_s h]; simp only [tgt, List.any_append, List.any_cons, List.any_nil, Bool.or_false]
theorem tgt_all {n : Str} {l : List Rule} (h : ∃ r ∈ l, lower r.1 = n) : tgt n l = true := by
  obtain ⟨r, hr, e⟩ := h
  exact List.any_eq_true.2 ⟨r, hr, decide_eq_true e⟩
def ValI (l : List Rule) (x : List Att) (k : Nat) (τ : St) : Prop := τ 0 = .d (.sl (l.map ruleD)) ∧ τ 5 = .d (.sl (x.map att)) ∧ τ 7 = .d (.int .i64 k)
def ValJ (l : List Rule) (x : List Att) (k : Nat) (n : Str) (j : Nat) (τ : St) : Prop := τ 0 = .d (.sl (l.map ruleD)) ∧ τ 5 = .d (.sl (x.map att)) ∧ τ 7 = .d (.int .i64 k) ∧ τ 9 = .d (.int .i64 j) ∧ τ 8 = .d (.bool (tgt n (l.take j)))

theorem lawM8 (l : List Rule) (a : List Att) : Ctr Tryz.prog 8 [.d (rules l), .d (atts a)] (.d (.bool true)) := by
  refine fn_of_vwp (fun _ => false) (by kernel_rfl) Tryz.func8 (by kernel_rfl) rfl rfl (Nat.le_of_ble_eq_true rfl) (by kernel_rfl) rfl rfl ?_
  simp -implicitDefEqProofs
  refine callK (light_fn l) ?_
  by_cases hl : lightB l = true
  case neg =>
    simp -implicitDefEqProofs [hl]
    refine callK awakeM_fn ?_
    simp -implicitDefEqProofs
  by_cases ha : lightA a = true
  case neg =>
    simp -implicitDefEqProofs [hl]
    refine callK (lightA_fn a) ?_
    simp -implicitDefEqProofs [ha]
    refine callK awakeM_fn ?_
    simp -implicitDefEqProofs
  have hfit := light_fitA hl ha
  have hA := apply_fn l a hfit
  obtain ⟨f1, f2⟩ := applyM_fit2 (l := l) (a := a) hfit.1
  have hav := applied_valid (l := l) (a := a)
  have hae := applyM_err (l := l) (a := a)
  have hll := (light_spec hl).1
  generalize applyM l a = A at *
  obtain ⟨x, e⟩ := A
  simp only at f1 f2 hav hae
  have hsame := sameA_fn x x f1.1 f1.1
  have hS := sorted_fn x f1
  simp only [atts, rules] at hA hS hsame
  by_cases e0 : e = 0
  case neg =>
    have := hae e0
    subst this
    simp -implicitDefEqProofs [hl, rules]
    refine callK (lightA_fn a) ?_
    simp -implicitDefEqProofs [ha]
    simp only [atts]
    refine callK hA ?_
    simp -implicitDefEqProofs [e0]
    refine callK awakeM_fn ?_
    simp -implicitDefEqProofs
  have hxl := f1.1.1
  subst e0
  obtain ⟨v1, v2, v3, v4⟩ := hav rfl
  rw [v2] at hS
  have hck := check_fn x f1.1 (fun y hy v hv => by
    have h := (v1.each y hy).2.2.2 v hv
    simp only [cleanB, Bool.and_eq_true, decide_eq_true_eq] at h
    omega)
  rw [(check_iff x).2 v1] at hck
  have hmc := mcheck_fn l hfit.1
  rw [v4] at hmc
  simp only [atts, rules] at hck hmc
  simp -implicitDefEqProofs [hl, rules]
  refine callK (lightA_fn a) ?_
  simp -implicitDefEqProofs [ha]
  simp only [atts]
  refine callK hA ?_
  simp -implicitDefEqProofs
  refine loopN x.length (ValI l x) ?_ ?_
  · simp [ValI]
  rintro k τ hk ⟨h0, h5, h7⟩
  by_cases hlt : k < x.length
  · have hlt' : (k : Int) < x.length := by omega
    have hfound := v3 x[k] (List.getElem_mem hlt)
    generalize hx : x[k] = y at *
    obtain ⟨n, vs⟩ := y
    simp only at hfound
    simp -implicitDefEqProofs [h0, h5, h7, hlt, hlt']
    refine loopN l.length (ValJ l x k n) ?_ ?_
    · simp [ValJ, h0, h5, h7, tgt]
    clear h0 h5 h7 τ
    rintro j τ hj ⟨h0, h5, h7, h9, h8⟩
    by_cases hjt : j < l.length
    · have hjt' : (j : Int) < l.length := by omega
      have e1 := tgt_take (n := n) hjt
      have hf1 := (hfit.1.2 l[j] (List.getElem_mem hjt)).1
      generalize hr : l[j] = r at *
      obtain ⟨T, S, F⟩ := r
      simp only at hf1 e1
      by_cases hft : tgt n (l.take j) = true
      · rw [hft, Bool.true_or] at e1
        rw [hft] at h8
        simp -implicitDefEqProofs [h0, h5, h7, h9, h8, hjt, hjt', hr, ruleD, hlt, hlt', hx, att, strs, width]
        repeat refine And.intro (by omega) ?_
        exact again hjt ⟨by simp [h0], by simp [h5], by simp [h7], by simp, by simp [e1]⟩
      · have hft' : tgt n (l.take j) = false := by simpa using hft
        rw [hft', Bool.false_or] at e1
        rw [hft'] at h8
        simp -implicitDefEqProofs [h0, h5, h7, h9, h8, hjt, hjt', hr, ruleD, hlt, hlt', hx, att]
        refine callP (lower_fn T hf1) ?_
        simp -implicitDefEqProofs [h0, h5, h7, h9, h8, hjt, hjt', hr, ruleD, hlt, hlt', hx, att, strs, width]
        repeat refine And.intro (by omega) ?_
        exact again hjt ⟨by simp [h0], by simp [h5], by simp [h7], by simp, by simp [e1]⟩
    · have hjt' : ¬ (j : Int) < l.length := by omega
      rw [List.take_of_length_le (by omega), tgt_all hfound] at h8
      simp -implicitDefEqProofs [h0, h5, h7, h9, h8, hjt, hjt']
      repeat refine And.intro (by omega) ?_
      exact again hlt ⟨by simp [h0], by simp [h5], by simp⟩
  · have hlt' : ¬ (k : Int) < x.length := by omega
    simp -implicitDefEqProofs [h0, h5, h7, hlt, hlt']
    refine callK hck ?_
    simp -implicitDefEqProofs [h0, h5, h7]
    refine callK hS ?_
    simp -implicitDefEqProofs
    refine callK hsame ?_
    simp -implicitDefEqProofs [h0, h5, h7]
    refine callK hmc ?_
    simp -implicitDefEqProofs
    refine callK awakeM_fn ?_
    simp -implicitDefEqProofs
end Go.Proofs.Tz

/- The statements about layer 47: shapes of the arguments. -/
namespace Go.Proofs.Tz
open Go.Vw
set_option linter.unusedVariables false
set_option linter.unusedSimpArgs false

theorem fits_bool {d : D} (h : Sh.Fits .bool d) : ∃ b : Bool, d = .bool b := by
  simpa only [Sh.Fits] using h
theorem fits_rule {d : D} (h : Sh.Fits (.agg [.str, .str, .str]) d) : ∃ r : Rule, d = ruleD r := by
  simp only [Sh.Fits, Sh.FitsL] at h
  obtain ⟨ds, rfl, x, xs, rfl, ⟨s, rfl, _⟩, y, ys, rfl, ⟨t, rfl, _⟩, z, zs, rfl, ⟨u, rfl, _⟩, rfl⟩ := h
  exact ⟨(s, t, u), rfl⟩
theorem fits_rules {d : D} (h : Sh.Fits (.sl (.agg [.str, .str, .str])) d) : ∃ l : List Rule, d = rules l := fits_list _ (fun _ h => fits_rule h) h

theorem MappingChecks_ok (l : List Rule) (s : Str) (hb : D.lims 140737488351232 [rules l, .str s]) : Ctr Tryz.prog 3 [.d (rules l), .d (.str s)] (.d (.bool true)) := lawM3 l s
theorem MappingApplies_ok (l : List Rule) (a : List Att) (id : Str) (act : Bool) (hb : D.lims 140737488351232 [rules l, atts a, .str id, .bool act]) : Ctr Tryz.prog 4 [.d (rules l), .d (atts a), .d (.str id), .d (.bool act)] (.d (.bool true)) := lawM4 l a id act
theorem MappingBack_ok (l : List Rule) (s : Str) (hb : D.lims 140737488351232 [rules l, .str s]) : Ctr Tryz.prog 5 [.d (rules l), .d (.str s)] (.d (.bool true)) := lawM5 l s
theorem MappingSources_ok (l : List Rule) (a : List Att) (hb : D.lims 140737488351232 [rules l, atts a]) : Ctr Tryz.prog 6 [.d (rules l), .d (atts a)] (.d (.bool true)) := lawM6 l a
theorem MappingTogether_ok (a b : List Rule) (l : List Att) (hb : D.lims 140737488351232 [rules a, rules b, atts l]) : Ctr Tryz.prog 7 [.d (rules a), .d (rules b), .d (atts l)] (.d (.bool true)) := lawM7 a b l
theorem MappingValid_ok (l : List Rule) (a : List Att) (hb : D.lims 140737488351232 [rules l, atts a]) : Ctr Tryz.prog 8 [.d (rules l), .d (atts a)] (.d (.bool true)) := lawM8 l a
end Go.Proofs.Tz
