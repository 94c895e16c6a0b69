/-
  What the functions that the statements about references reach compute, part 4 of 6, for data of bounded size (each theorem states its bound).
-/import Derived.Test.YtcmocioniaggoaaGreatDoorTc
import Derived.Test.YtcmocioniaggoaaGreatDoorTb
import Derived.Test.YtcmocioniaggoaaGreatDoorTa
import Derived.Test.YtcmocioniaggoaaGreatDoorWc
import Derived.Shelf.SlLaysM
import Derived.Shelf.SlLaysF
import Derived.Shelf.SlLaysF0
import Derived.Shelf.SlLaysN
import Derived.Shelf.SlGeneric
import Derived.Ground.SlgmProg
import Derived.Ground.SlgnProg
import Derived.Ground.SlsfProg
import Derived.Test.YtcmocioniaggoaaGreatDoorProg
import Derived.Shelf.SlSortCmp.NoneTotal
open Go.Proofs.Tryz
set_option linter.unusedSimpArgs false
set_option linter.unusedVariables false
set_option maxRecDepth 100000
set_option maxHeartbeats 8000000
namespace Go.Proofs.Tz
open Go.Vw Go.Proofs
theorem look_cl (o : Option Cl) : ∃ y : Cl, lookR true (.agg [.str [], .str [], .sl [], .sl []]) (o.map clD) = .tup [.d (clD y), .d (.bool o.isSome)] := by
  cases o with
  | none => exact ⟨([], [], [], []), rfl⟩
  | some c => exact ⟨c, rfl⟩
theorem addCl_fn (a b : Nat) (T : List Ty) (C : List Cl) (c : Cl) (hc : FitCl c) :
    CtrG prog 214 [.d (kd a b), .d (clD c)] (kn a b T C) (fun r hs' => r = .d (.int .i64 (clE T C c)) ∧ hs' = kn a b T (if clE T C c = 0 then C ++ [c] else C)) := by
  refine fn_of_vwpG (fun i => i == 9000003 || i == 5000061 || i == 5000067) (by kernel_rfl) func214 (by kernel_rfl) rfl rfl (nbl rfl) (by kernel_rfl) rfl ?_; have hset := mset_cl (C := C) (c := c); obtain ⟨n, su, mu, ma⟩ := c; obtain ⟨f1, f2, f3, f4⟩ := hc; simp only at f1 f2 f3 f4; have c1 := foldLowerX_fn n f1; have c2 := fnameX_fn n f1; have c3 := foldLowerX_fn su f2; have d1 := klist_fn a b mu; have d2 := klist_fn a b ma; have d3 := kall_fn a b T C mu f3; have d4 := kall_fn a b T C ma f4; have hm := mget_cl C (lower n); have hf := find_cl (C := C) (n := lower n); have hm2 := mget_cl C (lower su); have hf2 := find_cl (C := C) (n := lower su); obtain ⟨V, hV⟩ : ∃ V, clE T C (n, su, mu, ma) = V := ⟨_, rfl⟩; rw [hV]; unfold clE at hV; simp only at hV hset; have htd : clD (n, su, mu, ma) = .agg [.str n, .str su, .sl (mu.map .str), .sl (ma.map .str)] := rfl; rw [htd] at hset ⊢; simp only [strs, kd] at d1 d2 d3 d4; generalize lower n = ln at *; generalize lower su = ls at *; generalize allTy T mu = am at *; generalize allTy T ma = aa at *; generalize List.find? (fun t : Cl => decide (lower t.1 = ln)) C = o1 at *; generalize List.find? (fun t : Cl => decide (lower t.1 = ls)) C = o2 at *; obtain ⟨⟨y1a, y1b, y1c, y1d⟩, hy1⟩ := look_cl o1; obtain ⟨⟨y2a, y2b, y2c, y2d⟩, hy2⟩ := look_cl o2; rw [hf] at hy1; rw [hf2] at hy2; cases hb : nameB n with
  | false =>
    rw [if_pos hb] at hV; subst hV; rw [hb] at c2; simp -implicitDefEqProofs [initG, kn, kd]; refine callK c1 ?_; simp -implicitDefEqProofs [initG]; refine lookK (m := clM C) (E := none) 1000001 (by omega) mapCl (by simp [initG]) (fitS ln) Tryz.zd_159 hm ?_; rw [hy1]; simp -implicitDefEqProofs [initG, clD, strs]; refine callP c3 ?_; simp -implicitDefEqProofs [initG, clD, strs]; refine lookK (m := clM C) (E := none) 1000001 (by omega) mapCl (by simp [initG]) (fitS ls) Tryz.zd_159 hm2 ?_; rw [hy2]; simp -implicitDefEqProofs [initG, clD, strs]; refine callK c2 ?_; simp -implicitDefEqProofs [initG, clD, strs]; exact ⟨.d (.int .i64 5), [1000000, 1000001], by simp, by simp [initG, isH], by simp [ResG], by simp, by simp [initG]⟩
  | true =>
  rw [if_neg (by simp [hb])] at hV; rw [hb] at c2; by_cases h1 : ln ∈ clN C
  · rw [if_pos h1] at hV; subst hV; rw [decide_eq_true h1] at hy1; simp -implicitDefEqProofs [initG, kn, kd]; refine callK c1 ?_; simp -implicitDefEqProofs [initG]; refine lookK (m := clM C) (E := none) 1000001 (by omega) mapCl (by simp [initG]) (fitS ln) Tryz.zd_159 hm ?_; rw [hy1]; simp -implicitDefEqProofs [initG, clD, strs]; refine callP c3 ?_; simp -implicitDefEqProofs [initG, clD, strs]; refine lookK (m := clM C) (E := none) 1000001 (by omega) mapCl (by simp [initG]) (fitS ls) Tryz.zd_159 hm2 ?_; rw [hy2]; simp -implicitDefEqProofs [initG, clD, strs]; refine callK c2 ?_; simp -implicitDefEqProofs [initG, clD, strs]; exact ⟨.d (.int .i64 7), [1000000, 1000001], by simp, by simp [initG, isH], by simp [ResG], by simp, by simp [initG]⟩
  rw [if_neg h1] at hV; rw [decide_eq_false h1] at hy1; have hset := hset h1; by_cases h2 : su = []
  · subst h2; rw [if_neg (by simp)] at hV; by_cases h3 : 64 < mu.length
    · rw [if_pos h3] at d1; rw [if_pos (.inl h3)] at hV; subst hV; simp -implicitDefEqProofs [initG, kn, kd]; refine callK c1 ?_; simp -implicitDefEqProofs [initG]; refine lookK (m := clM C) (E := none) 1000001 (by omega) mapCl (by simp [initG]) (fitS ln) Tryz.zd_159 hm ?_; rw [hy1]; simp -implicitDefEqProofs [initG, clD, strs]; refine callP c3 ?_; simp -implicitDefEqProofs [initG, clD, strs]; refine lookK (m := clM C) (E := none) 1000001 (by omega) mapCl (by simp [initG]) (fitS ls) Tryz.zd_159 hm2 ?_; rw [hy2]; simp -implicitDefEqProofs [initG, clD, strs]; refine callK c2 ?_; simp -implicitDefEqProofs [initG, clD, strs]; refine callK d1 ?_; simp -implicitDefEqProofs [initG, clD, strs]; exact ⟨.d (.int .i64 3), [1000000, 1000001], by simp, by simp [initG, isH], by simp [ResG], by simp, by simp [initG]⟩
    rw [if_neg h3] at d1; by_cases h4 : 64 < ma.length
    · rw [if_pos h4] at d2; rw [if_pos (.inr h4)] at hV; subst hV; simp -implicitDefEqProofs [initG, kn, kd]; refine callK c1 ?_; simp -implicitDefEqProofs [initG]; refine lookK (m := clM C) (E := none) 1000001 (by omega) mapCl (by simp [initG]) (fitS ln) Tryz.zd_159 hm ?_; rw [hy1]; simp -implicitDefEqProofs [initG, clD, strs]; refine callP c3 ?_; simp -implicitDefEqProofs [initG, clD, strs]; refine lookK (m := clM C) (E := none) 1000001 (by omega) mapCl (by simp [initG]) (fitS ls) Tryz.zd_159 hm2 ?_; rw [hy2]; simp -implicitDefEqProofs [initG, clD, strs]; refine callK c2 ?_; simp -implicitDefEqProofs [initG, clD, strs]; refine callK d1 ?_; simp -implicitDefEqProofs [initG, clD, strs]; refine callK d2 ?_; simp -implicitDefEqProofs [initG, clD, strs]; exact ⟨.d (.int .i64 3), [1000000, 1000001], by simp, by simp [initG, isH], by simp [ResG], by simp, by simp [initG]⟩
    rw [if_neg h4] at d2; rw [if_neg (by omega)] at hV; cases am with
    | false =>
      rw [if_pos (.inl rfl)] at hV; subst hV; simp -implicitDefEqProofs [initG, kn, kd]; refine callK c1 ?_; simp -implicitDefEqProofs [initG]; refine lookK (m := clM C) (E := none) 1000001 (by omega) mapCl (by simp [initG]) (fitS ln) Tryz.zd_159 hm ?_; rw [hy1]; simp -implicitDefEqProofs [initG, clD, strs]; refine callP c3 ?_; simp -implicitDefEqProofs [initG, clD, strs]; refine lookK (m := clM C) (E := none) 1000001 (by omega) mapCl (by simp [initG]) (fitS ls) Tryz.zd_159 hm2 ?_; rw [hy2]; simp -implicitDefEqProofs [initG, clD, strs]; refine callK c2 ?_; simp -implicitDefEqProofs [initG, clD, strs]; refine callK d1 ?_; simp -implicitDefEqProofs [initG, clD, strs]; refine callK d2 ?_; simp -implicitDefEqProofs [initG, clD, strs]; refine givB [1000000, 1000001] 1000000 d3 (by simp [initG, kn]) rfl (by simp) ?_; rintro r hs' ⟨rfl, rfl⟩; simp -implicitDefEqProofs [initG, clD, strs, takeH, putH, kn]; exact ⟨.d (.int .i64 6), [1000000, 1000001], by simp, by simp [initG, isH], by simp [ResG], by simp, by simp [initG]⟩
    | true =>
    cases aa with
    | false =>
      rw [if_pos (.inr rfl)] at hV; subst hV; simp -implicitDefEqProofs [initG, kn, kd]; refine callK c1 ?_; simp -implicitDefEqProofs [initG]; refine lookK (m := clM C) (E := none) 1000001 (by omega) mapCl (by simp [initG]) (fitS ln) Tryz.zd_159 hm ?_; rw [hy1]; simp -implicitDefEqProofs [initG, clD, strs]; refine callP c3 ?_; simp -implicitDefEqProofs [initG, clD, strs]; refine lookK (m := clM C) (E := none) 1000001 (by omega) mapCl (by simp [initG]) (fitS ls) Tryz.zd_159 hm2 ?_; rw [hy2]; simp -implicitDefEqProofs [initG, clD, strs]; refine callK c2 ?_; simp -implicitDefEqProofs [initG, clD, strs]; refine callK d1 ?_; simp -implicitDefEqProofs [initG, clD, strs]; refine callK d2 ?_; simp -implicitDefEqProofs [initG, clD, strs]; refine givB [1000000, 1000001] 1000000 d3 (by simp [initG, kn]) rfl (by simp) ?_; rintro r hs' ⟨rfl, rfl⟩; simp -implicitDefEqProofs [initG, clD, strs, takeH, putH, kn]; refine givB [1000000, 1000001] 1000000 d4 (by simp [initG, kn]) rfl (by simp) ?_; rintro r hs' ⟨rfl, rfl⟩; simp -implicitDefEqProofs [initG, clD, strs, takeH, putH, kn]; exact ⟨.d (.int .i64 6), [1000000, 1000001], by simp, by simp [initG, isH], by simp [ResG], by simp, by simp [initG]⟩
    | true =>
      rw [if_neg (by simp)] at hV; subst hV; simp -implicitDefEqProofs [initG, kn, kd]; refine callK c1 ?_; simp -implicitDefEqProofs [initG]; refine lookK (m := clM C) (E := none) 1000001 (by omega) mapCl (by simp [initG]) (fitS ln) Tryz.zd_159 hm ?_; rw [hy1]; simp -implicitDefEqProofs [initG, clD, strs]; refine callP c3 ?_; simp -implicitDefEqProofs [initG, clD, strs]; refine lookK (m := clM C) (E := none) 1000001 (by omega) mapCl (by simp [initG]) (fitS ls) Tryz.zd_159 hm2 ?_; rw [hy2]; simp -implicitDefEqProofs [initG, clD, strs]; refine callK c2 ?_; simp -implicitDefEqProofs [initG, clD, strs]; refine callK d1 ?_; simp -implicitDefEqProofs [initG, clD, strs]; refine callK d2 ?_; simp -implicitDefEqProofs [initG, clD, strs]; refine givB [1000000, 1000001] 1000000 d3 (by simp [initG, kn]) rfl (by simp) ?_; rintro r hs' ⟨rfl, rfl⟩; simp -implicitDefEqProofs [initG, clD, strs, takeH, putH, kn]; refine givB [1000000, 1000001] 1000000 d4 (by simp [initG, kn]) rfl (by simp) ?_; rintro r hs' ⟨rfl, rfl⟩; simp -implicitDefEqProofs [initG, clD, strs, takeH, putH, kn]; refine updK (E := none) (m := clM C) 1000001 mapCl (by simp [initG]) (fitS ln) (clM (C ++ [(n, [], mu, ma)])) (by rw [hset]) ?_; simp -implicitDefEqProofs [initG, clD, strs]; exact ⟨.d (.int .i64 0), [1000000, 1000001], by simp, by simp [initG, isH], by simp [ResG], by simp, by simp [initG]⟩
  by_cases h5 : ls ∈ clN C
  · rw [if_neg (by simp [h5])] at hV; rw [decide_eq_true h5] at hy2; by_cases h3 : 64 < mu.length
    · rw [if_pos h3] at d1; rw [if_pos (.inl h3)] at hV; subst hV; simp -implicitDefEqProofs [initG, kn, kd]; refine callK c1 ?_; simp -implicitDefEqProofs [initG]; refine lookK (m := clM C) (E := none) 1000001 (by omega) mapCl (by simp [initG]) (fitS ln) Tryz.zd_159 hm ?_; rw [hy1]; simp -implicitDefEqProofs [initG, clD, strs]; refine callP c3 ?_; simp -implicitDefEqProofs [initG, clD, strs]; refine lookK (m := clM C) (E := none) 1000001 (by omega) mapCl (by simp [initG]) (fitS ls) Tryz.zd_159 hm2 ?_; rw [hy2]; simp -implicitDefEqProofs [initG, clD, strs]; refine callK c2 ?_; simp -implicitDefEqProofs [initG, clD, strs, h2]; refine callK d1 ?_; simp -implicitDefEqProofs [initG, clD, strs, h2]; exact ⟨.d (.int .i64 3), [1000000, 1000001], by simp, by simp [initG, isH], by simp [ResG], by simp, by simp [initG]⟩
    rw [if_neg h3] at d1; by_cases h4 : 64 < ma.length
    · rw [if_pos h4] at d2; rw [if_pos (.inr h4)] at hV; subst hV; simp -implicitDefEqProofs [initG, kn, kd]; refine callK c1 ?_; simp -implicitDefEqProofs [initG]; refine lookK (m := clM C) (E := none) 1000001 (by omega) mapCl (by simp [initG]) (fitS ln) Tryz.zd_159 hm ?_; rw [hy1]; simp -implicitDefEqProofs [initG, clD, strs]; refine callP c3 ?_; simp -implicitDefEqProofs [initG, clD, strs]; refine lookK (m := clM C) (E := none) 1000001 (by omega) mapCl (by simp [initG]) (fitS ls) Tryz.zd_159 hm2 ?_; rw [hy2]; simp -implicitDefEqProofs [initG, clD, strs]; refine callK c2 ?_; simp -implicitDefEqProofs [initG, clD, strs, h2]; refine callK d1 ?_; simp -implicitDefEqProofs [initG, clD, strs, h2]; refine callK d2 ?_; simp -implicitDefEqProofs [initG, clD, strs, h2]; exact ⟨.d (.int .i64 3), [1000000, 1000001], by simp, by simp [initG, isH], by simp [ResG], by simp, by simp [initG]⟩
    rw [if_neg h4] at d2; rw [if_neg (by omega)] at hV; cases am with
    | false =>
      rw [if_pos (.inl rfl)] at hV; subst hV; simp -implicitDefEqProofs [initG, kn, kd]; refine callK c1 ?_; simp -implicitDefEqProofs [initG]; refine lookK (m := clM C) (E := none) 1000001 (by omega) mapCl (by simp [initG]) (fitS ln) Tryz.zd_159 hm ?_; rw [hy1]; simp -implicitDefEqProofs [initG, clD, strs]; refine callP c3 ?_; simp -implicitDefEqProofs [initG, clD, strs]; refine lookK (m := clM C) (E := none) 1000001 (by omega) mapCl (by simp [initG]) (fitS ls) Tryz.zd_159 hm2 ?_; rw [hy2]; simp -implicitDefEqProofs [initG, clD, strs]; refine callK c2 ?_; simp -implicitDefEqProofs [initG, clD, strs, h2]; refine callK d1 ?_; simp -implicitDefEqProofs [initG, clD, strs, h2]; refine callK d2 ?_; simp -implicitDefEqProofs [initG, clD, strs, h2]; refine givB [1000000, 1000001] 1000000 d3 (by simp [initG, kn]) rfl (by simp) ?_; rintro r hs' ⟨rfl, rfl⟩; simp -implicitDefEqProofs [initG, clD, strs, takeH, putH, kn, h2]; exact ⟨.d (.int .i64 6), [1000000, 1000001], by simp, by simp [initG, isH], by simp [ResG], by simp, by simp [initG]⟩
    | true =>
    cases aa with
    | false =>
      rw [if_pos (.inr rfl)] at hV; subst hV; simp -implicitDefEqProofs [initG, kn, kd]; refine callK c1 ?_; simp -implicitDefEqProofs [initG]; refine lookK (m := clM C) (E := none) 1000001 (by omega) mapCl (by simp [initG]) (fitS ln) Tryz.zd_159 hm ?_; rw [hy1]; simp -implicitDefEqProofs [initG, clD, strs]; refine callP c3 ?_; simp -implicitDefEqProofs [initG, clD, strs]; refine lookK (m := clM C) (E := none) 1000001 (by omega) mapCl (by simp [initG]) (fitS ls) Tryz.zd_159 hm2 ?_; rw [hy2]; simp -implicitDefEqProofs [initG, clD, strs]; refine callK c2 ?_; simp -implicitDefEqProofs [initG, clD, strs, h2]; refine callK d1 ?_; simp -implicitDefEqProofs [initG, clD, strs, h2]; refine callK d2 ?_; simp -implicitDefEqProofs [initG, clD, strs, h2]; refine givB [1000000, 1000001] 1000000 d3 (by simp [initG, kn]) rfl (by simp) ?_; rintro r hs' ⟨rfl, rfl⟩; simp -implicitDefEqProofs [initG, clD, strs, takeH, putH, kn, h2]; refine givB [1000000, 1000001] 1000000 d4 (by simp [initG, kn]) rfl (by simp) ?_; rintro r hs' ⟨rfl, rfl⟩; simp -implicitDefEqProofs [initG, clD, strs, takeH, putH, kn, h2]; exact ⟨.d (.int .i64 6), [1000000, 1000001], by simp, by simp [initG, isH], by simp [ResG], by simp, by simp [initG]⟩
    | true =>
      rw [if_neg (by simp)] at hV; subst hV; simp -implicitDefEqProofs [initG, kn, kd]; refine callK c1 ?_; simp -implicitDefEqProofs [initG]; refine lookK (m := clM C) (E := none) 1000001 (by omega) mapCl (by simp [initG]) (fitS ln) Tryz.zd_159 hm ?_; rw [hy1]; simp -implicitDefEqProofs [initG, clD, strs]; refine callP c3 ?_; simp -implicitDefEqProofs [initG, clD, strs]; refine lookK (m := clM C) (E := none) 1000001 (by omega) mapCl (by simp [initG]) (fitS ls) Tryz.zd_159 hm2 ?_; rw [hy2]; simp -implicitDefEqProofs [initG, clD, strs]; refine callK c2 ?_; simp -implicitDefEqProofs [initG, clD, strs, h2]; refine callK d1 ?_; simp -implicitDefEqProofs [initG, clD, strs, h2]; refine callK d2 ?_; simp -implicitDefEqProofs [initG, clD, strs, h2]; refine givB [1000000, 1000001] 1000000 d3 (by simp [initG, kn]) rfl (by simp) ?_; rintro r hs' ⟨rfl, rfl⟩; simp -implicitDefEqProofs [initG, clD, strs, takeH, putH, kn, h2]; refine givB [1000000, 1000001] 1000000 d4 (by simp [initG, kn]) rfl (by simp) ?_; rintro r hs' ⟨rfl, rfl⟩; simp -implicitDefEqProofs [initG, clD, strs, takeH, putH, kn, h2]; refine updK (E := none) (m := clM C) 1000001 mapCl (by simp [initG]) (fitS ln) (clM (C ++ [(n, su, mu, ma)])) (by rw [hset]) ?_; simp -implicitDefEqProofs [initG, clD, strs]; exact ⟨.d (.int .i64 0), [1000000, 1000001], by simp, by simp [initG, isH], by simp [ResG], by simp, by simp [initG]⟩
  rw [if_pos ⟨h2, h5⟩] at hV; subst hV; rw [decide_eq_false h5] at hy2; simp -implicitDefEqProofs [initG, kn, kd]; refine callK c1 ?_; simp -implicitDefEqProofs [initG]; refine lookK (m := clM C) (E := none) 1000001 (by omega) mapCl (by simp [initG]) (fitS ln) Tryz.zd_159 hm ?_; rw [hy1]; simp -implicitDefEqProofs [initG, clD, strs]; refine callP c3 ?_; simp -implicitDefEqProofs [initG, clD, strs]; refine lookK (m := clM C) (E := none) 1000001 (by omega) mapCl (by simp [initG]) (fitS ls) Tryz.zd_159 hm2 ?_; rw [hy2]; simp -implicitDefEqProofs [initG, clD, strs]; refine callK c2 ?_; simp -implicitDefEqProofs [initG, clD, strs, h2]; exact ⟨.d (.int .i64 6), [1000000, 1000001], by simp, by simp [initG, isH], by simp [ResG], by simp, by simp [initG]⟩
def FitSch (s : Sch) : Prop := s.1.length ≤ 140737488351232 ∧ s.2.length ≤ 140737488351232 ∧ (∀ t ∈ s.1, FitTy t) ∧ ∀ c ∈ s.2, FitCl c
def kz : D := .agg [.raw (.map none), .raw (.map none)]
def ExP (s : Sch) (r : AV) (hs' : List AV) : Prop := (schE s ≠ 0 ∧ r = .tup [.d kz, .d (.int .i64 (schE s))] ∧ hs' = []) ∨ (schE s = 0 ∧ ∃ a b, r = .tup [.d (kd a b), .d (.int .i64 0)] ∧ hs' = kn a b s.1 s.2)
def ExI (T : List Ty) (C : List Cl) (a b : Nat) (k : Nat) (τ : St) : Prop := τ 1 = .box (schD (T, C)) ∧ τ 2 = .box kz ∧ τ 4 = .box (kd a b) ∧ τ 28 = .d (.sl (T.map tyD)) ∧ τ 29 = .d (.int .i64 T.length) ∧ τ 30 = .d (.int .i64 k) ∧
  τ 1000000 = .hm (.map (some a)) 9 (tyM (T.take k)) none ∧ τ 1000001 = .hm (.map (some b)) 9 (clM []) none ∧ tysE (T.take k) (T.drop k) = tysE [] T
def ExJ (T : List Ty) (C : List Cl) (a b : Nat) (k : Nat) (τ : St) : Prop := τ 1 = .box (schD (T, C)) ∧ τ 2 = .box kz ∧ τ 4 = .box (kd a b) ∧ τ 43 = .d (.sl (C.map clD)) ∧ τ 44 = .d (.int .i64 C.length) ∧ τ 45 = .d (.int .i64 k) ∧
  τ 1000000 = .hm (.map (some a)) 9 (tyM T) none ∧ τ 1000001 = .hm (.map (some b)) 9 (clM (C.take k)) none ∧ clsE T (C.take k) (C.drop k) = clsE T [] C
theorem exam_fn (s : Sch) (hs : FitSch s) : CtrG prog 190 [.d (schD s)] [] (ExP s) := by
  refine fn_of_vwpGN (rs := [.cell 2 165, .tmp 3]) (fun i => i == 5000036 || i == 5000051) (by kernel_rfl) func190 (by kernel_rfl) rfl rfl (by simp) (nbl rfl) (by kernel_rfl) rfl ?_; obtain ⟨T, C⟩ := s; obtain ⟨hT, hC, fT, fC⟩ := hs; simp only at hT hC fT fC; have hsd : schD (T, C) = .agg [.sl (T.map tyD), .sl (C.map clD)] := rfl; obtain ⟨W, hW⟩ : ∃ W, schE (T, C) = W := ⟨_, rfl⟩; have hE : ExP (T, C) = fun r hs' => (W ≠ 0 ∧ r = .tup [.d kz, .d (.int .i64 W)] ∧ hs' = []) ∨ (W = 0 ∧ ∃ a b, r = .tup [.d (kd a b), .d (.int .i64 0)] ∧ hs' = kn a b T C) := by
    funext r hs'; simp only [ExP, hW]
  rw [hE]; unfold schE at hW; simp only at hW; by_cases h1 : 64 < T.length
  · have h1' : (64 : Int) < T.length := (by omega); rw [if_pos (.inl h1)] at hW; subst hW; simp -implicitDefEqProofs [initG, hsd]; refine makeK 9 1000000 (by simp [initG]) (fun a => ?_); simp -implicitDefEqProofs [initG]; refine makeK 9 1000001 (by simp [initG]) (fun b => ?_); simp -implicitDefEqProofs [initG, h1, h1']; exact ⟨[.d kz, .d (.int .i64 3)], [], by simp, by simp, by simp [resDs, resD, kz], .intro rfl rfl⟩
  have h1' : ¬ (64 : Int) < T.length := (by omega); by_cases h2 : 32 < C.length
  · have h2' : (32 : Int) < C.length := (by omega); rw [if_pos (.inr h2)] at hW; subst hW; simp -implicitDefEqProofs [initG, hsd]; refine makeK 9 1000000 (by simp [initG]) (fun a => ?_); simp -implicitDefEqProofs [initG]; refine makeK 9 1000001 (by simp [initG]) (fun b => ?_); simp -implicitDefEqProofs [initG, h1, h1', h2, h2']; exact ⟨[.d kz, .d (.int .i64 3)], [], by simp, by simp, by simp [resDs, resD, kz], .intro rfl rfl⟩
  have h2' : ¬ (32 : Int) < C.length := (by omega); rw [if_neg (by omega)] at hW; simp -implicitDefEqProofs [initG, hsd]; refine makeK 9 1000000 (by simp [initG]) (fun a => ?_); simp -implicitDefEqProofs [initG]; refine makeK 9 1000001 (by simp [initG]) (fun b => ?_); simp -implicitDefEqProofs [initG, h1, h1', h2, h2']; refine loopN T.length (ExI T C a b) ⟨by simp [initG, hsd], by simp [initG, kz], by simp [initG, kd], by simp, by simp, by simp, by simp [initG, tyM], by simp [initG, clM], by simp⟩ ?_; rintro k τ hk ⟨g1, g2, g4, g28, g29, g30, gA, gB, hI⟩; rw [hsd] at g1; by_cases hlt : k < T.length
  · have hlt' : (k : Int) < T.length := (by omega); rw [tysE_drop hlt] at hI; have hts := take_s hlt; have c1 := addTy_fn a b (T.take k) [] T[k] (fT _ (gmm hlt)); generalize hx : T[k] = t at *; obtain ⟨n, sy, sg⟩ := t; obtain ⟨e, he⟩ : ∃ e, tyE (T.take k) (n, sy, sg) = e := ⟨_, rfl⟩; rw [he] at hI c1; have htd : tyD (n, sy, sg) = .agg [.str n, .int .i64 sy, .bool sg] := rfl; rw [htd] at c1; simp only [kd] at c1; by_cases h0 : e = 0
    · subst h0; simp only [if_true] at hI c1; rw [← hts] at c1; simp -implicitDefEqProofs [g1, g2, g4, g28, g29, g30, gA, gB, hlt, hlt', hx, htd, kd]; refine givB [1000000, 1000001] 1000000 c1 (by simp [gA, gB, kn]) rfl (by simp) ?_; rintro r hs' ⟨rfl, rfl⟩; simp -implicitDefEqProofs [g1, g2, g4, g28, g29, g30, gA, gB, takeH, putH, kn]; (repeat refine ai (by first | omega | rfl) ?_); exact again hlt ⟨by simp [g1, hsd], by simp [g2], by simp [g4, kd], by simp [g28], by simp [g29], by simp, by simp, by simp, hI⟩
    · rw [if_neg h0] at hI; simp only [if_neg h0] at c1; rw [← hI, if_pos h0] at hW; subst hW; simp -implicitDefEqProofs [g1, g2, g4, g28, g29, g30, gA, gB, hlt, hlt', hx, htd, kd]; refine givB [1000000, 1000001] 1000000 c1 (by simp [gA, gB, kn]) rfl (by simp) ?_; rintro r hs' ⟨rfl, rfl⟩; simp -implicitDefEqProofs [g1, g2, g4, g28, g29, g30, gA, gB, takeH, putH, kn, h0, kz]; exact ⟨[.d kz, .d (.int .i64 e)], [], by simp, by simp, by simp [resDs, resD, kz], .intro rfl rfl⟩
  · have hlt' : ¬ (k : Int) < T.length := (by omega); rw [List.drop_eq_nil_of_le (by omega), tysE] at hI; rw [ttl (by omega)] at gA; rw [← hI, if_neg (by simp)] at hW; simp -implicitDefEqProofs [g1, g2, g4, g28, g29, g30, gA, gB, hlt, hlt']; refine loopN C.length (ExJ T C a b) ⟨by simp [g1, hsd], by simp [g2], by simp [g4], by simp, by simp, by simp, by simp [gA], by simp [gB], by simp⟩ ?_; clear g1 g2 g4 g28 g29 g30 gA gB hI hlt hlt' hk; rintro k τ hk ⟨g1, g2, g4, g43, g44, g45, gA, gB, hI⟩; rw [hsd] at g1; by_cases hlt : k < C.length
    · have hlt' : (k : Int) < C.length := (by omega); rw [clsE_drop hlt] at hI; have hts := take_s hlt; have c1 := addCl_fn a b T (C.take k) C[k] (fC _ (gmm hlt)); generalize hx : C[k] = t at *; obtain ⟨n, su, mu, ma⟩ := t; obtain ⟨e, he⟩ : ∃ e, clE T (C.take k) (n, su, mu, ma) = e := ⟨_, rfl⟩; rw [he] at hI c1; have htd : clD (n, su, mu, ma) = .agg [.str n, .str su, .sl (mu.map .str), .sl (ma.map .str)] := rfl; rw [htd] at c1; simp only [kd] at c1; by_cases h0 : e = 0
      · subst h0; simp only [if_true] at hI c1; rw [← hts] at c1; simp -implicitDefEqProofs [g1, g2, g4, g43, g44, g45, gA, gB, hlt, hlt', hx, htd, kd]; refine givB [1000000, 1000001] 1000000 c1 (by simp [gA, gB, kn]) rfl (by simp) ?_; rintro r hs' ⟨rfl, rfl⟩; simp -implicitDefEqProofs [g1, g2, g4, g43, g44, g45, gA, gB, takeH, putH, kn]; (repeat refine ai (by first | omega | rfl) ?_); exact again hlt ⟨by simp [g1, hsd], by simp [g2], by simp [g4, kd], by simp [g43], by simp [g44], by simp, by simp, by simp, hI⟩
      · rw [if_neg h0] at hI; simp only [if_neg h0] at c1; rw [← hI, if_pos h0] at hW; subst hW; simp -implicitDefEqProofs [g1, g2, g4, g43, g44, g45, gA, gB, hlt, hlt', hx, htd, kd]; refine givB [1000000, 1000001] 1000000 c1 (by simp [gA, gB, kn]) rfl (by simp) ?_; rintro r hs' ⟨rfl, rfl⟩; simp -implicitDefEqProofs [g1, g2, g4, g43, g44, g45, gA, gB, takeH, putH, kn, h0, kz]; exact ⟨[.d kz, .d (.int .i64 e)], [], by simp, by simp, by simp [resDs, resD, kz], .intro rfl rfl⟩
    · have hlt' : ¬ (k : Int) < C.length := (by omega); rw [List.drop_eq_nil_of_le (by omega), clsE] at hI; rw [ttl (by omega)] at gB; rw [← hI, if_neg (by simp)] at hW; have hm := mget_ty T sClass; have hlc : lower sClass = sClass := (by decide); have hq : tyFind T sClass = List.find? (fun t : Ty => decide (lower t.1 = sClass)) T := by unfold tyFind; rw [hlc]
      unfold mainE at hW; rw [hq] at hW; obtain ⟨o, ho⟩ : ∃ o, List.find? (fun t : Ty => decide (lower t.1 = sClass)) T = o := ⟨_, rfl⟩; rw [ho] at hm hW; simp only [sClass] at hm; simp -implicitDefEqProofs [g1, g2, g4, g43, g44, g45, gA, gB, hlt, hlt', kd]; refine lookK (m := tyM T) (E := none) 1000000 (by omega) mapTy (by simp [gA]) (fitS _) Tryz.zd_81 hm ?_; cases o with
      | none =>
        simp only at hW; subst hW; simp -implicitDefEqProofs [g1, g2, g4, g43, g44, g45, gA, gB, kz]; exact ⟨[.d kz, .d (.int .i64 6)], [], by simp, by simp, by simp [resDs, resD, kz], .intro rfl rfl⟩
      | some t =>
        obtain ⟨n, sy, sg⟩ := t; simp only at hW; by_cases h0 : sy = 1
        · rw [if_neg (by simp [h0])] at hW; subst hW h0; simp -implicitDefEqProofs [g1, g2, g4, g43, g44, g45, gA, gB, tyD, kz, kd]; exact ⟨[.d (kd a b), .d (.int .i64 0)], [1000000, 1000001], by simp, by simp [gA, gB, isH], by simp [resDs, resD, kd], by first | exact ⟨a, b, ⟨rfl, rfl⟩, by simp [gA, gB, kn]⟩ | exact ⟨a, b, rfl, by simp [gA, gB, kn]⟩ | (simp [gA, gB, kn, kd])⟩
        · rw [if_pos h0] at hW; subst hW; simp -implicitDefEqProofs [g1, g2, g4, g43, g44, g45, gA, gB, tyD, kz, kd, h0]; exact ⟨[.d kz, .d (.int .i64 8)], [], by simp, by simp, by simp [resDs, resD, kz], .intro rfl rfl⟩
@[simp] theorem fty165_0 : fieldTy prog 165 0 = some (162, 0) := by kernel_rfl
@[simp] theorem fty25_0 : fieldTy prog 25 0 = some (22, 0) := by kernel_rfl
def LkP (s : Sch) (r : AV) (hs' : List AV) : Prop := (schE s ≠ 0 ∧ r = .d kz ∧ hs' = []) ∨ (schE s = 0 ∧ ∃ a b, r = .d (kd a b) ∧ hs' = kn a b s.1 s.2)
theorem slook_fn (s : Sch) (hs : FitSch s) : CtrG prog 142 [.d (schD s)] [] (LkP s) := by
  refine fn_of_vwpGN (rs := [.cell 2 165]) (fun i => i == 5000007) (by kernel_rfl) func142 (by kernel_rfl) rfl rfl (by simp) (nbl rfl) (by kernel_rfl) rfl ?_; have c1 := exam_fn s hs; obtain ⟨T, C⟩ := s; have hsd : schD (T, C) = .agg [.sl (T.map tyD), .sl (C.map clD)] := rfl; rw [hsd] at c1 ⊢; simp -implicitDefEqProofs [initG]; refine givB [] 1000000 c1 (by simp) rfl (by simp) ?_; rintro r hs' (⟨h0, rfl, rfl⟩ | ⟨h0, a, b, rfl, rfl⟩)
  · simp -implicitDefEqProofs [initG, takeH, putH, kz]; exact ⟨[.d kz], [], by simp, by simp, by simp [resDs, resD, kz], .inl ⟨h0, rfl, rfl⟩⟩
  · simp -implicitDefEqProofs [initG, takeH, putH, kn, kd]; exact ⟨[.d (kd a b)], [1000000, 1000001], by simp, by simp [isH], by simp [resDs, resD, kd], .inr ⟨h0, a, b, rfl, by simp [kn]⟩⟩
theorem stype_fn (s : Sch) (hs : FitSch s) (n : Str) (hn : List.length n ≤ 140737488351232) : Ctr prog 97 [.d (schD s), .d (.str n)] (.tup [.d (tyD (typeU s n).1), .d (.bool (typeU s n).2)]) := by
  refine fn_of_vwpN (rv := .cell 4 81) (rs := [.tmp 5]) (r := .d (tyD (typeU s n).1)) (ys := [.d (.bool (typeU s n).2)]) (fun i => i == 5000010) (by kernel_rfl) func97 (by kernel_rfl) rfl rfl (by simp) (nbl rfl) (by kernel_rfl) rfl rfl ?_; have c1 := slook_fn s hs; have c2 := foldLowerX_fn n hn; obtain ⟨R, hR⟩ : ∃ R, typeU s n = R := ⟨_, rfl⟩; rw [hR]; unfold typeU tyFind at hR; obtain ⟨T, C⟩ := s; have hsd : schD (T, C) = .agg [.sl (T.map tyD), .sl (C.map clD)] := rfl; rw [hsd] at c1 ⊢; simp only at hR; have hm := mget_ty T (lower n); obtain ⟨o, ho⟩ : ∃ o, List.find? (fun t : Ty => decide (lower t.1 = lower n)) T = o := ⟨_, rfl⟩; rw [ho] at hR hm; generalize lower n = ln at *; simp -implicitDefEqProofs; refine givB [] 1000000 c1 (by simp) rfl (by simp) ?_; rintro r hs' (⟨h0, rfl, rfl⟩ | ⟨h0, a, b, rfl, rfl⟩)
  · rw [if_neg h0] at hR; subst hR; simp -implicitDefEqProofs [takeH, putH, kz]; refine callK c2 ?_; simp -implicitDefEqProofs; refine lookN mapTy (fitS ln) Tryz.zd_81 ?_; simp -implicitDefEqProofs [tyD, tyZ]
  · rw [if_pos h0] at hR; simp -implicitDefEqProofs [takeH, putH, kn, kd]; refine callK c2 ?_; simp -implicitDefEqProofs; refine lookK (m := tyM T) (E := none) 1000000 (by omega) mapTy (by simp) (fitS ln) Tryz.zd_81 hm ?_; cases o with
    | none =>
      simp only at hR; subst hR; simp -implicitDefEqProofs [tyD, tyZ]
    | some t =>
      simp only at hR; subst hR; simp -implicitDefEqProofs [tyD]
theorem rsame_fn (a b : Str) (ha : List.length a ≤ 140737488351232) (hb : List.length b ≤ 140737488351232) : Ctr prog 139 [.d (.str a), .d (.str b)] (.d (.bool (decide (lower a = lower b)))) := by
  refine fv (fun _ => false) func139 (by kernel_rfl) rfl rfl rfl rfl rfl ?_; have c1 := lowerX_fn a ha; have c2 := lowerX_fn b hb; generalize lower a = x at *; generalize lower b = y at *; simp -implicitDefEqProofs; refine callK c1 ?_; simp -implicitDefEqProofs; refine callK c2 ?_; simp -implicitDefEqProofs
def loAt (n : Str) : List Str → Nat → Int
  | [], _ => -1
  | x :: l, k => if x = lower n then k else loAt n l (k + 1)
theorem loAt_drop {n : Str} {l : List Str} {k : Nat} (h : k < l.length) : loAt n (l.drop k) k = if l[k] = lower n then (k : Int) else loAt n (l.drop (k + 1)) (k + 1) := by
  rw [List.drop_eq_getElem_cons h, loAt]
theorem loAt_mem (n : Str) : ∀ (l : List Str) (k : Nat), decide (0 ≤ loAt n l k) = decide (lower n ∈ l)
  | [], k => by simp [loAt]
  | x :: l, k => by
    rw [loAt]; by_cases h : x = lower n
    · rw [if_pos h]; have : (0 : Int) ≤ k := (by omega); simp [h, this]
    · rw [if_neg h, loAt_mem n l (k + 1)]; have : ¬ lower n = x := fun e => h e.symm
      simp [this]
theorem loAt_at (n : Str) : ∀ (l : List Str) (k : Nat), lower n ∈ l → ∃ i, loAt n l k = ((k + i : Nat) : Int) ∧ ∃ h : i < l.length, l[i] = lower n ∧ ∀ j (hj : j < i), l[j]'(by omega) ≠ lower n
  | [], k, h => by cases h
  | x :: l, k, h => by
    rw [loAt]; by_cases hx : x = lower n
    · rw [if_pos hx]; exact ⟨0, by simp, by simp, hx, fun j hj => by omega⟩
    · rw [if_neg hx]; obtain ⟨i, h1, h2, h3, h4⟩ := loAt_at n l (k + 1) ((List.mem_cons.1 h).resolve_left (fun e => hx e.symm)); refine ⟨i + 1, by rw [h1]; congr 1; omega, by simpa using h2, by simpa using h3, fun j hj => ?_⟩; cases j with
      | zero => simpa using hx
      | succ j => simpa using h4 j (by omega)
def TaI (T : List Ty) (n : Str) (V : Int) (k : Nat) (τ : St) : Prop := τ 0 = .d (.sl (T.map tyD)) ∧ τ 1 = .d (.str n) ∧ τ 5 = .d (.int .i64 k) ∧ loAt n ((tyN T).drop k) k = V
theorem typeAt_fn (T : List Ty) (n : Str) (hT : T.length ≤ 140737488351232) (fT : ∀ t ∈ T, FitTy t) (hn : List.length n ≤ 140737488351232) : Ctr prog 87 [.d (.sl (T.map tyD)), .d (.str n)] (.d (.int .i64 (loAt n (tyN T) 0))) := by
  refine fv (fun _ => false) func87 (by kernel_rfl) rfl rfl rfl rfl rfl ?_; obtain ⟨V, hV⟩ : ∃ V, loAt n (tyN T) 0 = V := ⟨_, rfl⟩; rw [hV]; simp -implicitDefEqProofs; refine loopN T.length (TaI T n V) ⟨by simp, by simp, by simp, by simpa using hV⟩ ?_; rintro k τ hk ⟨g0, g1, g5, hI⟩; by_cases hlt : k < T.length
  · have hlt' : (k : Int) < T.length := (by omega); rw [loAt_drop (show k < (tyN T).length by simpa [tyN] using hlt)] at hI; have e1 : (tyN T)[k]'(by simpa [tyN] using hlt) = lower T[k].1 := (by simp [tyN]); rw [e1] at hI; have c1 := rsame_fn T[k].1 n (fT _ (gmm hlt)) hn; generalize hx : T[k] = t at *; obtain ⟨m, sy, sg⟩ := t; simp only at hI c1; have htd : tyD (m, sy, sg) = .agg [.str m, .int .i64 sy, .bool sg] := rfl; by_cases h0 : lower m = lower n
    · rw [if_pos h0] at hI; subst hI; rw [decide_eq_true h0] at c1; simp -implicitDefEqProofs [g0, g1, g5, hlt, hlt', hx, htd]; refine callK c1 ?_; simp -implicitDefEqProofs [g0, g1, g5]
    · rw [if_neg h0] at hI; rw [decide_eq_false h0] at c1; simp -implicitDefEqProofs [g0, g1, g5, hlt, hlt', hx, htd]; refine callK c1 ?_; simp -implicitDefEqProofs [g0, g1, g5]; (repeat refine ai (by first | omega | rfl) ?_); exact again hlt ⟨by simp [g0], by simp [g1], by simp, hI⟩
  · have hlt' : ¬ (k : Int) < T.length := (by omega); rw [List.drop_eq_nil_of_le (by simp [tyN]; omega), loAt] at hI; subst hI; simp -implicitDefEqProofs [g0, g1, g5, hlt, hlt']
def CaI (C : List Cl) (n : Str) (V : Int) (k : Nat) (τ : St) : Prop := τ 0 = .d (.sl (C.map clD)) ∧ τ 1 = .d (.str n) ∧ τ 5 = .d (.int .i64 k) ∧ loAt n ((clN C).drop k) k = V
theorem classAt_fn (C : List Cl) (n : Str) (hT : C.length ≤ 140737488351232) (fT : ∀ t ∈ C, FitCl t) (hn : List.length n ≤ 140737488351232) : Ctr prog 140 [.d (.sl (C.map clD)), .d (.str n)] (.d (.int .i64 (loAt n (clN C) 0))) := by
  refine fv (fun _ => false) func140 (by kernel_rfl) rfl rfl rfl rfl rfl ?_; obtain ⟨V, hV⟩ : ∃ V, loAt n (clN C) 0 = V := ⟨_, rfl⟩; rw [hV]; simp -implicitDefEqProofs; refine loopN C.length (CaI C n V) ⟨by simp, by simp, by simp, by simpa using hV⟩ ?_; rintro k τ hk ⟨g0, g1, g5, hI⟩; by_cases hlt : k < C.length
  · have hlt' : (k : Int) < C.length := (by omega); rw [loAt_drop (show k < (clN C).length by simpa [clN] using hlt)] at hI; have e1 : (clN C)[k]'(by simpa [clN] using hlt) = lower C[k].1 := (by simp [clN]); rw [e1] at hI; have c1 := rsame_fn C[k].1 n (fT _ (gmm hlt)).1 hn; generalize hx : C[k] = t at *; obtain ⟨m, su, mu, ma⟩ := t; simp only at hI c1; have htd : clD (m, su, mu, ma) = .agg [.str m, .str su, .sl (mu.map .str), .sl (ma.map .str)] := rfl; by_cases h0 : lower m = lower n
    · rw [if_pos h0] at hI; subst hI; rw [decide_eq_true h0] at c1; simp -implicitDefEqProofs [g0, g1, g5, hlt, hlt', hx, htd]; refine callK c1 ?_; simp -implicitDefEqProofs [g0, g1, g5]
    · rw [if_neg h0] at hI; rw [decide_eq_false h0] at c1; simp -implicitDefEqProofs [g0, g1, g5, hlt, hlt', hx, htd]; refine callK c1 ?_; simp -implicitDefEqProofs [g0, g1, g5]; (repeat refine ai (by first | omega | rfl) ?_); exact again hlt ⟨by simp [g0], by simp [g1], by simp, hI⟩
  · have hlt' : ¬ (k : Int) < C.length := (by omega); rw [List.drop_eq_nil_of_le (by simp [clN]; omega), loAt] at hI; subst hI; simp -implicitDefEqProofs [g0, g1, g5, hlt, hlt']
theorem loAt_find (T : List Ty) (n : Str) : (loAt n (tyN T) 0 = -1 ∧ tyFind T n = none) ∨ ∃ (i : Nat) (h : i < T.length), loAt n (tyN T) 0 = i ∧ tyFind T n = some T[i] := by
  by_cases h : lower n ∈ tyN T
  · obtain ⟨i, h1, h2, h3, h4⟩ := loAt_at n (tyN T) 0 h; have h2' : i < T.length := (by simpa [tyN] using h2); refine .inr ⟨i, h2', by simpa using h1, ?_⟩; unfold tyFind; rw [List.find?_eq_some_iff_getElem]; simp only [tyN, List.getElem_map] at h3 h4; refine ⟨by simpa using h3, i, h2', rfl, fun j hj => ?_⟩; simpa using h4 j hj
  · refine .inl ⟨?_, tyFind_none.2 h⟩; have key : ∀ (l : List Str) (k : Nat), lower n ∉ l → loAt n l k = -1 := by
      intro l
      induction l with
      | nil => intro k _; rfl
      | cons x l ih =>
        intro k hk; rw [loAt, if_neg (fun e => hk (by simp [e]))]; exact ih (k + 1) (fun q => hk (by simp [q]))
    exact key _ 0 h
def RcM (T : List Ty) (C : List Cl) (su n : Str) (mu ma : List Str) (j : Nat) (l : List Str) (i : Nat) (τ : St) : Prop := τ 2 = .box (schD (T, C)) ∧ τ 5 = .box (clD (n, su, mu, ma)) ∧ τ j = .d (.int .i64 i) ∧ allTy T (l.take i) = true
theorem rclass_fn (T : List Ty) (C : List Cl) (hs : FitSch (T, C)) (k : Nat) (hk : k < C.length) : Ctr prog 88 [.d (schD (T, C)), .d (.int .i64 k)] (.d (.int .i64 (clE T (C.take k) C[k]))) := by
  refine fv (fun _ => false) func88 (by kernel_rfl) rfl rfl rfl rfl rfl ?_; obtain ⟨hT, hC, fT, fC⟩ := hs; simp only at hT hC fT fC; have hsd : schD (T, C) = .agg [.sl (T.map tyD), .sl (C.map clD)] := rfl; obtain ⟨f1, f2, f3, f4⟩ := fC _ (gmm hk); have hk' : (k : Int) < C.length := (by omega); generalize hx : C[k] = c at *; obtain ⟨n, su, mu, ma⟩ := c; simp only at f1 f2 f3 f4; have hcd : clD (n, su, mu, ma) = .agg [.str n, .str su, .sl (mu.map .str), .sl (ma.map .str)] := rfl; have c1 := name_fn n; have hCt : (C.take k).length ≤ 140737488351232 := by simp; omega
  have fCt : ∀ t ∈ C.take k, FitCl t := fun t ht => fC t (List.mem_of_mem_take ht)
  have c2 := classAt_fn (C.take k) n hCt fCt f1; have c3 := classAt_fn (C.take k) su hCt fCt f2; have m2 := loAt_mem n (clN (C.take k)) 0; have m3 := loAt_mem su (clN (C.take k)) 0; simp only [List.map_take] at c2 c3; obtain ⟨V, hV⟩ : ∃ V, clE T (C.take k) (n, su, mu, ma) = V := ⟨_, rfl⟩; rw [hV]; unfold clE at hV; simp only at hV; generalize loAt n (clN (C.take k)) 0 = x2 at *; generalize loAt su (clN (C.take k)) 0 = x3 at *; cases hb : nameB n with
  | false =>
    rw [if_pos hb] at hV; subst hV; rw [hb] at c1; simp -implicitDefEqProofs [hsd, hk, hk', hx, hcd]; refine callK c1 ?_; simp -implicitDefEqProofs [hsd, hk, hk', hx, hcd]
  | true =>
  rw [if_neg (by simp [hb])] at hV; rw [hb] at c1; by_cases h1 : lower n ∈ clN (C.take k)
  · rw [if_pos h1] at hV; subst hV; have q1 : 0 ≤ x2 := (by simpa [h1] using m2); simp -implicitDefEqProofs [hsd, hk, hk', hx, hcd]; refine callK c1 ?_; simp -implicitDefEqProofs [hsd, hk, hk', hx, hcd]; refine ⟨by omega, fun y a b c d _ h => h ▸ rfl, callP c2 ?_⟩; simp -implicitDefEqProofs [hsd, hk, hk', hx, hcd, q1]
  rw [if_neg h1] at hV; have q1 : ¬ 0 ≤ x2 := (by simpa [h1] using m2); by_cases h2 : su = []
  · subst h2; rw [if_neg (by simp)] at hV; by_cases h3 : 64 < mu.length
    · have h3' : (64 : Int) < mu.length := (by omega); rw [if_pos (.inl h3)] at hV; subst hV; simp -implicitDefEqProofs [hsd, hk, hk', hx, hcd]; refine callK c1 ?_; simp -implicitDefEqProofs [hsd, hk, hk', hx, hcd]; refine ⟨by omega, fun y a b c d _ h => h ▸ rfl, callP c2 ?_⟩; simp -implicitDefEqProofs [hsd, hk, hk', hx, hcd, q1, h3, h3']
    have h3' : ¬ (64 : Int) < mu.length := (by omega); by_cases h4 : 64 < ma.length
    · have h4' : (64 : Int) < ma.length := (by omega); rw [if_pos (.inr h4)] at hV; subst hV; simp -implicitDefEqProofs [hsd, hk, hk', hx, hcd]; refine callK c1 ?_; simp -implicitDefEqProofs [hsd, hk, hk', hx, hcd]; refine ⟨by omega, fun y a b c d _ h => h ▸ rfl, callP c2 ?_⟩; simp -implicitDefEqProofs [hsd, hk, hk', hx, hcd, q1, h3, h3', h4, h4']
    have h4' : ¬ (64 : Int) < ma.length := (by omega); rw [if_neg (by omega)] at hV; simp -implicitDefEqProofs [hsd, hk, hk', hx, hcd]; refine callK c1 ?_; simp -implicitDefEqProofs [hsd, hk, hk', hx, hcd]; refine ⟨by omega, fun y a b c d _ h => h ▸ rfl, callP c2 ?_⟩; simp -implicitDefEqProofs [hsd, hk, hk', hx, hcd, q1, h3, h3', h4, h4']; refine loopN mu.length (RcM T C [] n mu ma 6 mu) ⟨by simp [hsd], by simp [hcd], by simp, by simp [allTy]⟩ ?_; clear c1 c2 c3 m2 m3; rintro i τ hi ⟨g2, g5, g6, hA⟩; rw [hsd] at g2; rw [hcd] at g5; by_cases hlt : i < mu.length
    · have hlt' : (i : Int) < mu.length := (by omega); have hfx := f3.2 _ (gmm hlt); have hts := take_s hlt; generalize hy : mu[i] = s at *; have c4 := typeAt_fn T s hT fT hfx; have m4 := loAt_mem s (tyN T) 0; generalize loAt s (tyN T) 0 = x4 at *; by_cases hin : lower s ∈ tyN T
      · have q4 : ¬ x4 < 0 := Int.not_lt.2 (by simpa [hin] using m4); simp -implicitDefEqProofs [g2, g5, g6, hlt, hlt', hy]; refine callP c4 ?_; simp -implicitDefEqProofs [g2, g5, g6, hlt, hlt', hy, q4]; (repeat refine ai (by first | omega | rfl) ?_); exact again hlt ⟨by simp [g2, hsd], by simp [g5, hcd], by simp, by rw [hts]; simp only [allTy, List.all_append, List.all_cons, List.all_nil, Bool.and_true, hin, decide_true]; exact hA⟩
      · have q4 : x4 < 0 := Int.not_le.1 (by simpa [hin] using m4); have hbad : allTy T mu = false := by
          unfold allTy; rw [List.all_eq_false]; exact ⟨s, hy ▸ gmm hlt, by simp [hin]⟩
        rw [if_pos (by simp [hbad])] at hV; subst hV; simp -implicitDefEqProofs [g2, g5, g6, hlt, hlt', hy]; refine callP c4 ?_; simp -implicitDefEqProofs [g2, g5, g6, hlt, hlt', hy, q4]
    have hlt' : ¬ (i : Int) < mu.length := (by omega); rw [ttl (by omega)] at hA; simp -implicitDefEqProofs [g2, g5, g6, hlt, hlt']; refine loopN ma.length (RcM T C [] n mu ma 7 ma) ⟨by simp [g2, hsd], by simp [g5, hcd], by simp, by simp [allTy]⟩ ?_; clear g2 g5 g6 hlt hlt'; have hM := hA; rintro i τ hi ⟨g2, g5, g7, hA⟩; rw [hsd] at g2; rw [hcd] at g5; by_cases hlt : i < ma.length
    · have hlt' : (i : Int) < ma.length := (by omega); have hfx := f4.2 _ (gmm hlt); have hts := take_s hlt; generalize hy : ma[i] = s at *; have c4 := typeAt_fn T s hT fT hfx; have m4 := loAt_mem s (tyN T) 0; generalize loAt s (tyN T) 0 = x4 at *; by_cases hin : lower s ∈ tyN T
      · have q4 : ¬ x4 < 0 := Int.not_lt.2 (by simpa [hin] using m4); simp -implicitDefEqProofs [g2, g5, g7, hlt, hlt', hy]; refine callP c4 ?_; simp -implicitDefEqProofs [g2, g5, g7, hlt, hlt', hy, q4]; (repeat refine ai (by first | omega | rfl) ?_); exact again hlt ⟨by simp [g2, hsd], by simp [g5, hcd], by simp, by rw [hts]; simp only [allTy, List.all_append, List.all_cons, List.all_nil, Bool.and_true, hin, decide_true]; exact hA⟩
      · have q4 : x4 < 0 := Int.not_le.1 (by simpa [hin] using m4); have hbad : allTy T ma = false := by
          unfold allTy; rw [List.all_eq_false]; exact ⟨s, hy ▸ gmm hlt, by simp [hin]⟩
        rw [if_pos (by simp [hbad])] at hV; subst hV; simp -implicitDefEqProofs [g2, g5, g7, hlt, hlt', hy]; refine callP c4 ?_; simp -implicitDefEqProofs [g2, g5, g7, hlt, hlt', hy, q4]
    have hlt' : ¬ (i : Int) < ma.length := (by omega); rw [ttl (by omega)] at hA; rw [if_neg (by simp [hM, hA])] at hV; subst hV; simp -implicitDefEqProofs [g2, g5, g7, hlt, hlt']
  by_cases h5 : lower su ∈ clN (C.take k)
  · rw [if_neg (by simp [h5])] at hV; have q3 : ¬ x3 < 0 := Int.not_lt.2 (by simpa [h5] using m3); by_cases h3 : 64 < mu.length
    · have h3' : (64 : Int) < mu.length := (by omega); rw [if_pos (.inl h3)] at hV; subst hV; simp -implicitDefEqProofs [hsd, hk, hk', hx, hcd]; refine callK c1 ?_; simp -implicitDefEqProofs [hsd, hk, hk', hx, hcd]; refine ⟨by omega, fun y a b c d _ h => h ▸ rfl, callP c2 ?_⟩; simp -implicitDefEqProofs [hsd, hk, hk', hx, hcd, q1, h2]; refine ⟨by omega, fun y a b c d _ h => h ▸ rfl, callP c3 ?_⟩; simp -implicitDefEqProofs [hsd, hk, hk', hx, hcd, q1, h2, q3, h3, h3']
    have h3' : ¬ (64 : Int) < mu.length := (by omega); by_cases h4 : 64 < ma.length
    · have h4' : (64 : Int) < ma.length := (by omega); rw [if_pos (.inr h4)] at hV; subst hV; simp -implicitDefEqProofs [hsd, hk, hk', hx, hcd]; refine callK c1 ?_; simp -implicitDefEqProofs [hsd, hk, hk', hx, hcd]; refine ⟨by omega, fun y a b c d _ h => h ▸ rfl, callP c2 ?_⟩; simp -implicitDefEqProofs [hsd, hk, hk', hx, hcd, q1, h2]; refine ⟨by omega, fun y a b c d _ h => h ▸ rfl, callP c3 ?_⟩; simp -implicitDefEqProofs [hsd, hk, hk', hx, hcd, q1, h2, q3, h3, h3', h4, h4']
    have h4' : ¬ (64 : Int) < ma.length := (by omega); rw [if_neg (by omega)] at hV; simp -implicitDefEqProofs [hsd, hk, hk', hx, hcd]; refine callK c1 ?_; simp -implicitDefEqProofs [hsd, hk, hk', hx, hcd]; refine ⟨by omega, fun y a b c d _ h => h ▸ rfl, callP c2 ?_⟩; simp -implicitDefEqProofs [hsd, hk, hk', hx, hcd, q1, h2]; refine ⟨by omega, fun y a b c d _ h => h ▸ rfl, callP c3 ?_⟩; simp -implicitDefEqProofs [hsd, hk, hk', hx, hcd, q1, h2, q3, h3, h3', h4, h4']; refine loopN mu.length (RcM T C su n mu ma 6 mu) ⟨by simp [hsd], by simp [hcd], by simp, by simp [allTy]⟩ ?_; clear c1 c2 c3 m2 m3; rintro i τ hi ⟨g2, g5, g6, hA⟩; rw [hsd] at g2; rw [hcd] at g5; by_cases hlt : i < mu.length
    · have hlt' : (i : Int) < mu.length := (by omega); have hfx := f3.2 _ (gmm hlt); have hts := take_s hlt; generalize hy : mu[i] = s at *; have c4 := typeAt_fn T s hT fT hfx; have m4 := loAt_mem s (tyN T) 0; generalize loAt s (tyN T) 0 = x4 at *; by_cases hin : lower s ∈ tyN T
      · have q4 : ¬ x4 < 0 := Int.not_lt.2 (by simpa [hin] using m4); simp -implicitDefEqProofs [g2, g5, g6, hlt, hlt', hy]; refine callP c4 ?_; simp -implicitDefEqProofs [g2, g5, g6, hlt, hlt', hy, q4]; (repeat refine ai (by first | omega | rfl) ?_); exact again hlt ⟨by simp [g2, hsd], by simp [g5, hcd], by simp, by rw [hts]; simp only [allTy, List.all_append, List.all_cons, List.all_nil, Bool.and_true, hin, decide_true]; exact hA⟩
      · have q4 : x4 < 0 := Int.not_le.1 (by simpa [hin] using m4); have hbad : allTy T mu = false := by
          unfold allTy; rw [List.all_eq_false]; exact ⟨s, hy ▸ gmm hlt, by simp [hin]⟩
        rw [if_pos (by simp [hbad])] at hV; subst hV; simp -implicitDefEqProofs [g2, g5, g6, hlt, hlt', hy]; refine callP c4 ?_; simp -implicitDefEqProofs [g2, g5, g6, hlt, hlt', hy, q4]
    have hlt' : ¬ (i : Int) < mu.length := (by omega); rw [ttl (by omega)] at hA; simp -implicitDefEqProofs [g2, g5, g6, hlt, hlt']; refine loopN ma.length (RcM T C su n mu ma 7 ma) ⟨by simp [g2, hsd], by simp [g5, hcd], by simp, by simp [allTy]⟩ ?_; clear g2 g5 g6 hlt hlt'; have hM := hA; rintro i τ hi ⟨g2, g5, g7, hA⟩; rw [hsd] at g2; rw [hcd] at g5; by_cases hlt : i < ma.length
    · have hlt' : (i : Int) < ma.length := (by omega); have hfx := f4.2 _ (gmm hlt); have hts := take_s hlt; generalize hy : ma[i] = s at *; have c4 := typeAt_fn T s hT fT hfx; have m4 := loAt_mem s (tyN T) 0; generalize loAt s (tyN T) 0 = x4 at *; by_cases hin : lower s ∈ tyN T
      · have q4 : ¬ x4 < 0 := Int.not_lt.2 (by simpa [hin] using m4); simp -implicitDefEqProofs [g2, g5, g7, hlt, hlt', hy]; refine callP c4 ?_; simp -implicitDefEqProofs [g2, g5, g7, hlt, hlt', hy, q4]; (repeat refine ai (by first | omega | rfl) ?_); exact again hlt ⟨by simp [g2, hsd], by simp [g5, hcd], by simp, by rw [hts]; simp only [allTy, List.all_append, List.all_cons, List.all_nil, Bool.and_true, hin, decide_true]; exact hA⟩
      · have q4 : x4 < 0 := Int.not_le.1 (by simpa [hin] using m4); have hbad : allTy T ma = false := by
          unfold allTy; rw [List.all_eq_false]; exact ⟨s, hy ▸ gmm hlt, by simp [hin]⟩
        rw [if_pos (by simp [hbad])] at hV; subst hV; simp -implicitDefEqProofs [g2, g5, g7, hlt, hlt', hy]; refine callP c4 ?_; simp -implicitDefEqProofs [g2, g5, g7, hlt, hlt', hy, q4]
    have hlt' : ¬ (i : Int) < ma.length := (by omega); rw [ttl (by omega)] at hA; rw [if_neg (by simp [hM, hA])] at hV; subst hV; simp -implicitDefEqProofs [g2, g5, g7, hlt, hlt']
  have q3 : x3 < 0 := Int.not_le.1 (by simpa [h5] using m3); rw [if_pos ⟨h2, h5⟩] at hV; subst hV; simp -implicitDefEqProofs [hsd, hk, hk', hx, hcd]; refine callK c1 ?_; simp -implicitDefEqProofs [hsd, hk, hk', hx, hcd]; refine ⟨by omega, fun y a b c d _ h => h ▸ rfl, callP c2 ?_⟩; simp -implicitDefEqProofs [hsd, hk, hk', hx, hcd, q1, h2]; refine ⟨by omega, fun y a b c d _ h => h ▸ rfl, callP c3 ?_⟩; simp -implicitDefEqProofs [hsd, hk, hk', hx, hcd, q1, h2, q3]
def RkI (T : List Ty) (C : List Cl) (k : Nat) (τ : St) : Prop := τ 1 = .box (schD (T, C)) ∧ τ 3 = .d (.int .i64 k) ∧ tysE (T.take k) (T.drop k) = tysE [] T
def RkJ (T : List Ty) (C : List Cl) (k : Nat) (τ : St) : Prop := τ 1 = .box (schD (T, C)) ∧ τ 5 = .d (.int .i64 k) ∧ clsE T (C.take k) (C.drop k) = clsE T [] C
theorem rcheck_fn (s : Sch) (hs : FitSch s) : Ctr prog 37 [.d (schD s)] (.d (.int .i64 (schE s))) := by
  refine fv (fun _ => false) func37 (by kernel_rfl) rfl rfl rfl rfl rfl ?_; obtain ⟨T, C⟩ := s; have hs0 := hs; obtain ⟨hT, hC, fT, fC⟩ := hs; simp only at hT hC fT fC; have hsd : schD (T, C) = .agg [.sl (T.map tyD), .sl (C.map clD)] := rfl; have hw : ∀ c : Ty, width (tyD c) = 3 := fun _ => rfl
  obtain ⟨W, hW⟩ : ∃ W, schE (T, C) = W := ⟨_, rfl⟩; rw [hW]; unfold schE at hW; simp only at hW; by_cases h1 : 64 < T.length
  · have h1' : (64 : Int) < T.length := (by omega); rw [if_pos (.inl h1)] at hW; subst hW; simp -implicitDefEqProofs [hsd, h1, h1']
  have h1' : ¬ (64 : Int) < T.length := (by omega); by_cases h2 : 32 < C.length
  · have h2' : (32 : Int) < C.length := (by omega); rw [if_pos (.inr h2)] at hW; subst hW; simp -implicitDefEqProofs [hsd, h1, h1', h2, h2']
  have h2' : ¬ (32 : Int) < C.length := (by omega); rw [if_neg (by omega)] at hW; simp -implicitDefEqProofs [hsd, h1, h1', h2, h2']; refine loopN T.length (RkI T C) ⟨by simp [hsd], by simp, by simp⟩ ?_; rintro k τ hk ⟨g1, g3, hI⟩; rw [hsd] at g1; by_cases hlt : k < T.length
  · have hlt' : (k : Int) < T.length := (by omega); rw [tysE_drop hlt] at hI; have hfx := fT _ (gmm hlt); have hTt : (T.take k).length ≤ 140737488351232 := by simp; omega
    have fTt : ∀ t ∈ T.take k, FitTy t := fun t ht => fT t (List.mem_of_mem_take ht)
    generalize hx : T[k] = t at *; obtain ⟨n, sy, sg⟩ := t; have htd : tyD (n, sy, sg) = .agg [.str n, .int .i64 sy, .bool sg] := rfl; have c1 := name_fn n; have c2 := typeAt_fn (T.take k) n hTt fTt hfx; have m2 := loAt_mem n (tyN (T.take k)) 0; simp only [List.map_take] at c2; obtain ⟨e, he⟩ : ∃ e, tyE (T.take k) (n, sy, sg) = e := ⟨_, rfl⟩; rw [he] at hI; unfold tyE at he; simp only at he; generalize loAt n (tyN (T.take k)) 0 = x2 at *; cases hb : nameB n with
    | false =>
      rw [if_pos hb] at he; subst he; rw [if_neg (by decide)] at hI; rw [← hI, if_pos (by decide)] at hW; subst hW; rw [hb] at c1; simp -implicitDefEqProofs [g1, g3, hlt, hlt', hx, htd]; refine callK c1 ?_; simp -implicitDefEqProofs [g1, g3]
    | true =>
    rw [if_neg (by simp [hb])] at he; rw [hb] at c1; by_cases h3 : lower n ∈ tyN (T.take k)
    · rw [if_pos h3] at he; subst he; rw [if_neg (by decide)] at hI; rw [← hI, if_pos (by decide)] at hW; subst hW; have q2 : 0 ≤ x2 := (by simpa [h3] using m2); simp -implicitDefEqProofs [g1, g3, hlt, hlt', hx, htd]; refine callK c1 ?_; simp -implicitDefEqProofs [g1, g3, hk, hlt, hlt', hx, htd]; refine ⟨fun y a b h => (by rcases h with ⟨_, h⟩ | ⟨_, h⟩ <;> exact h ▸ rfl), callP c2 ?_⟩; simp -implicitDefEqProofs [g1, g3, q2]
    rw [if_neg h3] at he; have q2 : ¬ 0 ≤ x2 := (by simpa [h3] using m2); have hcase : e = 8 ∧ sy < 1 ∨ e = 8 ∧ ¬ sy < 1 ∧ 5 < sy ∨ e = 0 ∧ ¬ sy < 1 ∧ ¬ 5 < sy := by
      by_cases q1 : sy < 1
      · exact .inl ⟨by rw [← he, if_pos (.inl q1)], q1⟩
      · by_cases q2 : 5 < sy
        · exact .inr (.inl ⟨by rw [← he, if_pos (.inr q2)], q1, q2⟩)
        · exact .inr (.inr ⟨by rw [← he, if_neg (by omega)], q1, q2⟩)
    clear he; rcases hcase with ⟨rfl, h4⟩ | ⟨rfl, h4, h5⟩ | ⟨rfl, h4, h5⟩
    · rw [if_neg (by decide)] at hI; rw [← hI, if_pos (by decide)] at hW; subst hW; simp -implicitDefEqProofs [g1, g3, hlt, hlt', hx, htd]; refine callK c1 ?_; simp -implicitDefEqProofs [g1, g3, hk, hlt, hlt', hx, htd]; refine ⟨fun y a b h => (by rcases h with ⟨_, h⟩ | ⟨_, h⟩ <;> exact h ▸ rfl), callP c2 ?_⟩; simp -implicitDefEqProofs [g1, g3, q2, h4, htd]
    · rw [if_neg (by decide)] at hI; rw [← hI, if_pos (by decide)] at hW; subst hW; simp -implicitDefEqProofs [g1, g3, hlt, hlt', hx, htd]; refine callK c1 ?_; simp -implicitDefEqProofs [g1, g3, hk, hlt, hlt', hx, htd]; refine ⟨fun y a b h => (by rcases h with ⟨_, h⟩ | ⟨_, h⟩ <;> exact h ▸ rfl), callP c2 ?_⟩; simp -implicitDefEqProofs [g1, g3, q2, h4, h5, htd]
    · rw [if_pos rfl] at hI; simp -implicitDefEqProofs [g1, g3, hlt, hlt', hx, htd]; refine callK c1 ?_; simp -implicitDefEqProofs [g1, g3, hk, hlt, hlt', hx, htd]; refine ⟨fun y a b h => (by rcases h with ⟨_, h⟩ | ⟨_, h⟩ <;> exact h ▸ rfl), callP c2 ?_⟩; simp -implicitDefEqProofs [g1, g3, q2, h4, h5, htd]; (repeat refine ai (by first | omega | rfl) ?_); exact again hlt ⟨by simp [g1, hsd], by simp, hI⟩
  · have hlt' : ¬ (k : Int) < T.length := (by omega); rw [List.drop_eq_nil_of_le (by omega), tysE] at hI; rw [← hI, if_neg (by simp)] at hW; simp -implicitDefEqProofs [g1, g3, hlt, hlt']; refine loopN C.length (RkJ T C) ⟨by simp [g1, hsd], by simp, by simp⟩ ?_; clear g1 g3 hI hlt hlt' hk; rintro k τ hk ⟨g1, g5, hI⟩; rw [hsd] at g1; by_cases hlt : k < C.length
    · have hlt' : (k : Int) < C.length := (by omega); rw [clsE_drop hlt] at hI; have c1 := rclass_fn T C hs0 k hlt; rw [hsd] at c1; generalize clE T (C.take k) C[k] = e at *; by_cases h0 : e = 0
      · subst h0; rw [if_pos rfl] at hI; simp -implicitDefEqProofs [g1, g5, hlt, hlt']; refine callK c1 ?_; simp -implicitDefEqProofs [g1, g5]; (repeat refine ai (by first | omega | rfl) ?_); exact again hlt ⟨by simp [g1, hsd], by simp, hI⟩
      · rw [if_neg h0] at hI; rw [← hI, if_pos h0] at hW; subst hW; simp -implicitDefEqProofs [g1, g5, hlt, hlt']; refine callK c1 ?_; simp -implicitDefEqProofs [g1, g5, h0]
    · have hlt' : ¬ (k : Int) < C.length := (by omega); rw [List.drop_eq_nil_of_le (by omega), clsE] at hI; rw [← hI, if_neg (by simp)] at hW; have c1 := typeAt_fn T sClass hT fT (by decide); unfold mainE at hW; simp only [sClass] at c1; rcases loAt_find T sClass with ⟨e1, e2⟩ | ⟨i, hi, e1, e2⟩
      · simp only [sClass] at e1; rw [e1] at c1; rw [e2] at hW; simp only at hW; subst hW; simp -implicitDefEqProofs [g1, g5, hlt, hlt']; refine callK c1 ?_; simp -implicitDefEqProofs [g1, g5]
      · simp only [sClass] at e1; rw [e1] at c1; rw [e2] at hW; simp only at hW; have hi' : (i : Int) < T.length := (by omega); have hi0 : ¬ (i : Int) < 0 := (by omega); generalize hx : T[i] = t at *; obtain ⟨n, sy, sg⟩ := t; have htd : tyD (n, sy, sg) = .agg [.str n, .int .i64 sy, .bool sg] := rfl; simp only at hW; by_cases h0 : sy = 1
        · rw [if_neg (by simp [h0])] at hW; subst hW h0; simp -implicitDefEqProofs [g1, g5, hlt, hlt']; refine callK c1 ?_; simp -implicitDefEqProofs [g1, g5, hi, hi', hi0, hx, htd]
        · rw [if_pos h0] at hW; subst hW; simp -implicitDefEqProofs [g1, g5, hlt, hlt']; refine callK c1 ?_; simp -implicitDefEqProofs [g1, g5, hi, hi', hi0, hx, htd, h0]
theorem isName_fn (s : Sch) (hs : FitSch s) (n : Str) (hn : List.length n ≤ 140737488351232) : Ctr prog 46 [.d (schD s), .d (.str n)] (.d (.bool (isNm s n))) := by
  refine fv (fun _ => false) func46 (by kernel_rfl) rfl rfl rfl rfl rfl ?_; have c1 := stype_fn s hs n hn; unfold isNm; obtain ⟨T, C⟩ := s; have hsd : schD (T, C) = .agg [.sl (T.map tyD), .sl (C.map clD)] := rfl; generalize typeU (T, C) n = R at *; obtain ⟨⟨m, sy, sg⟩, ok⟩ := R; rw [hsd] at c1 ⊢; have htd : tyD (m, sy, sg) = .agg [.str m, .int .i64 sy, .bool sg] := rfl; rw [htd] at c1; simp -implicitDefEqProofs; refine callK c1 ?_; cases ok
  · simp -implicitDefEqProofs
  · simp -implicitDefEqProofs
end Go.Proofs.Tz
namespace Go.Proofs.Tz
open Go.Vw Go.RowKit Go.Proofs
def ordI (a b : Int) : Int := if a < b then -1 else if b < a then 1 else 0
theorem isNaNI_fn (x : Int) : Ctr prog 177 [.d (.int .i64 x)] (.d (.bool false)) := by
  refine fv (fun _ => false) func177 (by kernel_rfl) rfl rfl rfl rfl rfl ?_; simp -implicitDefEqProofs
theorem isNaNS_fn (x : Str) : Ctr prog 176 [.d (.str x)] (.d (.bool false)) := by
  refine fv (fun _ => false) func176 (by kernel_rfl) rfl rfl rfl rfl rfl ?_; simp -implicitDefEqProofs
theorem cmpI_fn (x y : Int) : Ctr prog 124 [.d (.int .i64 x), .d (.int .i64 y)] (.d (.int .i64 (ordI x y))) := by
  refine fv (fun _ => false) func124 (by kernel_rfl) rfl rfl rfl rfl rfl ?_; have c1 := isNaNI_fn x; have c2 := isNaNI_fn y; unfold ordI; by_cases h1 : x < y
  · simp -implicitDefEqProofs; refine callK c1 ?_; simp -implicitDefEqProofs; refine callK c2 ?_; simp -implicitDefEqProofs [h1]
  by_cases h2 : y < x
  · simp -implicitDefEqProofs; refine callK c1 ?_; simp -implicitDefEqProofs; refine callK c2 ?_; simp -implicitDefEqProofs [h1, h2]
  · simp -implicitDefEqProofs; refine callK c1 ?_; simp -implicitDefEqProofs; refine callK c2 ?_; simp -implicitDefEqProofs [h1, h2]
theorem ordS_cases (x y : Str) : (x < y ∧ ordS x y = -1 ∧ Op.bytesLess x y = true) ∨ (y < x ∧ ordS x y = 1 ∧ Op.bytesLess x y = false ∧ decide (x = y) = false) ∨ (x = y ∧ ordS x y = 0) := by
  by_cases h1 : x < y
  · exact .inl ⟨h1, by simp [ordS, h1], bl_t.2 h1⟩
  by_cases h2 : y < x
  · refine .inr (.inl ⟨h2, by simp [ordS, h1, h2], bl_f.2 h1, ?_⟩); rw [decide_eq_false_iff_not]; rintro rfl; exact h1 h2
  · exact .inr (.inr ⟨s_tri h1 h2, by simp [ordS, h1, h2]⟩)
theorem cmpStr_fn (x y : Str) : Ctr prog 121 [.d (.str x), .d (.str y)] (.d (.int .i64 (ordS x y))) := by
  refine fv (fun _ => false) func121 (by kernel_rfl) rfl rfl rfl rfl rfl ?_; have c1 := isNaNS_fn x; have c2 := isNaNS_fn y; rcases ordS_cases x y with ⟨_, h1, h2⟩ | ⟨_, h1, h2, h3⟩ | ⟨h1, h2⟩
  · rw [h1]; simp -implicitDefEqProofs; refine callK c1 ?_; simp -implicitDefEqProofs; refine callK c2 ?_; simp -implicitDefEqProofs [h2]
  · rw [h1]; simp -implicitDefEqProofs; refine callK c1 ?_; simp -implicitDefEqProofs; refine callK c2 ?_; simp -implicitDefEqProofs [h2, h3]
  · rw [h2]; subst h1; have h3 : Op.bytesLess x x = false := bl_f.2 (s_irr x); simp -implicitDefEqProofs; refine callK c1 ?_; simp -implicitDefEqProofs; refine callK c2 ?_; simp -implicitDefEqProofs [h3]
theorem nbytes_fn (x y : Str) : Ctr prog 178 [.d (.str x), .d (.str y)] (.d (.int .i64 (ordS x y))) := by
  refine fv (fun _ => false) func178 (by kernel_rfl) rfl rfl rfl rfl rfl ?_; rcases ordS_cases x y with ⟨_, h1, h2⟩ | ⟨_, h1, h2, h3⟩ | ⟨h1, h2⟩
  · rw [h1]; simp -implicitDefEqProofs [h2]
  · rw [h1]; simp -implicitDefEqProofs [h2, h3]
  · rw [h2]; subst h1; have h3 : Op.bytesLess x x = false := bl_f.2 (s_irr x); simp -implicitDefEqProofs [h3]
def orI : List Int → Int
  | [] => 0
  | x :: l => if x ≠ 0 then x else orI l
def intsD (l : List Int) : D := .sl (l.map (.int .i64))
theorem cmpOr_fn (l : List Int) (hl : l.length < 1000000) : Ctr prog 123 [.d (intsD l)] (.d (.int .i64 (orI l))) := by
  refine fv (fun _ => false) func123 (by kernel_rfl) rfl rfl rfl rfl rfl ?_; obtain ⟨R, hR⟩ : ∃ R, orI l = R := ⟨_, rfl⟩; rw [hR]; simp -implicitDefEqProofs [intsD]; refine loopN l.length (fun k τ => τ 6 = .d (intsD l) ∧ τ 7 = .d (.int .i64 l.length) ∧ τ 8 = .d (.int .i64 k) ∧ τ 3 = .d (.int .i64 0) ∧ orI (l.drop k) = R) ⟨by simp [intsD], by simp, by simp, by simp, by simpa using hR⟩ ?_; rintro k τ hk ⟨h6, h7, h8, h3, hI⟩; by_cases hlt : k < l.length
  · have hlt' : (k : Int) < l.length := (by omega); rw [List.drop_eq_getElem_cons hlt, orI] at hI; generalize hx : l[k] = x at *; by_cases h0 : x = 0
    · rw [if_neg (by simpa using h0)] at hI; simp -implicitDefEqProofs [h6, h7, h8, h3, intsD, hlt, hlt', hx, h0]; (repeat refine ai (by omega) ?_); exact again hlt ⟨by simp [h6, intsD], by simp [h7], by simp, by simp [h3], hI⟩
    · rw [if_pos h0] at hI; rw [hI] at hx h0; simp -implicitDefEqProofs [h6, h7, h8, h3, intsD, hlt, hlt', hx, h0]
  · have hlt' : ¬ (k : Int) < l.length := (by omega); rw [List.drop_eq_nil_of_le (by omega), orI] at hI; subst hI; simp -implicitDefEqProofs [h6, h7, h8, h3, hlt']
theorem parentU_eq (s : Str) : parentU s = if validU s = true then (match (parseU s).1 with | _ :: l => ((formatU l).1, true) | [] => ([], false)) else ([], false) := by
  rw [parentU, normU_eq]; by_cases h : validU s = true
  · rw [if_pos h, if_pos h]; cases (parseU s).1 <;> rfl
  · rw [if_neg h, if_neg h]
theorem FitN.tail {p : Pair} {l : List Pair} (h : FitN (p :: l)) : FitN l := ⟨by have := h.1; simp at this; omega, fun q hq => h.2 q (by simp [hq])⟩
theorem nparent_fn (s : Str) (hs : List.length s < 900000) : Ctr prog 165 [.d (.str s)] (.tup [.d (.str (parentU s).1), .d (.bool (parentU s).2)]) := by
  refine fn_of_vwpN (rv := .tmp 2) (rs := [.tmp 3]) (r := .d (.str (parentU s).1)) (ys := [.d (.bool (parentU s).2)]) (fun i => false) (by kernel_rfl) func165 (by kernel_rfl) rfl rfl (by simp) (nbl rfl) (by kernel_rfl) rfl rfl ?_; have c1 := nnormal_fn s hs; have hf := parseU_fitN s; rw [parentU_eq]; generalize (parseU s).1 = l at *; simp only [pairs] at c1; by_cases hv : validU s = true
  · cases l with
    | nil =>
      simp -implicitDefEqProofs; refine callK c1 ?_; simp -implicitDefEqProofs [hv]
    | cons p l =>
      rw [if_pos hv]; dsimp only; have c2 := nformat_fn l hf.tail; have hlen : ¬ ((l.length : Int) + 1 = 0) := (by omega); have htk : List.take l.length (l.map pairD) = l.map pairD := ttl (by simp); generalize formatU l = G at *; obtain ⟨t, g⟩ := G; simp only [pairs] at c2; simp -implicitDefEqProofs; refine callK c1 ?_; simp -implicitDefEqProofs [hv, hlen, htk]; refine ⟨⟨rfl, by rintro _ x y _ rfl; rfl⟩, ?_⟩; refine callK c2 ?_; simp -implicitDefEqProofs
  · simp -implicitDefEqProofs; refine callK c1 ?_; simp -implicitDefEqProofs [hv]
theorem partsU_parse {s : Str} (h : validU s = true) : partsU s = (parseU s).1 := by rw [partsU_eq, if_pos h]
theorem nparentR_fn (s : Str) (hs : List.length s < 900000) : Ctr prog 164 [.d (.str s)] (.tup [.d (.str (parentU s).1), .d (.bool (parentU s).2)]) := by
  refine fn_of_vwpN (rv := .tmp 2) (rs := [.tmp 3]) (r := .d (.str (parentU s).1)) (ys := [.d (.bool (parentU s).2)]) (fun i => false) (by kernel_rfl) func164 (by kernel_rfl) rfl rfl (by simp) (nbl rfl) (by kernel_rfl) rfl rfl ?_; have c1 := nparts_fn s hs; have hf := parseU_fitN s; rw [parentU_eq]; by_cases hv : validU s = true
  · rw [partsU_parse hv] at c1; generalize (parseU s).1 = l at *; simp only [pairs] at c1; cases l with
    | nil =>
      simp -implicitDefEqProofs; refine callK c1 ?_; simp -implicitDefEqProofs [hv]
    | cons p l =>
      rw [if_pos hv]; dsimp only; have c2 := nformatR_fn l hf.tail; have hlen : ¬ ((l.length : Int) + 1 = 0) := (by omega); have htk : List.take l.length (l.map pairD) = l.map pairD := ttl (by simp); generalize formatU l = G at *; obtain ⟨t, g⟩ := G; simp only [pairs] at c2; simp -implicitDefEqProofs; refine callK c1 ?_; simp -implicitDefEqProofs [hv, hlen, htk]; refine ⟨⟨rfl, by rintro _ x y _ rfl; rfl⟩, ?_⟩; refine callK c2 ?_; simp -implicitDefEqProofs
  · simp only [pairs] at c1; simp -implicitDefEqProofs; refine callK c1 ?_; simp -implicitDefEqProofs [hv]
theorem rebaseU_eq (s fr to : Str) : rebaseU s fr to = if validU s = true ∧ validU fr = true ∧ validU to = true then
    (if lastU (parseU s).1 (parseU fr).1 = true then formatU ((parseU s).1.take ((parseU s).1.length - (parseU fr).1.length) ++ (parseU to).1) else ([], 6)) else ([], 4) := by
  rw [rebaseU, normU_eq, normU_eq, normU_eq]; by_cases h1 : validU s = true <;> by_cases h2 : validU fr = true <;> by_cases h3 : validU to = true <;> simp [h1, h2, h3] <;> rfl
theorem valid_len8 {s : Str} (h : validU s = true) : (parseU s).1.length ≤ 8 := by
  have hn : normU s = some (parseU s).1 := by rw [normU_eq, if_pos h]
  exact (normU_inv hn).2.1
theorem fit_cut {l m : List Pair} (hl : FitN l) (hm : FitN m) (h8 : l.length ≤ 8) (h8' : m.length ≤ 8) (k : Nat) : FitN (l.take k ++ m) := by
  refine ⟨by simp; omega, fun p hp => ?_⟩; rcases List.mem_append.1 hp with hp | hp
  · exact hl.2 p (List.mem_of_mem_take hp)
  · exact hm.2 p hp
theorem wp_take (l : List Pair) (k : Nat) : ∀ u : D, u ∈ List.take k (l.map pairD) → width u = 2 := fun u hu => by
  obtain ⟨p, _, rfl⟩ := List.mem_map.1 (List.mem_of_mem_take hu); rfl
theorem wp_all (l : List Pair) : ∀ (u : D) (x y : Str), (x, y) ∈ l → pairD (x, y) = u → width u = 2 := by
  rintro _ x y _ rfl; rfl
theorem nrebase_fn (s fr to : Str) (hs : List.length s < 900000) (hf : List.length fr < 900000) (ht : List.length to < 900000) :
    Ctr prog 56 [.d (.str s), .d (.str fr), .d (.str to)] (.tup [.d (.str (rebaseU s fr to).1), .d (.int .i64 (rebaseU s fr to).2)]) := by
  refine fn_of_vwpN (rv := .tmp 6) (rs := [.tmp 7]) (r := .d (.str (rebaseU s fr to).1)) (ys := [.d (.int .i64 (rebaseU s fr to).2)]) (fun i => false) (by kernel_rfl) func56 (by kernel_rfl) rfl rfl (by simp) (nbl rfl) (by kernel_rfl) rfl rfl ?_; have c1 := nnormal_fn s hs; have c2 := nnormal_fn fr hf; have c3 := nnormal_fn to ht; have f1 := parseU_fitN s; have f2 := parseU_fitN fr; have f3 := parseU_fitN to; have c4 := nlast_fn (parseU s).1 (parseU fr).1 f1.1 f2.1; have g1 := @valid_len8 s; have g3 := @valid_len8 to; rw [rebaseU_eq]; generalize (parseU s).1 = l at *; generalize (parseU fr).1 = m at *; generalize (parseU to).1 = n at *; simp only [pairs] at c1 c2 c3 c4; by_cases h1 : validU s = true
  case neg =>
    simp -implicitDefEqProofs; refine callK c1 ?_; simp -implicitDefEqProofs; refine callK c2 ?_; simp -implicitDefEqProofs; refine callK c3 ?_; simp -implicitDefEqProofs [h1]
  by_cases h2 : validU fr = true
  case neg =>
    simp -implicitDefEqProofs; refine callK c1 ?_; simp -implicitDefEqProofs; refine callK c2 ?_; simp -implicitDefEqProofs; refine callK c3 ?_; simp -implicitDefEqProofs [h1, h2]
  by_cases h3 : validU to = true
  case neg =>
    simp -implicitDefEqProofs; refine callK c1 ?_; simp -implicitDefEqProofs; refine callK c2 ?_; simp -implicitDefEqProofs; refine callK c3 ?_; simp -implicitDefEqProofs [h1, h2, h3]
  rw [if_pos ⟨h1, h2, h3⟩]; by_cases h4 : lastU l m = true
  case neg =>
    simp -implicitDefEqProofs; refine callK c1 ?_; simp -implicitDefEqProofs; refine callK c2 ?_; simp -implicitDefEqProofs; refine callK c3 ?_; simp -implicitDefEqProofs [h1, h2, h3]; refine callK c4 ?_; simp -implicitDefEqProofs [h4]
  rw [if_pos h4]; have hle : m.length ≤ l.length := by simp only [lastU, Bool.and_eq_true, decide_eq_true_eq] at h4; exact h4.1
  have c5 := nformat_fn (l.take (l.length - m.length) ++ n) (fit_cut f1 f3 (g1 h1) (g3 h3) _); have i0 : (0 : Int) ≤ (l.length : Int) - m.length := (by omega); have j0 : ((l.length : Int) - m.length).toNat = l.length - m.length := (by omega); have i2 : (m.length : Int) ≤ (l.length : Int) := (by omega); have g8 := g1 h1; have g9 := g3 h3; generalize formatU (l.take (l.length - m.length) ++ n) = G at *; obtain ⟨x, g⟩ := G; simp only [pairs, List.map_append, List.map_take] at c5; simp -implicitDefEqProofs; refine callK c1 ?_; simp -implicitDefEqProofs; refine callK c2 ?_; simp -implicitDefEqProofs; refine callK c3 ?_; simp -implicitDefEqProofs [h1, h2, h3]; refine callK c4 ?_; have j8 : l.length - m.length ≤ l.length := (by omega); have hmin : min (l.length - m.length) l.length = l.length - m.length := (by omega); simp -implicitDefEqProofs [h4, i0, j0, i2, j8, hmin]; (repeat refine ai (by omega) ?_); refine ⟨wp_take l _, wp_all n, by omega, by omega, ?_⟩; refine callK c5 ?_; simp -implicitDefEqProofs
theorem nrebaseR_fn (s fr to : Str) (hs : List.length s < 900000) (hf : List.length fr < 900000) (ht : List.length to < 900000) :
    Ctr prog 42 [.d (.str s), .d (.str fr), .d (.str to)] (.tup [.d (.str (rebaseU s fr to).1), .d (.int .i64 (rebaseU s fr to).2)]) := by
  refine fn_of_vwpN (rv := .tmp 6) (rs := [.tmp 7]) (r := .d (.str (rebaseU s fr to).1)) (ys := [.d (.int .i64 (rebaseU s fr to).2)]) (fun i => false) (by kernel_rfl) func42 (by kernel_rfl) rfl rfl (by simp) (nbl rfl) (by kernel_rfl) rfl rfl ?_; have c1 := nparts_fn s hs; have c2 := nparts_fn fr hf; have c3 := nparts_fn to ht; have c4 := nunderR_fn s fr hs hf; have f1 := partsU_fitN s; have f3 := partsU_fitN to; have hu : validU s = true → validU fr = true → underU s fr = lastU (partsU s) (partsU fr) := fun q1 q2 => by
    rw [underU_eq, q1, q2, partsU_parse q1, partsU_parse q2]; rfl
  have g1 := @valid_len8 s; have g3 := @valid_len8 to; have p1 := @partsU_parse s; have p2 := @partsU_parse fr; have p3 := @partsU_parse to; rw [rebaseU_eq]; generalize (parseU s).1 = l0 at *; generalize (parseU fr).1 = m0 at *; generalize (parseU to).1 = n0 at *; generalize partsU s = l at *; generalize partsU fr = m at *; generalize partsU to = n at *; generalize underU s fr = U at *; simp only [pairs] at c1 c2 c3 c4; by_cases h1 : validU s = true
  case neg =>
    simp -implicitDefEqProofs; refine callK c1 ?_; simp -implicitDefEqProofs; refine callK c2 ?_; simp -implicitDefEqProofs; refine callK c3 ?_; simp -implicitDefEqProofs [h1]
  by_cases h2 : validU fr = true
  case neg =>
    simp -implicitDefEqProofs; refine callK c1 ?_; simp -implicitDefEqProofs; refine callK c2 ?_; simp -implicitDefEqProofs; refine callK c3 ?_; simp -implicitDefEqProofs [h1, h2]
  by_cases h3 : validU to = true
  case neg =>
    simp -implicitDefEqProofs; refine callK c1 ?_; simp -implicitDefEqProofs; refine callK c2 ?_; simp -implicitDefEqProofs; refine callK c3 ?_; simp -implicitDefEqProofs [h1, h2, h3]
  obtain rfl := p1 h1; obtain rfl := p2 h2; obtain rfl := p3 h3; have hu2 := hu h1 h2; rw [if_pos ⟨h1, h2, h3⟩]; by_cases h4 : lastU l m = true
  case neg =>
    rw [if_neg h4]; have h4' : U = false := by rw [hu2]; simpa using h4
    simp -implicitDefEqProofs; refine callK c1 ?_; simp -implicitDefEqProofs; refine callK c2 ?_; simp -implicitDefEqProofs; refine callK c3 ?_; simp -implicitDefEqProofs [h1, h2, h3]; refine callK c4 ?_; simp -implicitDefEqProofs [h4']
  rw [if_pos h4]; have h4' : U = true := by rw [hu2]; exact h4
  have hle : m.length ≤ l.length := by simp only [lastU, Bool.and_eq_true, decide_eq_true_eq] at h4; exact h4.1
  have g8 := g1 h1; have g9 := g3 h3; have c5 := nformatR_fn (l.take (l.length - m.length) ++ n) (fit_cut f1 f3 g8 g9 _); have i0 : (0 : Int) ≤ (l.length : Int) - m.length := (by omega); have j0 : ((l.length : Int) - m.length).toNat = l.length - m.length := (by omega); have i2 : (m.length : Int) ≤ (l.length : Int) := (by omega); have j8 : l.length - m.length ≤ l.length := (by omega); have hmin : min (l.length - m.length) l.length = l.length - m.length := (by omega); generalize formatU (l.take (l.length - m.length) ++ n) = G at *; obtain ⟨x, g⟩ := G; simp only [pairs, List.map_append, List.map_take] at c5; simp -implicitDefEqProofs; refine callK c1 ?_; simp -implicitDefEqProofs; refine callK c2 ?_; simp -implicitDefEqProofs; refine callK c3 ?_; simp -implicitDefEqProofs [h1, h2, h3]; refine callK c4 ?_; simp -implicitDefEqProofs [h4', i0, j0, i2, j8, hmin]; (repeat refine ai (by omega) ?_); refine ⟨wp_all l, wp_take l _, by omega, by omega, wp_all n, by omega, by omega, ?_⟩; refine callK c5 ?_; simp -implicitDefEqProofs
theorem getElem_rev {l : List Pair} {k : Nat} (h : k < l.length) : l.reverse[k]'(by simpa using h) = l[l.length - 1 - k]'(by omega) := by
  rw [List.getElem_reverse]
theorem norder_fn (l m : List Pair) (k : Nat) (hk : k < l.length) (hk' : k < m.length) (hl : l.length < 1000000) (hm : m.length < 1000000) :
    Ctr prog 122 [.d (.int .i64 k), .d (.ref (pairs l)), .d (.ref (pairs m))] (.d (.int .i64 (cmpP (l[l.length - 1 - k]'(by omega)) (m[m.length - 1 - k]'(by omega))))) := by
  refine fv (fun i => i == 9000001) func122 (by kernel_rfl) rfl rfl rfl rfl rfl ?_; have i1 : (0 : Int) ≤ (l.length : Int) - 1 - k := (by omega); have i2 : (0 : Int) ≤ (m.length : Int) - 1 - k := (by omega); have e1 : ((l.length : Int) - 1 - k).toNat = l.length - 1 - k := (by omega); have e2 : ((m.length : Int) - 1 - k).toNat = m.length - 1 - k := (by omega); have b1 : l.length - 1 - k < l.length := (by omega); have b2 : m.length - 1 - k < m.length := (by omega); generalize hx : l[l.length - 1 - k] = x; generalize hy : m[m.length - 1 - k] = y; obtain ⟨x1, x2⟩ := x; obtain ⟨y1, y2⟩ := y; have c1 := cmpStr_fn x1 y1; have c2 := cmpStr_fn x2 y2; have c3 := cmpOr_fn [ordS x1 y1, ordS x2 y2] (by simp); have hor : orI [ordS x1 y1, ordS x2 y2] = cmpP (x1, x2) (y1, y2) := by
    unfold cmpP; simp only [orI]; by_cases h : ordS x1 y1 = 0
    · by_cases h' : ordS x2 y2 = 0 <;> simp [h, h']
    · simp [h]
  rw [hor] at c3; simp only [intsD, List.map_cons, List.map_nil] at c3; simp -implicitDefEqProofs [pairs, i1, i2, e1, e2, b1, b2, hx, hy, pairD]; (repeat refine ai (by omega) ?_); refine callP c1 ?_; simp -implicitDefEqProofs; refine callP c2 ?_; simp -implicitDefEqProofs; refine ⟨by decide, callP c3 ?_⟩; simp -implicitDefEqProofs
theorem cmpL_step {l m : List Pair} {k : Nat} (hk : k < l.length) (hk' : k < m.length) : cmpL (l.reverse.drop k) (m.reverse.drop k) =
    if cmpP (l[l.length - 1 - k]'(by omega)) (m[m.length - 1 - k]'(by omega)) = 0 then cmpL (l.reverse.drop (k + 1)) (m.reverse.drop (k + 1)) else cmpP (l[l.length - 1 - k]'(by omega)) (m[m.length - 1 - k]'(by omega)) := by
  rw [List.drop_eq_getElem_cons (show k < l.reverse.length by simpa using hk), List.drop_eq_getElem_cons (show k < m.reverse.length by simpa using hk'), cmpL, getElem_rev hk, getElem_rev hk']
theorem cmpL_end {l m : List Pair} {k : Nat} (hk : k = min l.length m.length) : cmpL (l.reverse.drop k) (m.reverse.drop k) = ordI l.length m.length := by
  rcases Nat.lt_trichotomy l.length m.length with h | h | h
  · have e1 : l.reverse.drop k = [] := List.drop_eq_nil_of_le (by simp; omega); rw [e1, List.drop_eq_getElem_cons (show k < m.reverse.length by simp; omega), cmpL, ordI, if_pos (by omega)]
  · rw [List.drop_eq_nil_of_le (by simp; omega), List.drop_eq_nil_of_le (by simp; omega), cmpL, ordI, if_neg (by omega), if_neg (by omega)]
  · have e1 : m.reverse.drop k = [] := List.drop_eq_nil_of_le (by simp; omega); rw [e1, List.drop_eq_getElem_cons (show k < l.reverse.length by simp; omega), cmpL, ordI, if_neg (by omega), if_pos (by omega)]
theorem cmpN_eq (a b : Str) : cmpN a b = if validU a = true then (if validU b = true then cmpL (parseU a).1.reverse (parseU b).1.reverse else -1) else (if validU b = true then 1 else ordS a b) := by
  rw [cmpN, normU_eq, normU_eq]; by_cases h1 : validU a = true <;> by_cases h2 : validU b = true <;> simp [h1, h2]
def CoI (l m : List Pair) (R : Int) (k : Nat) (τ : St) : Prop := τ 9 = .d (.clo 122 [.ref (pairs l), .ref (pairs m)]) ∧ τ 5 = .d (.ref (pairs l)) ∧ τ 7 = .d (.ref (pairs m)) ∧ τ 45 = .d (.int .i64 (min l.length m.length : Nat)) ∧ τ 46 = .d (.int .i64 k) ∧ cmpL (l.reverse.drop k) (m.reverse.drop k) = R
theorem min_if (a b : Nat) : (if (b : Int) < a then (b : Int) else a) = ((min a b : Nat) : Int) := by
  split <;> omega
theorem ncompare_fn (a b : Str) (ha : List.length a < 900000) (hb : List.length b < 900000) : Ctr prog 71 [.d (.str a), .d (.str b)] (.d (.int .i64 (cmpN a b))) := by
  refine fv (fun i => false) func71 (by kernel_rfl) rfl rfl rfl rfl rfl ?_; have c1 := nnormal_fn a ha; have c2 := nnormal_fn b hb; have c3 := cmpStr_fn a b; have f1 := (parseU_fitN a).1; have f2 := (parseU_fitN b).1; rw [cmpN_eq]; generalize (parseU a).1 = l at *; generalize (parseU b).1 = m at *; simp only [pairs] at c1 c2; by_cases h1 : validU a = true
  · by_cases h2 : validU b = true
    · rw [if_pos h1, if_pos h2]; obtain ⟨R, hR⟩ : ∃ R, cmpL l.reverse m.reverse = R := ⟨_, rfl⟩; rw [hR]; simp -implicitDefEqProofs; refine callK c1 ?_; simp -implicitDefEqProofs; refine callK c2 ?_; simp -implicitDefEqProofs [h1, h2, min_if]; refine loopN (min l.length m.length) (CoI l m R) ⟨by simp [pairs], by simp [pairs], by simp [pairs], by simp; split <;> omega, by simp, by simpa using hR⟩ ?_; rintro k τ hk ⟨g9, g5, g7, g45, g46, hI⟩; by_cases hlt : k < min l.length m.length
      · have hk1 : k < l.length := (by omega); have hk2 : k < m.length := (by omega); have hlt' : (k : Int) < ((min l.length m.length : Nat) : Int) := (by omega); have c4 := norder_fn l m k hk1 hk2 f1 f2; rw [cmpL_step hk1 hk2] at hI; simp only [pairs] at c4; generalize cmpP (l[l.length - 1 - k]'(by omega)) (m[m.length - 1 - k]'(by omega)) = C at *; generalize hmn : min l.length m.length = N at *; by_cases h0 : C = 0
        · rw [if_pos h0] at hI; subst h0; simp -implicitDefEqProofs [g9, g5, g7, g45, g46, hlt']; refine callK c4 ?_; simp -implicitDefEqProofs [g9, g5, g7, g45, g46, hlt']; (repeat refine ai (by omega) ?_); exact again hlt ⟨by simp [g9, pairs], by simp [g5, pairs], by simp [g7, pairs], by simp [g45, hmn], by simp, hI⟩
        · rw [if_neg h0] at hI; rw [hI] at c4 h0; simp -implicitDefEqProofs [g9, g5, g7, g45, g46, hlt']; refine callK c4 ?_; simp -implicitDefEqProofs [g9, g5, g7, g45, g46, hlt', h0]
      · have hke : k = min l.length m.length := (by omega); have hlt' : ¬ (k : Int) < ((min l.length m.length : Nat) : Int) := (by omega); have c4 := cmpI_fn l.length m.length; rw [cmpL_end hke] at hI; rw [hI] at c4; generalize min l.length m.length = N at *; simp -implicitDefEqProofs [g9, g5, g7, g45, g46, hlt', pairs]; refine callK c4 ?_; simp -implicitDefEqProofs [g9, g5, g7, g45, g46]
    · simp -implicitDefEqProofs; refine callK c1 ?_; simp -implicitDefEqProofs; refine callK c2 ?_; simp -implicitDefEqProofs [h1, h2]
  · by_cases h2 : validU b = true
    · simp -implicitDefEqProofs; refine callK c1 ?_; simp -implicitDefEqProofs; refine callK c2 ?_; simp -implicitDefEqProofs [h1, h2]
    · simp -implicitDefEqProofs; refine callK c1 ?_; simp -implicitDefEqProofs; refine callK c2 ?_; simp -implicitDefEqProofs [h1, h2]; refine callK c3 ?_; simp -implicitDefEqProofs
def CrI (l m : List Pair) (R : Int) (k : Nat) (τ : St) : Prop := τ 5 = .d (pairs l) ∧ τ 7 = .d (pairs m) ∧ τ 9 = .d (.int .i64 (k + 1 : Nat)) ∧ cmpL (l.reverse.drop k) (m.reverse.drop k) = R
theorem ncompareR_fn (a b : Str) (ha : List.length a < 900000) (hb : List.length b < 900000) : Ctr prog 125 [.d (.str a), .d (.str b)] (.d (.int .i64 (cmpN a b))) := by
  refine fv (fun i => i == 9000012) func125 (by kernel_rfl) rfl rfl rfl rfl rfl ?_; have c1 := nparts_fn a ha; have c2 := nparts_fn b hb; have c3 := nbytes_fn a b; have f1 := (partsU_fitN a).1; have f2 := (partsU_fitN b).1; have p1 := @partsU_parse a; have p2 := @partsU_parse b; rw [cmpN_eq]; generalize (parseU a).1 = l0 at *; generalize (parseU b).1 = m0 at *; generalize partsU a = l at *; generalize partsU b = m at *; simp only [pairs] at c1 c2; by_cases h1 : validU a = true
  · by_cases h2 : validU b = true
    · rw [if_pos h1, if_pos h2]; obtain rfl := p1 h1; obtain rfl := p2 h2; obtain ⟨R, hR⟩ : ∃ R, cmpL l.reverse m.reverse = R := ⟨_, rfl⟩; rw [hR]; simp -implicitDefEqProofs; refine callK c1 ?_; simp -implicitDefEqProofs; refine callK c2 ?_; simp -implicitDefEqProofs [h1, h2]; refine loopN (min l.length m.length) (CrI l m R) ⟨by simp [pairs], by simp [pairs], by simp, by simpa using hR⟩ ?_; rintro k τ hk ⟨g5, g7, g9, hI⟩; by_cases hlt : k < min l.length m.length
      · have hk1 : k < l.length := (by omega); have hk2 : k < m.length := (by omega); have l1 : (k : Int) + 1 ≤ (l.length : Int) := (by omega); have l2 : (k : Int) + 1 ≤ (m.length : Int) := (by omega); have i1 : (0 : Int) ≤ (l.length : Int) - (k + 1) := (by omega); have i2 : (0 : Int) ≤ (m.length : Int) - (k + 1) := (by omega); have e1 : ((l.length : Int) - (k + 1)).toNat = l.length - 1 - k := (by omega); have e2 : ((m.length : Int) - (k + 1)).toNat = m.length - 1 - k := (by omega); have b1 : l.length - 1 - k < l.length := (by omega); have b2 : m.length - 1 - k < m.length := (by omega); rw [cmpL_step hk1 hk2] at hI; generalize hx : l[l.length - 1 - k]'(by omega) = x at *; generalize hy : m[m.length - 1 - k]'(by omega) = y at *; obtain ⟨x1, x2⟩ := x; obtain ⟨y1, y2⟩ := y; have c4 := nbytes_fn x1 y1; have c5 := nbytes_fn x2 y2; simp only [cmpP] at hI; have z1 := @ordS_zero x1 y1; have z2 := @ordS_zero x2 y2; generalize ordS x1 y1 = U at *; generalize ordS x2 y2 = V at *; by_cases q1 : x1 = y1
        · have u0 := z1.2 q1; simp only [if_pos u0] at hI; by_cases q2 : x2 = y2
          · have v0 := z2.2 q2; rw [if_pos v0] at hI; simp -implicitDefEqProofs [g5, g7, g9, pairs, l1, l2, i1, i2, e1, e2, b1, b2, hx, hy, pairD, q1, q2]; (repeat refine ai (by omega) ?_); exact again hlt ⟨by simp [g5, pairs], by simp [g7, pairs], by simp, hI⟩
          · have v0 : ¬ V = 0 := fun e => q2 (z2.1 e)
            rw [if_neg v0] at hI; subst hI; simp -implicitDefEqProofs [g5, g7, g9, pairs, l1, l2, i1, i2, e1, e2, b1, b2, hx, hy, pairD, q1, q2]; (repeat refine ai (by omega) ?_); refine callK c5 ?_; simp -implicitDefEqProofs
        · have u0 : ¬ U = 0 := fun e => q1 (z1.1 e)
          simp only [if_neg u0] at hI; subst hI; simp -implicitDefEqProofs [g5, g7, g9, pairs, l1, l2, i1, i2, e1, e2, b1, b2, hx, hy, pairD, q1]; (repeat refine ai (by omega) ?_); refine callK c4 ?_; simp -implicitDefEqProofs
      · have hke : k = min l.length m.length := (by omega); rw [cmpL_end hke] at hI; unfold ordI at hI; by_cases l1 : (k : Int) + 1 ≤ (l.length : Int)
        · have l2 : ¬ (k : Int) + 1 ≤ (m.length : Int) := (by omega); have l3 : ¬ (l.length : Int) < m.length := (by omega); have l4 : (m.length : Int) < l.length := (by omega); rw [if_neg l3, if_pos l4] at hI; subst hI; simp -implicitDefEqProofs [g5, g7, g9, pairs, l1, l2, l3, l4]
        · by_cases l3 : (l.length : Int) < m.length
          · rw [if_pos l3] at hI; subst hI; simp -implicitDefEqProofs [g5, g7, g9, pairs, l1, l3]
          · have l4 : ¬ (m.length : Int) < l.length := (by omega); rw [if_neg l3, if_neg l4] at hI; subst hI; simp -implicitDefEqProofs [g5, g7, g9, pairs, l1, l3, l4]
    · simp -implicitDefEqProofs; refine callK c1 ?_; simp -implicitDefEqProofs; refine callK c2 ?_; simp -implicitDefEqProofs [h1, h2]
  · by_cases h2 : validU b = true
    · simp -implicitDefEqProofs; refine callK c1 ?_; simp -implicitDefEqProofs; refine callK c2 ?_; simp -implicitDefEqProofs [h1, h2]
    · simp -implicitDefEqProofs; refine callK c1 ?_; simp -implicitDefEqProofs; refine callK c2 ?_; simp -implicitDefEqProofs [h1, h2]; refine callK c3 ?_; simp -implicitDefEqProofs
def entD (e : Ent) : D := .agg [.str e.1, atts e.2]
def mapE (E : List Ent) : List (D × D) := E.map fun e => (.str e.1, atts e.2)
def tr (p u : Nat) (E : List Ent) (X : Option (List (D × Nat) × Nat)) : List AV := [.hb (va p) 125 (.agg [.raw (.map (some u))]), .hm (.map (some u)) 9 (mapE E) X]
def TR (p u : Nat) (E : List Ent) (hs : List AV) : Prop := ∃ X, hs = tr p u E X
theorem mget_E (E : List Ent) (s : Str) : mget (mapE E) (.str s) = (getE E s).map atts := by
  unfold mget mapE getE; rw [List.find?_map]; have : ((fun p : D × D => keyEq p.1 (.str s)) ∘ fun e : Ent => ((.str e.1 : D), atts e.2)) = fun e : Ent => decide (e.1 = s) := by
    funext e; simp [keyEq]
  rw [this]; cases List.find? (fun e : Ent => decide (e.1 = s)) E <;> rfl
theorem getE_has {E : List Ent} {s : Str} : hasE E s = (getE E s).isSome := by
  unfold hasE getE; rw [Option.isSome_map, Bool.eq_iff_iff, List.any_eq_true, List.find?_isSome]
theorem mapE_len (E : List Ent) : (mapE E).length = E.length := by simp [mapE]
theorem fit_str (s : Str) : keyFit (prog.underlying 9) (.str s) = true := by
  have : prog.underlying 9 = some .string := by kernel_rfl
  rw [this]; rfl
theorem map123 : prog.underlying 123 = some (.map 9 26) := by kernel_rfl
theorem tmade_fn (p u : Nat) (E : List Ent) (X : Option (List (D × Nat) × Nat)) : CtrG prog 73 [.d (.raw (va p))] (tr p u E X) (fun r hs' => r = .d (.bool true) ∧ hs' = tr p u E X) := by
  refine fn_of_vwpG (fun _ => false) (by kernel_rfl) func73 (by kernel_rfl) rfl rfl (nbl rfl) (by kernel_rfl) rfl ?_; simp -implicitDefEqProofs [initG, tr]; refine rawFd (e := 125) (ds := [.raw (.map (some u))]) 1000000 (by simp [initG]) (by omega) (by simp) (by kernel_rfl) ?_; simp -implicitDefEqProofs [initG]; exact ⟨.d (.bool true), [1000000, 1000001], by simp, by simp [initG, tr, isH], by simp [ResG], by simp, by simp [initG, tr]⟩
theorem thas_fn (p u : Nat) (E : List Ent) (X : Option (List (D × Nat) × Nat)) (s : Str) : CtrG prog 74 [.d (.raw (va p)), .d (.str s)] (tr p u E X) (fun r hs' => r = .d (.bool (hasE E s)) ∧ hs' = tr p u E X) := by
  refine fn_of_vwpG (fun _ => false) (by kernel_rfl) func74 (by kernel_rfl) rfl rfl (nbl rfl) (by kernel_rfl) rfl ?_; have hm := mget_E E s; rw [getE_has]; simp -implicitDefEqProofs [initG, tr]; refine rawFd (e := 125) (ds := [.raw (.map (some u))]) 1000000 (by simp [initG]) (by omega) (by simp) (by kernel_rfl) ?_; simp -implicitDefEqProofs [initG]; refine lookK (m := mapE E) (E := X) 1000001 (by omega) map123 (by simp [initG]) (fit_str s) Tryz.zd_26 hm ?_; cases getE E s with
  | none =>
    simp -implicitDefEqProofs [initG]; exact ⟨.d (.bool false), [1000000, 1000001], by simp, by simp [initG, tr, isH], by simp [ResG], by simp, by simp [initG, tr]⟩
  | some a =>
    simp -implicitDefEqProofs [initG]; exact ⟨.d (.bool true), [1000000, 1000001], by simp, by simp [initG, tr, isH], by simp [ResG], by simp, by simp [initG, tr]⟩
theorem tparented_fn (p u : Nat) (E : List Ent) (X : Option (List (D × Nat) × Nat)) (s : Str) (hs : List.length s < 900000) : CtrG prog 114 [.d (.raw (va p)), .d (.str s)] (tr p u E X) (fun r hs' => r = .d (.bool (parentedE E s)) ∧ hs' = tr p u E X) := by
  refine fn_of_vwpG (fun i => i == 5000016) (by kernel_rfl) func114 (by kernel_rfl) rfl rfl (nbl rfl) (by kernel_rfl) rfl ?_; have c1 := nparent_fn s hs; unfold parentedE; generalize parentU s = q at *; obtain ⟨t, b⟩ := q; have c2 := thas_fn p u E X t; simp -implicitDefEqProofs [initG, tr]; refine callK c1 ?_; cases b with
  | false =>
    simp -implicitDefEqProofs [initG, tr]; exact ⟨.d (.bool false), [1000000, 1000001], by simp, by simp [initG, tr, isH], by simp [ResG], by simp, by simp [initG, tr]⟩
  | true =>
    simp -implicitDefEqProofs [initG, tr]; refine givB [1000000, 1000001] 1000000 c2 (by simp [initG, tr]) rfl (by simp) ?_; rintro r hs' ⟨rfl, rfl⟩; simp -implicitDefEqProofs [initG, takeH, putH, tr]; exact ⟨.d (.bool (hasE E t)), [1000000, 1000001], by simp, by simp [initG, tr, isH], by simp [ResG], by simp, by simp [initG, tr]⟩
theorem tcopied_fn (p u : Nat) (E : List Ent) (X : Option (List (D × Nat) × Nat)) (s : Str) {a : List Att} (ha : getE E s = some a) (hf : Fit2 a) : CtrG prog 77 [.d (.raw (va p)), .d (.str s)] (tr p u E X) (fun r hs' => r = .d (entD (s, sortedL a)) ∧ hs' = tr p u E X) := by
  refine fn_of_vwpGN (rs := [.cell 4 28]) (fun i => false) (by kernel_rfl) func77 (by kernel_rfl) rfl rfl (by simp) (nbl rfl) (by kernel_rfl) rfl ?_; have hm := mget_E E s; rw [ha] at hm; have c1 := sorted_fn a hf; simp only [atts] at c1; simp -implicitDefEqProofs [initG, tr]; refine rawFd (e := 125) (ds := [.raw (.map (some u))]) 1000000 (by simp [initG]) (by omega) (by simp) (by kernel_rfl) ?_; simp -implicitDefEqProofs [initG]; refine lookK (m := mapE E) (E := X) 1000001 (by omega) map123 (by simp [initG]) (fit_str s) Tryz.zd_26 hm ?_; simp -implicitDefEqProofs [initG, atts]; refine callK c1 ?_; simp -implicitDefEqProofs [initG]; exact ⟨[.d (entD (s, sortedL a))], [1000000, 1000001], by simp, by simp [initG, tr, isH], by simp [resDs, resD, entD, atts], by simp, by simp [initG, tr]⟩
def getT (E : List Ent) (s : Str) : Ent × Bool := match getE E s with
  | some a => ((s, sortedL a), true)
  | none => (([], []), false)
def FE (E : List Ent) : Prop := ∀ e ∈ E, Fit2 e.2
theorem getE_in {E : List Ent} {s : Str} {a : List Att} (h : getE E s = some a) : (s, a) ∈ E := by
  unfold getE at h; obtain ⟨e, he, rfl⟩ := Option.map_eq_some_iff.1 h; have h1 := List.find?_some he; have h2 := List.mem_of_find?_eq_some he; simp only [decide_eq_true_eq] at h1; subst h1; exact h2
theorem tget_fn (p u : Nat) (E : List Ent) (X : Option (List (D × Nat) × Nat)) (s : Str) (hf : FE E) : CtrG prog 31 [.d (.raw (va p)), .d (.str s)] (tr p u E X) (fun r hs' => r = .tup [.d (entD (getT E s).1), .d (.bool (getT E s).2)] ∧ hs' = tr p u E X) := by
  refine fn_of_vwpGN (rs := [.cell 4 28, .tmp 5]) (fun i => i == 5000007 || i == 5000012 || i == 5000018) (by kernel_rfl) func31 (by kernel_rfl) rfl rfl (by simp) (nbl rfl) (by kernel_rfl) rfl ?_; have c2 := thas_fn p u E X s; rw [getE_has] at c2; unfold getT; simp -implicitDefEqProofs [initG]; refine givB [1000000, 1000001] 1000000 (tmade_fn p u E X) (by simp [initG, tr]) rfl (by simp) ?_; rintro r hs' ⟨rfl, rfl⟩; simp -implicitDefEqProofs [initG, takeH, putH, tr]; refine givB [1000000, 1000001] 1000000 c2 (by simp [initG, tr]) rfl (by simp) ?_; rintro r hs' ⟨rfl, rfl⟩; cases ha : getE E s with
  | none =>
    simp -implicitDefEqProofs [initG, takeH, putH, tr]; exact ⟨[.d (entD ([], [])), .d (.bool false)], [1000000, 1000001], by simp, by simp [initG, tr, isH], by simp [resDs, resD, entD, atts], by simp, by simp [initG, tr]⟩
  | some a =>
    simp -implicitDefEqProofs [initG, takeH, putH, tr]; refine givB [1000000, 1000001] 1000000 (tcopied_fn p u E X s ha (hf _ (getE_in ha))) (by simp [initG, tr]) rfl (by simp) ?_; rintro r hs' ⟨rfl, rfl⟩; simp -implicitDefEqProofs [initG, takeH, putH, tr, entD]; refine ⟨rfl, rfl, ?_⟩; exact ⟨[.d (entD (s, sortedL a)), .d (.bool true)], [1000000, 1000001], by simp, by simp [initG, tr, isH], by simp [resDs, resD, entD, atts], by simp [entD], by simp [initG, tr]⟩
end Go.Proofs.Tz
namespace Go.Proofs.Tz
open Go.Vw Go.RowKit Go.Proofs Go.Sort
theorem nclean_fn (s : Str) (hs : List.length s < 900000) : Ctr prog 98 [.d (.str s)] (.tup [.d (.str (cleanU s).1), .d (.int .i64 (cleanU s).2)]) := by
  refine fn_of_vwpN (rv := .tmp 2) (rs := [.tmp 3]) (r := .d (.str (cleanU s).1)) (ys := [.d (.int .i64 (cleanU s).2)]) (fun i => false) (by kernel_rfl) func98 (by kernel_rfl) rfl rfl (by simp) (nbl rfl) (by kernel_rfl) rfl rfl ?_; have c1 := nparse_fn s hs; have c2 := nformat_fn (parseU s).1 (parseU_fitN s); unfold cleanU; obtain ⟨⟨l, e⟩, hP⟩ : ∃ r, parseU s = r := ⟨_, rfl⟩; rw [hP] at c1 c2 ⊢; simp only [pairs] at *; generalize formatU l = G at *; obtain ⟨t, g⟩ := G; simp -implicitDefEqProofs; refine callK c1 ?_; by_cases h0 : e = 0
  · simp -implicitDefEqProofs [h0]; refine callK c2 ?_; simp -implicitDefEqProofs
  · simp -implicitDefEqProofs [h0]
def refT (v : Str) : Str × Bool := ((cleanU v).1, (refOf v).isSome)
theorem refT_some {v n : Str} (h : refOf v = some n) : refT v = (n, true) := by
  unfold refT; rw [h]; unfold refOf at h; split at h
  · simp only [Option.some.injEq] at h; rw [h]; rfl
  · cases h
theorem refclean_fn (v : Str) (hs : List.length v < 900000) : Ctr prog 47 [.d (.str v)] (.tup [.d (.str (refT v).1), .d (.bool (refT v).2)]) := by
  refine fn_of_vwpN (rv := .tmp 2) (rs := [.tmp 3]) (r := .d (.str (refT v).1)) (ys := [.d (.bool (refT v).2)]) (fun i => false) (by kernel_rfl) func47 (by kernel_rfl) rfl rfl (by simp) (nbl rfl) (by kernel_rfl) rfl rfl ?_; have c1 := nclean_fn v hs; unfold refT refOf; generalize cleanU v = G at *; obtain ⟨t, g⟩ := G; simp -implicitDefEqProofs; refine callK c1 ?_; by_cases h0 : g = 0
  · by_cases h1 : t = []
    · simp -implicitDefEqProofs [h0, h1]
    · simp -implicitDefEqProofs [h0, h1]
  · simp -implicitDefEqProofs [h0]
def refsP (s : Sch) (l : List Att) (i : Nat) : List Str := ((l.take i).filter fun a => isNm s a.1).flatMap fun a => a.2.filterMap refOf
theorem refsP_next {s : Sch} {l : List Att} {i : Nat} (h : i < l.length) : refsP s l (i + 1) = refsP s l i ++ (if isNm s l[i].1 = true then l[i].2.filterMap refOf else []) := by
  unfold refsP; rw [take_s h, List.filter_append, List.flatMap_append]; by_cases hb : isNm s l[i].1 = true <;> simp [hb]
theorem refsP_len (s : Sch) (l : List Att) : ∀ (i : Nat), i ≤ l.length → (refsP s l i).length ≤ total (l.take i)
  | 0, _ => by simp [refsP]
  | i + 1, h => by
    have ih := refsP_len s l i (by omega); rw [refsP_next (show i < l.length by omega), take_s (show i < l.length by omega)]; have e : total (l.take i ++ [l[i]]) = total (l.take i) + l[i].2.length := (by simp only [total, List.map_append, List.map_cons, List.map_nil, List.sum_append, List.sum_cons, List.sum_nil, Nat.add_zero]); rw [e, List.length_append]; split
    · have := List.length_filterMap_le refOf l[i].2; omega
    · simp; omega
def FitR (A : List Att) : Prop := Fit2 A ∧ ∀ a ∈ A, ∀ v ∈ a.2, List.length v < 900000
theorem FitR.sorted {A : List Att} (h : FitR A) : FitR (sortedL A) := ⟨sorted_fit2 h.1, fun x hx v hv => by
  obtain ⟨a, ha, _, hv'⟩ := sorted_val hx hv; exact h.2 a ha v hv'⟩
def RfOI (s : Sch) (l : List Att) (i : Nat) (τ : St) : Prop := τ 2 = .box (schD s) ∧ τ 14 = .d (atts l) ∧ τ 15 = .d (.int .i64 l.length) ∧ τ 16 = .d (.int .i64 i) ∧ τ 5 = .own true 9 ((refsP s l i).map .str)
def RfOJ (s : Sch) (l : List Att) (i : Nat) (vs R : List Str) (k : Nat) (τ : St) : Prop := τ 2 = .box (schD s) ∧ τ 14 = .d (atts l) ∧ τ 15 = .d (.int .i64 l.length) ∧ τ 16 = .d (.int .i64 i) ∧ τ 26 = .d (strs vs) ∧ τ 27 = .d (.int .i64 vs.length) ∧ τ 28 = .d (.int .i64 k) ∧
  τ 5 = .own true 9 ((R ++ (vs.take k).filterMap refOf).map .str)
theorem fm_some {vs : List Str} {k : Nat} (h : k < vs.length) {n : Str} (e : refOf vs[k] = some n) : (vs.take (k + 1)).filterMap refOf = (vs.take k).filterMap refOf ++ [n] := by
  rw [take_s h, List.filterMap_append]; simp [e]
theorem fm_none {vs : List Str} {k : Nat} (h : k < vs.length) (e : refOf vs[k] = none) : (vs.take (k + 1)).filterMap refOf = (vs.take k).filterMap refOf := by
  rw [take_s h, List.filterMap_append]; simp [e]
theorem refs_fn (s : Sch) (e : Ent) (hs : FitSch s) (he : FitR e.2) : Ctr prog 12 [.d (schD s), .d (entD e)] (.d (strs (refsU s e.2))) := by
  refine fv (fun i => i == 5 || i == 40 || i == 41 || i == 3000045) func12 (by kernel_rfl) rfl rfl rfl rfl rfl ?_; obtain ⟨n, A⟩ := e; have hsd : schD s = .agg [.sl (s.1.map tyD), .sl (s.2.map clD)] := rfl; have c1 := Ctr.asData (sorted_fn A he.1); have hf := he.sorted; have hR : refsU s A = (refsP s (sortedL A) (sortedL A).length).foldl ins [] := by unfold refsU refsL refsP; rw [List.take_length]
  simp only []; rw [hR]; generalize sortedL A = l at *; simp only [atts] at c1; simp -implicitDefEqProofs [entD, atts]; refine callK c1 ?_; simp -implicitDefEqProofs; obtain ⟨⟨⟨hl, hl2⟩, hl3⟩, hv⟩ := hf; refine loopN l.length (RfOI s l) ⟨by simp, by simp [atts], by simp, by simp, by simp [refsP]⟩ ?_; rintro i τ hi ⟨g2, g14, g15, g16, g5⟩; rw [hsd] at g2; have hL := refsP_len s l i hi; by_cases hlt : i < l.length
  · have hlt' : (i : Int) < l.length := (by omega); have hN := refsP_next (s := s) hlt; have ht := total_take l i hlt; obtain ⟨hn1, hn2⟩ := hl2 _ (gmm hlt); have hv1 := hv _ (gmm hlt); generalize hx : l[i] = a at *; obtain ⟨nm, vs⟩ := a; have c2 := isName_fn s hs nm (by simp only at hn1; omega); rw [hsd] at c2; simp only at hN hn2 hv1 ht; generalize hRR : refsP s l i = R at *; cases hb : isNm s nm with
    | false =>
      rw [hb] at hN c2; simp only [Bool.false_eq_true, if_false, List.append_nil] at hN; simp -implicitDefEqProofs [g2, g14, g15, g16, g5, atts, hlt, hlt', hx, att, strs]; refine callK c2 ?_; simp -implicitDefEqProofs [g2, g14, g15, g16, g5]; (repeat refine ai (by omega) ?_); exact again hlt ⟨by simp [g2, hsd], by simp [g14, atts], by simp [g15], by simp, by simp [g5, hN]⟩
    | true =>
      rw [hb] at hN c2; simp only [if_true] at hN; simp -implicitDefEqProofs [g2, g14, g15, g16, g5, atts, hlt, hlt', hx, att, strs]; refine callK c2 ?_; simp -implicitDefEqProofs [g2, g14, g15, g16, g5]; (repeat refine ai (by omega) ?_); refine loopN vs.length (RfOJ s l i vs R) ⟨by simp [g2, hsd], by simp [g14, atts], by simp [g15], by simp [g16], by simp [strs], by simp, by simp, by simp [g5]⟩ ?_; rintro k τ' hk ⟨q2, q14, q15, q16, q26, q27, q28, q5⟩; rw [hsd] at q2; by_cases hkt : k < vs.length
      · have hkt' : (k : Int) < vs.length := (by omega); have c3 := refclean_fn vs[k] (hv1 _ (gmm hkt)); have hfl := List.length_filterMap_le refOf (vs.take k); rw [List.length_take] at hfl; cases hr : refOf vs[k] with
        | some m =>
          have hm := fm_some hkt hr; rw [refT_some hr] at c3; generalize (vs.take k).filterMap refOf = V at *; simp -implicitDefEqProofs [q2, q14, q15, q16, q26, q27, q28, q5, strs, hkt, hkt']; refine callK c3 ?_; simp -implicitDefEqProofs [q2, q14, q15, q16, q26, q27, q28, q5]; (repeat refine ai (by omega) ?_); exact again hkt ⟨by simp [q2, hsd], by simp [q14], by simp [q15], by simp [q16], by simp [q26, strs], by simp [q27], by simp, by simp [hm]⟩
        | none =>
          have hm := fm_none hkt hr; have e3 : (refT vs[k]).2 = false := (by simp [refT, hr]); generalize refT vs[k] = RT at *; obtain ⟨r1, r2⟩ := RT; simp only at e3; subst e3; generalize (vs.take k).filterMap refOf = V at *; simp -implicitDefEqProofs [q2, q14, q15, q16, q26, q27, q28, q5, strs, hkt, hkt']; refine callK c3 ?_; simp -implicitDefEqProofs [q2, q14, q15, q16, q26, q27, q28, q5]; (repeat refine ai (by omega) ?_); exact again hkt ⟨by simp [q2, hsd], by simp [q14], by simp [q15], by simp [q16], by simp [q26, strs], by simp [q27], by simp, by simp [q5, hm]⟩
      · have hkt' : ¬ (k : Int) < vs.length := (by omega); rw [ttl (by omega)] at q5; simp -implicitDefEqProofs [q2, q14, q15, q16, q26, q27, q28, q5, hkt, hkt']; (repeat refine ai (by omega) ?_); exact again hlt ⟨by simp [q2, hsd], by simp [q14, atts], by simp [q15], by simp, by simp [q5, hN]⟩
  · have hlt' : ¬ (i : Int) < l.length := (by omega); have hie : i = l.length := (by omega); subst hie; rw [List.take_length] at hL; rw [← compact_ins]; generalize refsP s l l.length = R at *; have c4 := sort_fn R (by omega); have c5 := compact_fn (sortS R) (by simp [sortS]; omega); generalize Go.Lib.compact (sortS R) = Z at *; generalize sortS R = Y at *; simp -implicitDefEqProofs [g2, g14, g15, g16, g5, hlt, hlt']; refine inKb c4 ?_; simp -implicitDefEqProofs [g2, g14, g15, g16, g5]; refine callK c5 ?_; simp -implicitDefEqProofs [strs]
structure Seen (K ss : List Str) (seen : List D) : Prop where
  eq : seen = ss.map .str
  nd : ss.Nodup
  sub : ∀ s ∈ ss, s ∈ K
theorem Seen.nil (K : List Str) : Seen K [] [] := ⟨rfl, List.nodup_nil, by simp⟩
theorem Seen.mem {K ss : List Str} {seen : List D} (h : Seen K ss seen) {s : Str} : D.str s ∈ seen ↔ s ∈ ss := by
  rw [h.eq]; simp
theorem Seen.next {K ss : List Str} {seen : List D} (h : Seen K ss seen) {s : Str} (hs : s ∈ K) (hn : D.str s ∉ seen) : Seen K (ss ++ [s]) (seen ++ [.str s]) := by
  rw [h.mem] at hn; refine ⟨by rw [h.eq]; simp, ?_, ?_⟩
  · rw [List.nodup_append]; refine ⟨h.nd, by simp, ?_⟩; intro a ha b hb; simp only [List.mem_singleton] at hb; subst hb; rintro rfl; exact hn ha
  · intro x hx; rcases List.mem_append.1 hx with hx | hx
    · exact h.sub x hx
    · simp only [List.mem_singleton] at hx; subst hx; exact hs
theorem Seen.le {K ss : List Str} {seen : List D} (h : Seen K ss seen) (hK : K.Nodup) : ss.length ≤ K.length := by
  have hp : ss.Perm (K.filter fun s => decide (s ∈ ss)) := (List.perm_ext_iff_of_nodup h.nd (hK.filter _)).2 fun s => by
    simp only [List.mem_filter, decide_eq_true_eq]; exact ⟨fun hs => ⟨h.sub s hs, hs⟩, fun hs => hs.2⟩
  rw [hp.length_eq]; exact List.length_filter_le _ _
theorem Seen.lt {K ss : List Str} {seen : List D} (h : Seen K ss seen) (hK : K.Nodup) {s : Str} (hs : s ∈ K) (hn : D.str s ∉ seen) : ss.length < K.length := by
  have := (h.next hs hn).le hK; simp only [List.length_append, List.length_singleton] at this; omega
theorem Seen.all {K ss : List Str} {seen : List D} (h : Seen K ss seen) (hK : K.Nodup) (ha : ∀ s ∈ K, D.str s ∈ seen) : ss.Perm K :=
  (List.perm_ext_iff_of_nodup h.nd hK).2 fun s => ⟨h.sub s, fun hs => h.mem.1 (ha s hs)⟩
theorem mapE_mem {E : List Ent} {k v : D} (h : (k, v) ∈ mapE E) : ∃ s a, k = .str s ∧ v = atts a ∧ (s, a) ∈ E := by
  obtain ⟨⟨s, a⟩, he, h⟩ := List.mem_map.1 h; simp only [Prod.mk.injEq] at h; exact ⟨s, a, h.1.symm, h.2.symm, he⟩
theorem keys_mem {E : List Ent} {s : Str} {a : List Att} (h : (s, a) ∈ E) : s ∈ keysE E := List.mem_map.2 ⟨_, h, rfl⟩
theorem mapE_all {E : List Ent} {seen : List D} (h : ∀ p ∈ mapE E, p.1 ∈ seen) : ∀ s ∈ keysE E, D.str s ∈ seen := by
  intro s hs; obtain ⟨e, he, rfl⟩ := List.mem_map.1 hs; exact h (.str e.1, atts e.2) (List.mem_map.2 ⟨e, he, rfl⟩)
def NmI (p u : Nat) (E : List Ent) (f : Str → Bool) (g : FuncId) (caps : List D) (k : Nat) (τ : St) : Prop := ∃ ss seen e, Seen (keysE E) ss seen ∧ ss.length = k ∧ τ 0 = .d (.raw (va p)) ∧ τ 1 = .d (.clo g caps) ∧ τ 5 = .own true 9 ((ss.filter f).map .str) ∧ τ 11 = .mit (.map (some u)) e seen ∧
  τ 1000000 = .hb (va p) 125 (.agg [.raw (.map (some u))]) ∧ τ 1000001 = .hm (.map (some u)) 9 (mapE E) (some e)
theorem filter_snoc {α : Type} (f : α → Bool) (l : List α) (x : α) : (l ++ [x]).filter f = l.filter f ++ (if f x = true then [x] else []) := by
  rw [List.filter_append]; by_cases h : f x = true <;> simp [h]
theorem tnames_fn (p u : Nat) (E : List Ent) (X : Option (List (D × Nat) × Nat)) (hE : OrdE E) (hl : E.length < 100000) (f : Str → Bool) (g : FuncId) (caps : List D) (hc : (caps.all fun c => !c.isAgg) = true) (hg : ∀ s ∈ keysE E, Ctr prog g ([.d (.str s)] ++ caps.map .d) (.d (.bool (f s))))
    (hsort : ∀ l : List Str, l.Perm ((keysE E).filter f) → l.length < 100000 → CtrI prog 70 9 (l.map .str) [.d (.clo 71 [])] (((keysE E).filter f).map .str)) :
    CtrG prog 75 [.d (.raw (va p)), .d (.clo g caps)] (tr p u E X) (fun r hs' => r = .own true 9 (((keysE E).filter f).map .str) ∧ TR p u E hs') := by
  refine fn_of_vwpG (fun i => i == 4 || i == 5 || i == 22 || i == 3000024) (by kernel_rfl) func75 (by kernel_rfl) rfl rfl (nbl rfl) (by kernel_rfl) rfl ?_; simp -implicitDefEqProofs [initG, tr]; refine rawFd (e := 125) (ds := [.raw (.map (some u))]) 1000000 (by simp [initG]) (by omega) (by simp) (by kernel_rfl) ?_; simp -implicitDefEqProofs [initG]; refine rngK 1000001 map123 (by simp [initG]; exact ⟨rfl, rfl⟩) (fun e => ?_); simp -implicitDefEqProofs [initG]; refine loopN (keysE E).length (NmI p u E f g caps) ⟨[], [], e, Seen.nil _, rfl, by simp [initG], by simp [initG], by simp [initG], by simp [initG], by simp [initG], by simp [initG]⟩ ?_; clear e; rintro k τ hk ⟨ss, seen, e, hS, hsl, g0, g1, g5, g11, gA, gB⟩; simp -implicitDefEqProofs [g0, g1, g5, g11]; refine nxtK 1000001 (by simp [gB]; exact ⟨rfl, rfl⟩) (fun x v hm hn => ?_) (fun hall => ?_)
  · obtain ⟨s, a, rfl, rfl, hin⟩ := mapE_mem hm; have hin' := keys_mem hin; have hS2 := hS.next hin' hn; have hlt := hS.lt (NS.nodup hE) hin' hn; rw [hsl] at hlt; have c1 := hg s hin'; simp -implicitDefEqProofs [g0, g1, g5, g11, gA, gB]; refine entK (kt := 9) 1000001 (by simp [gB]) hm ?_; simp -implicitDefEqProofs [g0, g1, g5, g11, gA, gB, hc]; refine ⟨fun x hx => by
      have := List.all_eq_true.1 hc x hx; cases x <;> first | rfl | simp [D.isAgg] at this, callK c1 ?_⟩
    have hfs := filter_snoc f ss s; have hll : (ss.filter f).length ≤ E.length := by
      have h1 := List.length_filter_le f ss; have h2 := hS.le (NS.nodup hE); simp only [keysE, List.length_map] at h2; omega
    generalize hT2 : (ss ++ [s]).filter f = T2 at *; generalize hT : ss.filter f = T at *; by_cases hb : f s = true
    · rw [if_pos hb] at hfs; simp -implicitDefEqProofs [g0, g1, g5, g11, gA, gB, hb]; (repeat refine ai (by omega) ?_); exact again hlt ⟨ss ++ [s], seen ++ [.str s], e, hS2, by simp [hsl], by simp [g0], by simp [g1], by simp [hT2, hfs], by simp, by simp [gA], by simp [gB]⟩
    · rw [if_neg hb, List.append_nil] at hfs; simp -implicitDefEqProofs [g0, g1, g5, g11, gA, gB, hb]; exact again hlt ⟨ss ++ [s], seen ++ [.str s], e, hS2, by simp [hsl], by simp [g0], by simp [g1], by simp [g5, hT2, hfs], by simp, by simp [gA], by simp [gB]⟩
  · have hp := (hS.all (NS.nodup hE) (mapE_all hall)).filter f; have hns : NS ((keysE E).filter f) := List.Pairwise.sublist List.filter_sublist hE; have hll : (ss.filter f).length < 100000 := by
      have h1 := List.length_filter_le f ss; have h2 := hS.le (NS.nodup hE); simp only [keysE, List.length_map] at h2; omega
    have c1 := hsort _ hp hll; generalize ss.filter f = T at *; generalize (keysE E).filter f = T2 at *; simp -implicitDefEqProofs [g0, g1, g5, g11, gA, gB]; refine inKb c1 ?_; simp -implicitDefEqProofs [g0, g1, g5, g11, gA, gB]; exact ⟨.own true 9 (T2.map .str), [1000000, 1000001], by simp, by simp [gA, isH], by simp [ResG], by simp, by simp [gA, TR, tr]⟩
end Go.Proofs.Tz
/-
  DERIVED: THE SHELF's CONTRACTS AT THIS DUMP, IN PLAIN WORDS (tools/lay-plain.mjs out of 'JtShP.lean', which tools/lay-shelf.mjs wrote): THE SAME DECLARATIONS UNDER THE SAME NAMES: 'import', 'namespace', 'open', 'def', 'theorem' AND NOTHING ELSE: no command of the shelf's: FOR A HAND-IN. Each laying: the table of numbers ('.._ren') and one theorem, a field a fact of the dump's own or the kernel's comparison; each contract: ONE APPLICATION.
-/
namespace Go.Proofs
open Go.Shelf
def Tryz.layT_ren : Go.Shelf.Ren := ⟨fun | 6 => 70 | 15 => 100 | 14 => 120 | 28 => 153 | 29 => 154 | 20 => 168 | 21 => 169 | 22 => 170 | 23 => 171 | 24 => 172 | 25 => 173 | 26 => 174 | 27 => 175 | 46 => 207 | 47 => 194 | 48 => 195 | 49 => 208 | 50 => 209 | 57 => 224 | n => n, fun | 22 => 33 | 24 => 9 | 25 => 109 | 3 => 3 | 39 => 137 | 0 => 0 | 53 => 176 | 55 => 178 | 4 => 4 | 46 => 169 | 45 => 168 | 50 => 173 | 5 => 5 | 9 => 9 | 66 => 208 | 70 => 212 | 76 => 228 | 77 => 229 | n => n, fun | n => n⟩
theorem Tryz.layT : Go.Proofs.SlLaysF.n6 prog Tryz.layT_ren := {
  mixed := by kernel_rfl
  f6 := ⟨Tryz.f70.name, by decide, func70.trans (congrArg some (by kernel_rfl))⟩
  f14 := ⟨Tryz.f120.name, by decide, func120.trans (congrArg some (by kernel_rfl))⟩
  f15 := func100.trans (congrArg some (by kernel_rfl))
  f20 := ⟨Tryz.f168.name, by decide, func168.trans (congrArg some (by kernel_rfl))⟩
  f21 := ⟨Tryz.f169.name, by decide, func169.trans (congrArg some (by kernel_rfl))⟩
  f22 := ⟨Tryz.f170.name, by decide, func170.trans (congrArg some (by kernel_rfl))⟩
  f23 := ⟨Tryz.f171.name, by decide, func171.trans (congrArg some (by kernel_rfl))⟩
  f24 := ⟨Tryz.f172.name, by decide, func172.trans (congrArg some (by kernel_rfl))⟩
  f25 := ⟨Tryz.f173.name, by decide, func173.trans (congrArg some (by kernel_rfl))⟩
  f26 := ⟨Tryz.f174.name, by decide, func174.trans (congrArg some (by kernel_rfl))⟩
  f27 := ⟨Tryz.f175.name, by decide, func175.trans (congrArg some (by kernel_rfl))⟩
  f28 := func153.trans (congrArg some (by kernel_rfl))
  f29 := func154.trans (congrArg some (by kernel_rfl))
  f46 := ⟨Tryz.f207.name, by decide, func207.trans (congrArg some (by kernel_rfl))⟩
  f47 := func194.trans (congrArg some (by kernel_rfl))
  f48 := func195.trans (congrArg some (by kernel_rfl))
  f49 := ⟨Tryz.f208.name, by decide, func208.trans (congrArg some (by kernel_rfl))⟩
  f50 := ⟨Tryz.f209.name, by decide, func209.trans (congrArg some (by kernel_rfl))⟩
  f57 := ⟨Tryz.f224.name, by decide, func224.trans (congrArg some (by kernel_rfl))⟩
  t0 := Tryz.underlying0
  a0 := Tryz.isAgg0
  z0 := Tryz.sizeOf0
  v0 := Tryz.zeroValue0
  t3 := Tryz.underlying3
  a3 := Tryz.isAgg3
  z3 := Tryz.sizeOf3
  v3 := Tryz.zeroValue3
  t4 := Tryz.underlying4
  a4 := Tryz.isAgg4
  z4 := Tryz.sizeOf4
  v4 := Tryz.zeroValue4
  t5 := Tryz.underlying5
  a5 := Tryz.isAgg5
  z5 := Tryz.sizeOf5
  v5 := Tryz.zeroValue5
  t9 := Tryz.underlying9
  a9 := Tryz.isAgg9
  z9 := Tryz.sizeOf9
  v9 := Tryz.zeroValue9
  t22 := Tryz.underlying33
  a22 := Tryz.isAgg33
  z22 := Tryz.sizeOf33
  v22 := Tryz.zeroValue33
  a24 := Tryz.isAgg9
  z24 := Tryz.sizeOf9
  t25 := Tryz.underlying109
  a25 := Tryz.isAgg109
  z25 := Tryz.sizeOf109
  v25 := Tryz.zeroValue109
  t39 := Tryz.underlying137
  a39 := Tryz.isAgg137
  z39 := Tryz.sizeOf137
  v39 := Tryz.zeroValue137
  t45 := Tryz.underlying168
  a45 := Tryz.isAgg168
  z45 := Tryz.sizeOf168
  v45 := Tryz.zeroValue168
  t46 := Tryz.underlying169
  a46 := Tryz.isAgg169
  z46 := Tryz.sizeOf169
  v46 := Tryz.zeroValue169
  t50 := Tryz.underlying173
  a50 := Tryz.isAgg173
  z50 := Tryz.sizeOf173
  v50 := Tryz.zeroValue173
  t53 := Tryz.underlying176
  a53 := Tryz.isAgg176
  z53 := Tryz.sizeOf176
  v53 := Tryz.zeroValue176
  t55 := Tryz.underlying178
  a55 := Tryz.isAgg178
  z55 := Tryz.sizeOf178
  v55 := Tryz.zeroValue178
  t66 := Tryz.underlying208
  a66 := Tryz.isAgg208
  z66 := Tryz.sizeOf208
  v66 := Tryz.zeroValue208
  t70 := Tryz.underlying212
  a70 := Tryz.isAgg212
  z70 := Tryz.sizeOf212
  v70 := Tryz.zeroValue212
  t76 := Tryz.underlying228
  a76 := Tryz.isAgg228
  z76 := Tryz.sizeOf228
  v76 := Tryz.zeroValue228
  t77 := Tryz.underlying229
  a77 := Tryz.isAgg229
  z77 := Tryz.sizeOf229
  v77 := Tryz.zeroValue229 }
def Tryz.layU_ren : Go.Shelf.Ren := ⟨fun | 6 => 70 | 15 => 100 | 14 => 120 | 28 => 153 | 29 => 154 | 20 => 168 | 21 => 169 | 22 => 170 | 23 => 171 | 24 => 172 | 25 => 173 | 26 => 174 | 27 => 175 | 46 => 207 | 47 => 194 | 48 => 195 | 49 => 208 | 50 => 209 | 57 => 224 | n => n, fun | 22 => 33 | 24 => 9 | 25 => 109 | 3 => 3 | 39 => 137 | 0 => 0 | 53 => 176 | 55 => 178 | 4 => 4 | 46 => 169 | 45 => 168 | 50 => 173 | 5 => 5 | 9 => 9 | 66 => 208 | 70 => 212 | 76 => 228 | 77 => 229 | n => n, fun | n => n⟩
theorem Tryz.layU : Go.Proofs.SlLaysF0.n6 prog Tryz.layU_ren := {
  mixed := by kernel_rfl
  f6 := ⟨Tryz.f70.name, by decide, func70.trans (congrArg some (by kernel_rfl))⟩
  f14 := ⟨Tryz.f120.name, by decide, func120.trans (congrArg some (by kernel_rfl))⟩
  f15 := func100.trans (congrArg some (by kernel_rfl))
  f20 := ⟨Tryz.f168.name, by decide, func168.trans (congrArg some (by kernel_rfl))⟩
  f21 := ⟨Tryz.f169.name, by decide, func169.trans (congrArg some (by kernel_rfl))⟩
  f22 := ⟨Tryz.f170.name, by decide, func170.trans (congrArg some (by kernel_rfl))⟩
  f23 := ⟨Tryz.f171.name, by decide, func171.trans (congrArg some (by kernel_rfl))⟩
  f24 := ⟨Tryz.f172.name, by decide, func172.trans (congrArg some (by kernel_rfl))⟩
  f25 := ⟨Tryz.f173.name, by decide, func173.trans (congrArg some (by kernel_rfl))⟩
  f26 := ⟨Tryz.f174.name, by decide, func174.trans (congrArg some (by kernel_rfl))⟩
  f27 := ⟨Tryz.f175.name, by decide, func175.trans (congrArg some (by kernel_rfl))⟩
  f28 := func153.trans (congrArg some (by kernel_rfl))
  f29 := func154.trans (congrArg some (by kernel_rfl))
  f46 := ⟨Tryz.f207.name, by decide, func207.trans (congrArg some (by kernel_rfl))⟩
  f47 := func194.trans (congrArg some (by kernel_rfl))
  f48 := func195.trans (congrArg some (by kernel_rfl))
  f49 := ⟨Tryz.f208.name, by decide, func208.trans (congrArg some (by kernel_rfl))⟩
  f50 := ⟨Tryz.f209.name, by decide, func209.trans (congrArg some (by kernel_rfl))⟩
  f57 := ⟨Tryz.f224.name, by decide, func224.trans (congrArg some (by kernel_rfl))⟩
  t0 := Tryz.underlying0
  a0 := Tryz.isAgg0
  z0 := Tryz.sizeOf0
  v0 := Tryz.zeroValue0
  t3 := Tryz.underlying3
  a3 := Tryz.isAgg3
  z3 := Tryz.sizeOf3
  v3 := Tryz.zeroValue3
  t4 := Tryz.underlying4
  a4 := Tryz.isAgg4
  z4 := Tryz.sizeOf4
  v4 := Tryz.zeroValue4
  t5 := Tryz.underlying5
  a5 := Tryz.isAgg5
  z5 := Tryz.sizeOf5
  v5 := Tryz.zeroValue5
  t9 := Tryz.underlying9
  a9 := Tryz.isAgg9
  z9 := Tryz.sizeOf9
  v9 := Tryz.zeroValue9
  t22 := Tryz.underlying33
  a22 := Tryz.isAgg33
  z22 := Tryz.sizeOf33
  v22 := Tryz.zeroValue33
  t25 := Tryz.underlying109
  a25 := Tryz.isAgg109
  z25 := Tryz.sizeOf109
  v25 := Tryz.zeroValue109
  t39 := Tryz.underlying137
  a39 := Tryz.isAgg137
  z39 := Tryz.sizeOf137
  v39 := Tryz.zeroValue137
  t45 := Tryz.underlying168
  a45 := Tryz.isAgg168
  z45 := Tryz.sizeOf168
  v45 := Tryz.zeroValue168
  t46 := Tryz.underlying169
  a46 := Tryz.isAgg169
  z46 := Tryz.sizeOf169
  v46 := Tryz.zeroValue169
  t50 := Tryz.underlying173
  a50 := Tryz.isAgg173
  z50 := Tryz.sizeOf173
  v50 := Tryz.zeroValue173
  t53 := Tryz.underlying176
  a53 := Tryz.isAgg176
  z53 := Tryz.sizeOf176
  v53 := Tryz.zeroValue176
  t55 := Tryz.underlying178
  a55 := Tryz.isAgg178
  z55 := Tryz.sizeOf178
  v55 := Tryz.zeroValue178
  t66 := Tryz.underlying208
  a66 := Tryz.isAgg208
  z66 := Tryz.sizeOf208
  v66 := Tryz.zeroValue208
  t70 := Tryz.underlying212
  a70 := Tryz.isAgg212
  z70 := Tryz.sizeOf212
  v70 := Tryz.zeroValue212
  t76 := Tryz.underlying228
  a76 := Tryz.isAgg228
  z76 := Tryz.sizeOf228
  v76 := Tryz.zeroValue228
  t77 := Tryz.underlying229
  a77 := Tryz.isAgg229
  z77 := Tryz.sizeOf229
  v77 := Tryz.zeroValue229 }
end Go.Proofs
namespace Go.Proofs.Tz
open Go.Vw Go.RowKit Go.Proofs Go.Sort
abbrev SName := {s : Str // List.length s < 900000}
instance : Inhabited SName := ⟨⟨[], by simp⟩⟩
def cmpSN (x y : SName) : Int := cmpN x.1 y.1
theorem swo_SN : SWO (ltOf cmpSN) where
  irrefl x := swo_names.irrefl x.1
  trans x y z := swo_names.trans x.1 y.1 z.1
  ntrans x y z := swo_names.ntrans x.1 y.1 z.1
theorem sortN_fn (l : List SName) (hl : l.length < 1000000) : CtrI prog 70 9 (l.map fun s => .str s.1) [.d (.clo 71 [])] ((sortL cmpSN l).map fun s => .str s.1) := by
  refine sortOne_fn Tryz.layT 9 (by kernel_rfl) (enters_of func70 (by kernel_rfl) rfl) (fun s : SName => .str s.1) (fun s : SName => Value.string ⟨s.1.toArray⟩) ⟨fun _ => rfl, fun _ => rfl, fun w L x cs => by simp [Rep], fun x => by simp [Value.oneCell']⟩ cmpSN swo_SN 71 [] (by simp) (fun x y => ?_) (fun w cb => ?_) l hl
  · exact ncompare_fn x.1 y.1 x.2 y.2
  · exact AnyF.slices_SortFunc_none Tryz.layU none 0 _ w
theorem sortSN {A : List SName} {K : List Str} (hK : NS K) (hp : (A.map (·.1)).Perm K) : (sortL cmpSN A).map (·.1) = K := by
  obtain ⟨h1, h2⟩ := sortL_perm swo_SN A; have hBl : ((sortL cmpSN A).map (·.1)).Perm K := (h1.map _).trans hp; have hn : ((sortL cmpSN A).map (·.1)).Nodup := hBl.nodup_iff.2 hK.nodup; refine NS_ext (List.pairwise_iff_getElem.2 fun i j hi hj hij => ?_) hK (fun x => hBl.mem_iff); have hj' : j < (sortL cmpSN A).length := (by simpa using hj); have hi' : i < (sortL cmpSN A).length := (by omega); have h3 : ¬ cmpN (sortL cmpSN A)[j].1 (sortL cmpSN A)[i].1 < 0 := by
    exact of_decide_eq_false (h2 i j hij hj')
  have h4 := cmpN_swap (sortL cmpSN A)[i].1 (sortL cmpSN A)[j].1; have h5 : cmpN (sortL cmpSN A)[i].1 (sortL cmpSN A)[j].1 ≠ 0 := fun q => by
    have := (List.pairwise_iff_getElem.1 hn) i j hi hj hij; simp only [List.getElem_map] at this; exact this (cmpN_zero.1 q)
  simp only [List.getElem_map]; omega
theorem lift_SN : ∀ (l : List Str), (∀ s ∈ l, List.length s < 900000) → ∃ A : List SName, A.map (·.1) = l
  | [], _ => ⟨[], rfl⟩
  | s :: l, h => by
    obtain ⟨A, hA⟩ := lift_SN l (fun x hx => h x (by simp [hx])); exact ⟨⟨s, h s (by simp)⟩ :: A, by simp [hA]⟩
theorem sortNames_fn (l K : List Str) (hK : NS K) (hp : l.Perm K) (hl : l.length < 1000000) (hs : ∀ s ∈ K, List.length s < 900000) : CtrI prog 70 9 (l.map .str) [.d (.clo 71 [])] (K.map .str) := by
  obtain ⟨A, rfl⟩ := lift_SN l (fun s h => hs s (hp.mem_iff.1 h)); have h := sortN_fn A (by simpa using hl); have e2 := sortSN hK hp; have e3 : (sortL cmpSN A).map (fun s => (D.str s.1)) = K.map .str := by
    rw [← e2, List.map_map]; rfl
  rw [e3] at h; rw [List.map_map]; exact h
theorem subQ_fn (x s : Str) (hx : List.length x < 900000) (hs : List.length s < 900000) : Ctr prog 76 ([.d (.str x)] ++ [D.ref (.str s)].map .d) (.d (.bool (underU x s))) := by
  refine fv (fun _ => false) func76 (by kernel_rfl) rfl rfl rfl rfl rfl ?_; have c1 := nunder_fn x s hx hs; simp -implicitDefEqProofs; refine callK c1 ?_; simp -implicitDefEqProofs
theorem TI.klen {E : List Ent} (h : TI E) {s : Str} (hs : s ∈ keysE E) : List.length s < 900000 := by
  have := proper_len (h.key hs); omega
theorem TI.sorts {E : List Ent} (h : TI E) (f : Str → Bool) (l : List Str) (hp : l.Perm ((keysE E).filter f)) (hl : l.length < 100000) : CtrI prog 70 9 (l.map .str) [.d (.clo 71 [])] (((keysE E).filter f).map .str) :=
  sortNames_fn l _ (List.Pairwise.sublist List.filter_sublist h.ord) hp (by omega) (fun s hs => h.klen ((List.mem_filter.1 hs).1))
theorem keys_sub {E : List Ent} (h : TI E) (b : Str) : (keysE E).filter (fun x => underU x b) = keysE (subE E b) := by
  unfold keysE subE; rw [List.filter_map]; congr 1
  refine List.filter_congr fun e he => ?_
  by_cases hb : b = []
  · subst hb; have := proper_valid (h.proper e he); simp [under_nil, this]
  · simp [hb]
theorem sub_at {E : List Ent} (h : TI E) (b : Str) {k : Nat} (hk : k < (subE E b).length) : getE E (subE E b)[k].1 = some (subE E b)[k].2 ∧ sortedL (subE E b)[k].2 = (subE E b)[k].2 ∧ (subE E b)[k] ∈ E := by
  have hm : (subE E b)[k] ∈ E := (List.mem_filter.1 (gmm hk)).1; exact ⟨getE_mem h.ord hm, h.normal _ hm, hm⟩
theorem sub_len {E : List Ent} (h : TI E) (b : Str) : (subE E b).length ≤ 256 := Nat.le_trans (List.length_filter_le _ _) h.few
def SuI (p u : Nat) (E S : List Ent) (k : Nat) (τ : St) : Prop := ∃ X, τ 0 = .d (.raw (va p)) ∧ τ 23 = .own true 9 ((keysE S).map .str) ∧ τ 24 = .d (.int .i64 S.length) ∧ τ 25 = .d (.int .i64 k) ∧ τ 5 = .own true 28 ((S.take k).map entD) ∧
  τ 1000000 = .hb (va p) 125 (.agg [.raw (.map (some u))]) ∧ τ 1000001 = .hm (.map (some u)) 9 (mapE E) X
theorem tsubtree_fn (p u : Nat) (E : List Ent) (X : Option (List (D × Nat) × Nat)) (hE : TI E) (hF : FE E) (s : Str) (hs : List.length s < 900000) : CtrG prog 29 [.d (.raw (va p)), .d (.str s)] (tr p u E X) (fun r hs' => r = .own true 28 ((subtreeE E s).map entD) ∧ TR p u E hs') := by
  refine fn_of_vwpG (fun i => i == 4 || i == 5 || i == 34 || i == 5000009 || i == 5000017 || i == 5000023 || i == 5000032) (by kernel_rfl) func29 (by kernel_rfl) rfl rfl (nbl rfl) (by kernel_rfl) rfl ?_; have c2 := thas_fn p u E X s; have c3 := tnames_fn p u E X hE.ord (by have := hE.few; omega) (fun x => underU x s) 76 [.ref (.str s)] rfl (fun x hx => subQ_fn x s (hE.klen hx) hs) (hE.sorts _); rw [keys_sub hE] at c3; have hsub : subtreeE E s = if s ≠ [] ∧ hasE E s = false then [] else subE E s := rfl
  have hat := fun k hk => @sub_at E hE s k hk
  have hln := sub_len hE s; generalize subE E s = S at *; simp -implicitDefEqProofs [initG, tr]; refine givB [1000000, 1000001] 1000000 (tmade_fn p u E X) (by simp [initG, tr]) rfl (by simp) ?_; rintro r hs' ⟨rfl, rfl⟩; by_cases hn : s ≠ [] ∧ hasE E s = false
  · rw [if_pos hn] at hsub; rw [hsub]; rw [hn.2] at c2; have h0 := hn.1; clear c3; simp -implicitDefEqProofs [initG, takeH, putH, tr, h0]; refine givB [1000000, 1000001] 1000000 c2 (by simp [initG, tr]) rfl (by simp) ?_; rintro r hs' ⟨rfl, rfl⟩; simp -implicitDefEqProofs [initG, takeH, putH, tr]; exact ⟨.own true 28 [], [1000000, 1000001], by simp, by simp [initG, tr, isH], by simp [ResG], by simp, X, by simp [initG, tr]⟩
  rw [if_neg hn] at hsub; rw [hsub]; by_cases h0 : s = []
  · subst h0; simp -implicitDefEqProofs [initG, takeH, putH, tr]; refine givB [1000000, 1000001] 1000000 c3 (by simp [initG, tr]) rfl (by simp) ?_; rintro r hs' ⟨rfl, X', rfl⟩; simp -implicitDefEqProofs [initG, takeH, putH, tr]; refine loopN S.length (SuI p u E S) ⟨X', by simp [initG], by simp [initG], by simp [initG, keysE], by simp [initG], by simp [initG], by simp [initG], by simp [initG]⟩ ?_; clear X'; rintro k τ hk ⟨X', g0, g23, g24, g25, g5, gA, gB⟩; by_cases hlt : k < S.length
    · have hlt' : (k : Int) < S.length := (by omega); have hke : k < (keysE S).length := (by simpa [keysE] using hlt); have hks : (keysE S)[k] = S[k].1 := (by simp [keysE]); obtain ⟨a1, a2, a3⟩ := hat k hlt; have c4 := tcopied_fn p u E X' S[k].1 a1 (hF _ a3); rw [a2] at c4; have hts := take_s hlt; have hl3 : (S.take k).length ≤ 256 := by simp; omega
      rw [show ((S[k].1, S[k].2) : Ent) = S[k] from rfl] at c4; generalize hT2 : S.take (k + 1) = T2 at *; generalize S.take k = T at *; generalize hK : keysE S = KS at *; simp -implicitDefEqProofs [g0, g23, g24, g25, g5, gA, gB, hlt, hlt', hke, hks]; refine givB [1000000, 1000001] 1000000 c4 (by simp [gA, gB, tr]) rfl (by simp) ?_; rintro r hs' ⟨rfl, rfl⟩; simp -implicitDefEqProofs [g0, g23, g24, g25, g5, gA, gB, takeH, putH, tr]; (repeat refine ai (by first | omega | rfl) ?_); exact again hlt ⟨X', by simp [g0], by simp [g23, hK], by simp [g24], by simp, by simp [hT2, hts], by simp, by simp⟩
    · have hlt' : ¬ (k : Int) < S.length := (by omega); rw [ttl (by omega)] at g5; simp -implicitDefEqProofs [g0, g23, g24, g25, g5, gA, gB, hlt, hlt']; exact ⟨.own true 28 (S.map entD), [1000000, 1000001], by simp, by simp [gA, gB, isH], by simp [ResG], by simp, X', by simp [gA, gB, tr]⟩
  · have hh : hasE E s = true := by
      cases h : hasE E s with
      | true => rfl
      | false => exact absurd ⟨h0, h⟩ hn
    rw [hh] at c2; simp -implicitDefEqProofs [initG, takeH, putH, tr, h0]; refine givB [1000000, 1000001] 1000000 c2 (by simp [initG, tr]) rfl (by simp) ?_; rintro r hs' ⟨rfl, rfl⟩; simp -implicitDefEqProofs [initG, takeH, putH, tr]; refine givB [1000000, 1000001] 1000000 c3 (by simp [initG, tr]) rfl (by simp) ?_; rintro r hs' ⟨rfl, X', rfl⟩; simp -implicitDefEqProofs [initG, takeH, putH, tr]; refine loopN S.length (SuI p u E S) ⟨X', by simp [initG], by simp [initG], by simp [initG, keysE], by simp [initG], by simp [initG], by simp [initG], by simp [initG]⟩ ?_; clear X'; rintro k τ hk ⟨X', g0, g23, g24, g25, g5, gA, gB⟩; by_cases hlt : k < S.length
    · have hlt' : (k : Int) < S.length := (by omega); have hke : k < (keysE S).length := (by simpa [keysE] using hlt); have hks : (keysE S)[k] = S[k].1 := (by simp [keysE]); obtain ⟨a1, a2, a3⟩ := hat k hlt; have c4 := tcopied_fn p u E X' S[k].1 a1 (hF _ a3); rw [a2] at c4; have hts := take_s hlt; have hl3 : (S.take k).length ≤ 256 := by simp; omega
      rw [show ((S[k].1, S[k].2) : Ent) = S[k] from rfl] at c4; generalize hT2 : S.take (k + 1) = T2 at *; generalize S.take k = T at *; generalize hK : keysE S = KS at *; simp -implicitDefEqProofs [g0, g23, g24, g25, g5, gA, gB, hlt, hlt', hke, hks]; refine givB [1000000, 1000001] 1000000 c4 (by simp [gA, gB, tr]) rfl (by simp) ?_; rintro r hs' ⟨rfl, rfl⟩; simp -implicitDefEqProofs [g0, g23, g24, g25, g5, gA, gB, takeH, putH, tr]; (repeat refine ai (by first | omega | rfl) ?_); exact again hlt ⟨X', by simp [g0], by simp [g23, hK], by simp [g24], by simp, by simp [hT2, hts], by simp, by simp⟩
    · have hlt' : ¬ (k : Int) < S.length := (by omega); rw [ttl (by omega)] at g5; simp -implicitDefEqProofs [g0, g23, g24, g25, g5, gA, gB, hlt, hlt']; exact ⟨.own true 28 (S.map entD), [1000000, 1000001], by simp, by simp [gA, gB, isH], by simp [ResG], by simp, X', by simp [gA, gB, tr]⟩
theorem any_E (E : List Ent) (s : Str) : (mapE E).any (fun p => keyEq p.1 (.str s)) = hasE E s := by
  unfold mapE hasE; rw [List.any_map]; congr 1
theorem mset_new {E : List Ent} {n : Str} (v : List Att) (h : hasE E n = false) : List.Perm (mapE (insE (n, v) E)) (mset (mapE E) (.str n) (atts v)) := by
  unfold mset; rw [any_E, h]; simp only [Bool.false_eq_true, if_false]; refine ((insE_perm (n, v) E).map _).trans ?_; rw [List.map_cons]; exact (List.perm_append_singleton _ _).symm
theorem repl_perm {n : Str} {v : List Att} : ∀ {E : List Ent}, (keysE E).Nodup → hasE E n = true → List.Perm (E.map fun e => if e.1 = n then (n, v) else e) ((n, v) :: delE E n)
  | [], _, h => by simp [hasE] at h
  | e :: E, hn, h => by
    have hn2 := List.nodup_cons.1 hn; by_cases he : e.1 = n
    · have hno : ∀ x ∈ E, x.1 ≠ n := fun x hx q => hn2.1 (List.mem_map.2 ⟨x, hx, q.trans he.symm⟩)
      have e1 : (E.map fun e => if e.1 = n then (n, v) else e) = E := by
        conv => rhs; rw [← List.map_id E]
        exact List.map_congr_left fun x hx => by rw [if_neg (hno x hx)]; rfl
      have e2 : delE E n = E := List.filter_eq_self.2 fun x hx => by simp [hno x hx]
      have e3 : delE (e :: E) n = delE E n := (by simp [delE, he]); rw [List.map_cons, if_pos he, e1, e3, e2]
    · have h' : hasE E n = true := (by simpa [hasE, he] using h); have e3 : delE (e :: E) n = e :: delE E n := (by simp [delE, he]); rw [List.map_cons, if_neg he, e3]; exact ((repl_perm hn2.2 h').cons e).trans (List.Perm.swap _ _ _)
theorem mset_put {E : List Ent} {n : Str} (v : List Att) (hn : (keysE E).Nodup) (h : hasE E n = true) : List.Perm (mapE (insE (n, v) (delE E n))) (mset (mapE E) (.str n) (atts v)) := by
  unfold mset; rw [any_E, h]; simp only [if_true]; have e1 : (mapE E).map (fun p => if keyEq p.1 (.str n) = true then (p.1, atts v) else p) = mapE (E.map fun e => if e.1 = n then (n, v) else e) := by
    unfold mapE; rw [List.map_map, List.map_map]; refine List.map_congr_left fun e he => ?_
    by_cases q : e.1 = n <;> simp [keyEq, q]
  rw [e1]; exact (((insE_perm (n, v) (delE E n)).trans (repl_perm hn h).symm).map _)
theorem tadd_fn (p u : Nat) (E : List Ent) (X : Option (List (D × Nat) × Nat)) (n : Str) (a : List Att) (hn : List.length n < 900000) (ha : Fit2 a) : CtrG prog 63 [.d (.raw (va p)), .d (entD (n, a))] (tr p u E X) (fun r hs' => r = .d (.int .i64 (addE E n a).2) ∧ TR p u (addE E n a).1 hs') := by
  refine fn_of_vwpG (fun i => i == 5000006 || i == 5000020 || i == 5000024) (by kernel_rfl) func63 (by kernel_rfl) rfl rfl (nbl rfl) (by kernel_rfl) rfl ?_; have c1 := tmade_fn p u E X; have c2 := nvalid_fn n hn; have c3 := thas_fn p u E X n; have c4 := tparented_fn p u E X n hn; have c5 := sorted_fn a ha; obtain ⟨R, hR⟩ : ∃ R, addE E n a = R := ⟨_, rfl⟩; rw [hR]; unfold addE at hR; simp only [properU] at hR; by_cases h0 : n = []
  · subst h0; simp only [decide_true, Bool.not_true, Bool.false_and, if_true] at hR; subst hR; simp -implicitDefEqProofs [initG, tr, entD, atts]; refine givB [1000000, 1000001] 1000000 c1 (by simp [initG, tr]) rfl (by simp) ?_; rintro r hs' ⟨rfl, rfl⟩; simp -implicitDefEqProofs [initG, takeH, putH, tr]; exact ⟨.d (.int .i64 5), [1000000, 1000001], by simp, by simp [initG, tr, isH], by simp [ResG], by simp, X, by simp [initG, tr]⟩
  cases h1 : validU n with
  | false =>
    simp only [h0, h1, decide_false, Bool.not_false, Bool.true_and, if_true] at hR; subst hR; rw [h1] at c2; simp -implicitDefEqProofs [initG, tr, entD, atts]; refine givB [1000000, 1000001] 1000000 c1 (by simp [initG, tr]) rfl (by simp) ?_; rintro r hs' ⟨rfl, rfl⟩; simp -implicitDefEqProofs [initG, takeH, putH, tr, h0]; refine callK c2 ?_; simp -implicitDefEqProofs [initG]; exact ⟨.d (.int .i64 5), [1000000, 1000001], by simp, by simp [initG, tr, isH], by simp [ResG], by simp, X, by simp [initG, tr]⟩
  | true =>
  rw [h1] at c2; simp only [h0, h1, decide_false, Bool.not_false, Bool.true_and, Bool.true_eq_false, if_false] at hR; cases h2 : hasE E n with
  | true =>
    rw [h2] at c3; simp only [h2, if_true] at hR; subst hR; simp -implicitDefEqProofs [initG, tr, entD, atts]; refine givB [1000000, 1000001] 1000000 c1 (by simp [initG, tr]) rfl (by simp) ?_; rintro r hs' ⟨rfl, rfl⟩; simp -implicitDefEqProofs [initG, takeH, putH, tr, h0]; refine callK c2 ?_; simp -implicitDefEqProofs [initG]; refine givB [1000000, 1000001] 1000000 c3 (by simp [initG, tr]) rfl (by simp) ?_; rintro r hs' ⟨rfl, rfl⟩; simp -implicitDefEqProofs [initG, takeH, putH, tr]; exact ⟨.d (.int .i64 7), [1000000, 1000001], by simp, by simp [initG, tr, isH], by simp [ResG], by simp, X, by simp [initG, tr]⟩
  | false =>
  rw [h2] at c3; simp only [h2, Bool.false_eq_true, if_false] at hR; cases h3 : parentedE E n with
  | false =>
    rw [h3] at c4; simp only [h3, if_true] at hR; subst hR; simp -implicitDefEqProofs [initG, tr, entD, atts]; refine givB [1000000, 1000001] 1000000 c1 (by simp [initG, tr]) rfl (by simp) ?_; rintro r hs' ⟨rfl, rfl⟩; simp -implicitDefEqProofs [initG, takeH, putH, tr, h0]; refine callK c2 ?_; simp -implicitDefEqProofs [initG]; refine givB [1000000, 1000001] 1000000 c3 (by simp [initG, tr]) rfl (by simp) ?_; rintro r hs' ⟨rfl, rfl⟩; simp -implicitDefEqProofs [initG, takeH, putH, tr]; refine givB [1000000, 1000001] 1000000 c4 (by simp [initG, tr]) rfl (by simp) ?_; rintro r hs' ⟨rfl, rfl⟩; simp -implicitDefEqProofs [initG, takeH, putH, tr]; exact ⟨.d (.int .i64 6), [1000000, 1000001], by simp, by simp [initG, tr, isH], by simp [ResG], by simp, X, by simp [initG, tr]⟩
  | true =>
  rw [h3] at c4; simp only [h3, Bool.true_eq_false, if_false] at hR; by_cases h4 : 256 ≤ E.length
  · have h4' : (256 : Int) ≤ E.length := (by omega); rw [if_pos h4] at hR; subst hR; simp -implicitDefEqProofs [initG, tr, entD, atts]; refine givB [1000000, 1000001] 1000000 c1 (by simp [initG, tr]) rfl (by simp) ?_; rintro r hs' ⟨rfl, rfl⟩; simp -implicitDefEqProofs [initG, takeH, putH, tr, h0]; refine callK c2 ?_; simp -implicitDefEqProofs [initG]; refine givB [1000000, 1000001] 1000000 c3 (by simp [initG, tr]) rfl (by simp) ?_; rintro r hs' ⟨rfl, rfl⟩; simp -implicitDefEqProofs [initG, takeH, putH, tr]; refine givB [1000000, 1000001] 1000000 c4 (by simp [initG, tr]) rfl (by simp) ?_; rintro r hs' ⟨rfl, rfl⟩; simp -implicitDefEqProofs [initG, takeH, putH, tr]; refine rawFd (e := 125) (ds := [.raw (.map (some u))]) 1000000 (by simp [initG]) (by omega) (by simp) (by kernel_rfl) ?_; simp -implicitDefEqProofs [initG]; refine lenK (m := mapE E) (E := X) 1000001 (by omega) map123 (by simp [initG]) ?_; simp -implicitDefEqProofs [initG, mapE_len, h4, h4']; exact ⟨.d (.int .i64 3), [1000000, 1000001], by simp, by simp [initG, tr, isH], by simp [ResG], by simp, X, by simp [initG, tr]⟩
  · have h4' : ¬ (256 : Int) ≤ E.length := (by omega); rw [if_neg h4] at hR; subst hR; have hp := mset_new (sortedL a) h2; generalize insE (n, sortedL a) E = E2 at *; simp only [atts] at c5; simp -implicitDefEqProofs [initG, tr, entD, atts]; refine givB [1000000, 1000001] 1000000 c1 (by simp [initG, tr]) rfl (by simp) ?_; rintro r hs' ⟨rfl, rfl⟩; simp -implicitDefEqProofs [initG, takeH, putH, tr, h0]; refine callK c2 ?_; simp -implicitDefEqProofs [initG]; refine givB [1000000, 1000001] 1000000 c3 (by simp [initG, tr]) rfl (by simp) ?_; rintro r hs' ⟨rfl, rfl⟩; simp -implicitDefEqProofs [initG, takeH, putH, tr]; refine givB [1000000, 1000001] 1000000 c4 (by simp [initG, tr]) rfl (by simp) ?_; rintro r hs' ⟨rfl, rfl⟩; simp -implicitDefEqProofs [initG, takeH, putH, tr]; refine rawFd (e := 125) (ds := [.raw (.map (some u))]) 1000000 (by simp [initG]) (by omega) (by simp) (by kernel_rfl) ?_; simp -implicitDefEqProofs [initG]; refine lenK (m := mapE E) (E := X) 1000001 (by omega) map123 (by simp [initG]) ?_; simp -implicitDefEqProofs [initG, mapE_len, h4, h4']; refine rawFd (e := 125) (ds := [.raw (.map (some u))]) 1000000 (by simp [initG]) (by omega) (by simp) (by kernel_rfl) ?_; simp -implicitDefEqProofs [initG]; refine callP c5 ?_; simp -implicitDefEqProofs [initG]; refine updK (E := X) (m := mapE E) 1000001 map123 (by simp [initG]) (fit_str n) (mapE E2) hp ?_; simp -implicitDefEqProofs [initG]; exact ⟨.d (.int .i64 0), [1000000, 1000001], by simp, by simp [initG, tr, isH], by simp [ResG], by simp, none, by simp [initG, tr]⟩
theorem tput_fn (p u : Nat) (E : List Ent) (X : Option (List (D × Nat) × Nat)) (hE : OrdE E) (n : Str) (a : List Att) (ha : Fit2 a) : CtrG prog 40 [.d (.raw (va p)), .d (entD (n, a))] (tr p u E X) (fun r hs' => r = .d (.int .i64 (putE E n a).2) ∧ TR p u (putE E n a).1 hs') := by
  refine fn_of_vwpG (fun i => i == 5000006 || i == 5000011) (by kernel_rfl) func40 (by kernel_rfl) rfl rfl (nbl rfl) (by kernel_rfl) rfl ?_; have c1 := tmade_fn p u E X; have c3 := thas_fn p u E X n; have c5 := sorted_fn a ha; obtain ⟨R, hR⟩ : ∃ R, putE E n a = R := ⟨_, rfl⟩; rw [hR]; unfold putE at hR; cases h2 : hasE E n with
  | false =>
    rw [h2] at c3; simp only [h2, if_true] at hR; subst hR; simp -implicitDefEqProofs [initG, tr, entD, atts]; refine givB [1000000, 1000001] 1000000 c1 (by simp [initG, tr]) rfl (by simp) ?_; rintro r hs' ⟨rfl, rfl⟩; simp -implicitDefEqProofs [initG, takeH, putH, tr]; refine givB [1000000, 1000001] 1000000 c3 (by simp [initG, tr]) rfl (by simp) ?_; rintro r hs' ⟨rfl, rfl⟩; simp -implicitDefEqProofs [initG, takeH, putH, tr]; exact ⟨.d (.int .i64 6), [1000000, 1000001], by simp, by simp [initG, tr, isH], by simp [ResG], by simp, X, by simp [initG, tr]⟩
  | true =>
    rw [h2] at c3; simp only [h2, Bool.true_eq_false, if_false] at hR; subst hR; have hp := mset_put (sortedL a) (NS.nodup hE) h2; generalize insE (n, sortedL a) (delE E n) = E2 at *; simp only [atts] at c5; simp -implicitDefEqProofs [initG, tr, entD, atts]; refine givB [1000000, 1000001] 1000000 c1 (by simp [initG, tr]) rfl (by simp) ?_; rintro r hs' ⟨rfl, rfl⟩; simp -implicitDefEqProofs [initG, takeH, putH, tr]; refine givB [1000000, 1000001] 1000000 c3 (by simp [initG, tr]) rfl (by simp) ?_; rintro r hs' ⟨rfl, rfl⟩; simp -implicitDefEqProofs [initG, takeH, putH, tr]; refine rawFd (e := 125) (ds := [.raw (.map (some u))]) 1000000 (by simp [initG]) (by omega) (by simp) (by kernel_rfl) ?_; simp -implicitDefEqProofs [initG]; refine callP c5 ?_; simp -implicitDefEqProofs [initG]; refine updK (E := X) (m := mapE E) 1000001 map123 (by simp [initG]) (fit_str n) (mapE E2) hp ?_; simp -implicitDefEqProofs [initG]; exact ⟨.d (.int .i64 0), [1000000, 1000001], by simp, by simp [initG, tr, isH], by simp [ResG], by simp, none, by simp [initG, tr]⟩
def codeE (E : List Ent) (fr to : Str) : Nat :=
  if hasE E fr = false then 0 else if properU to = false then 1 else if hasE E to = true then 2 else if underU to fr = true then 3 else if parentedE E to = false then 4 else if depthU fr = 1 then 5 else if deepE E fr to = true then 6 else 7
def errL : List Int := [6, 5, 7, 28, 6, 12, 3, 0]
theorem code_err (E : List Ent) (fr to : Str) : errL[codeE E fr to]? = some (obsE E fr to) := by
  unfold codeE obsE; repeat' split
  all_goals rfl
theorem code_le (E : List Ent) (fr to : Str) : codeE E fr to ≤ 7 := by
  unfold codeE; repeat' split
  all_goals omega
theorem code_free {E : List Ent} {fr to : Str} : codeE E fr to = 7 ↔ obsE E fr to = 0 := by
  unfold codeE obsE; constructor <;> intro h <;> (repeat' split at h) <;> (repeat' split) <;> first | rfl | omega | simp_all
theorem rebase_err {s fr to : Str} (hu : underU s fr = true) (ht : properU to = true) : (rebaseU s fr to).2 = if (8 : Int) < depthU s - depthU fr + depthU to then 3 else 0 := by
  obtain ⟨k, m, e1, e2⟩ := under_parts hu; obtain ⟨q, n, e3⟩ := proper_norm ht; have h := rebase_norm e1 e2 e3; rw [depth_norm e1, depth_norm e2, depth_norm e3]; by_cases h8 : k.length + (q :: n).length ≤ 8
  · obtain ⟨t, h1, _⟩ := h.1 h8; rw [h1, if_neg]; simp only [List.length_append, List.length_cons] at h8 ⊢; omega
  · rw [h.2 (by omega), if_pos]; simp only [List.length_append, List.length_cons] at h8 ⊢; omega
theorem deep_iff {E : List Ent} {fr to : Str} (hf : fr ≠ []) (ht : properU to = true) : deepE E fr to = true ↔ ∃ s ∈ keysE E, underU s fr = true ∧ (rebaseU s fr to).2 ≠ 0 := by
  unfold deepE subE; rw [List.any_eq_true]; constructor
  · rintro ⟨e, he, hd⟩; obtain ⟨h1, h2⟩ := List.mem_filter.1 he; simp only [hf, decide_false, Bool.false_or] at h2; simp only [decide_eq_true_eq] at hd; exact ⟨e.1, List.mem_map.2 ⟨e, h1, rfl⟩, h2, by rw [rebase_err h2 ht, if_pos hd]; decide⟩
  · rintro ⟨s, hs, h2, h3⟩; obtain ⟨e, he, rfl⟩ := List.mem_map.1 hs; rw [rebase_err h2 ht] at h3; refine ⟨e, List.mem_filter.2 ⟨he, by simp [h2]⟩, ?_⟩; simp only [decide_eq_true_eq]; split at h3
    · assumption
    · exact absurd rfl h3
def ObI (p u : Nat) (E : List Ent) (fr to : Str) (k : Nat) (τ : St) : Prop := ∃ ss seen e, Seen (keysE E) ss seen ∧ ss.length = k ∧ τ 0 = .d (.raw (va p)) ∧ τ 1 = .d (.str fr) ∧ τ 2 = .d (.str to) ∧ τ 44 = .mit (.map (some u)) e seen ∧
  (∀ s ∈ ss, underU s fr = true → (rebaseU s fr to).2 = 0) ∧ τ 1000000 = .hb (va p) 125 (.agg [.raw (.map (some u))]) ∧ τ 1000001 = .hm (.map (some u)) 9 (mapE E) (some e)
theorem tobst_fn (p u : Nat) (E : List Ent) (X : Option (List (D × Nat) × Nat)) (hE : TI E) (fr to : Str) (hf : List.length fr < 900000) (ht : List.length to < 900000) :
    CtrG prog 89 [.d (.raw (va p)), .d (.str fr), .d (.str to)] (tr p u E X) (fun r hs' => r = .d (.int .i64 (codeE E fr to)) ∧ TR p u E hs') := by
  refine fn_of_vwpG (fun i => i == 5000013 || i == 5000026 || i == 5000034) (by kernel_rfl) func89 (by kernel_rfl) rfl rfl (nbl rfl) (by kernel_rfl) rfl ?_; have c1 := thas_fn p u E X fr; have c2 := nvalid_fn to ht; have c3 := thas_fn p u E X to; have c4 := nunder_fn to fr ht hf; have c5 := tparented_fn p u E X to ht; have c6 := ndepth_fn fr hf; obtain ⟨R, hR⟩ : ∃ R, codeE E fr to = R := ⟨_, rfl⟩; rw [hR]; unfold codeE at hR; cases h1 : hasE E fr with
  | false =>
    rw [h1] at c1 hR; simp only [if_true] at hR; subst hR; simp -implicitDefEqProofs [initG, tr]; refine givB [1000000, 1000001] 1000000 c1 (by simp [initG, tr]) rfl (by simp) ?_; rintro r hs' ⟨rfl, rfl⟩; simp -implicitDefEqProofs [initG, takeH, putH, tr]; exact ⟨.d (.int .i64 0), [1000000, 1000001], by simp, by simp [initG, tr, isH], by simp [ResG], by simp, X, by simp [initG, tr]⟩
  | true =>
  rw [h1] at c1; simp only [h1, Bool.true_eq_false, if_false] at hR; by_cases h0 : to = []
  · have hpr : properU to = false := (by simp [properU, h0]); rw [if_pos hpr] at hR; subst hR h0; simp -implicitDefEqProofs [initG, tr]; refine givB [1000000, 1000001] 1000000 c1 (by simp [initG, tr]) rfl (by simp) ?_; rintro r hs' ⟨rfl, rfl⟩; simp -implicitDefEqProofs [initG, takeH, putH, tr]; exact ⟨.d (.int .i64 1), [1000000, 1000001], by simp, by simp [initG, tr, isH], by simp [ResG], by simp, X, by simp [initG, tr]⟩
  cases h2 : validU to with
  | false =>
    have hpr : properU to = false := (by simp [properU, h2]); rw [if_pos hpr] at hR; subst hR; rw [h2] at c2; simp -implicitDefEqProofs [initG, tr]; refine givB [1000000, 1000001] 1000000 c1 (by simp [initG, tr]) rfl (by simp) ?_; rintro r hs' ⟨rfl, rfl⟩; simp -implicitDefEqProofs [initG, takeH, putH, tr, h0]; refine callK c2 ?_; simp -implicitDefEqProofs [initG]; exact ⟨.d (.int .i64 1), [1000000, 1000001], by simp, by simp [initG, tr, isH], by simp [ResG], by simp, X, by simp [initG, tr]⟩
  | true =>
  have hpr : properU to = true := (by simp [properU, h2, h0]); rw [h2] at c2; simp only [hpr, Bool.true_eq_false, if_false] at hR; cases h3 : hasE E to with
  | true =>
    rw [h3] at c3; simp only [h3, if_true] at hR; subst hR; simp -implicitDefEqProofs [initG, tr]; refine givB [1000000, 1000001] 1000000 c1 (by simp [initG, tr]) rfl (by simp) ?_; rintro r hs' ⟨rfl, rfl⟩; simp -implicitDefEqProofs [initG, takeH, putH, tr, h0]; refine callK c2 ?_; simp -implicitDefEqProofs [initG]; refine givB [1000000, 1000001] 1000000 c3 (by simp [initG, tr]) rfl (by simp) ?_; rintro r hs' ⟨rfl, rfl⟩; simp -implicitDefEqProofs [initG, takeH, putH, tr]; exact ⟨.d (.int .i64 2), [1000000, 1000001], by simp, by simp [initG, tr, isH], by simp [ResG], by simp, X, by simp [initG, tr]⟩
  | false =>
  rw [h3] at c3; simp only [h3, Bool.false_eq_true, if_false] at hR; cases h4 : underU to fr with
  | true =>
    rw [h4] at c4; simp only [h4, if_true] at hR; subst hR; simp -implicitDefEqProofs [initG, tr]; refine givB [1000000, 1000001] 1000000 c1 (by simp [initG, tr]) rfl (by simp) ?_; rintro r hs' ⟨rfl, rfl⟩; simp -implicitDefEqProofs [initG, takeH, putH, tr, h0]; refine callK c2 ?_; simp -implicitDefEqProofs [initG]; refine givB [1000000, 1000001] 1000000 c3 (by simp [initG, tr]) rfl (by simp) ?_; rintro r hs' ⟨rfl, rfl⟩; simp -implicitDefEqProofs [initG, takeH, putH, tr]; refine callK c4 ?_; simp -implicitDefEqProofs [initG]; exact ⟨.d (.int .i64 3), [1000000, 1000001], by simp, by simp [initG, tr, isH], by simp [ResG], by simp, X, by simp [initG, tr]⟩
  | false =>
  rw [h4] at c4; simp only [h4, Bool.false_eq_true, if_false] at hR; cases h5 : parentedE E to with
  | false =>
    rw [h5] at c5; simp only [h5, if_true] at hR; subst hR; simp -implicitDefEqProofs [initG, tr]; refine givB [1000000, 1000001] 1000000 c1 (by simp [initG, tr]) rfl (by simp) ?_; rintro r hs' ⟨rfl, rfl⟩; simp -implicitDefEqProofs [initG, takeH, putH, tr, h0]; refine callK c2 ?_; simp -implicitDefEqProofs [initG]; refine givB [1000000, 1000001] 1000000 c3 (by simp [initG, tr]) rfl (by simp) ?_; rintro r hs' ⟨rfl, rfl⟩; simp -implicitDefEqProofs [initG, takeH, putH, tr]; refine callK c4 ?_; simp -implicitDefEqProofs [initG]; refine givB [1000000, 1000001] 1000000 c5 (by simp [initG, tr]) rfl (by simp) ?_; rintro r hs' ⟨rfl, rfl⟩; simp -implicitDefEqProofs [initG, takeH, putH, tr]; exact ⟨.d (.int .i64 4), [1000000, 1000001], by simp, by simp [initG, tr, isH], by simp [ResG], by simp, X, by simp [initG, tr]⟩
  | true =>
  rw [h5] at c5; simp only [h5, Bool.true_eq_false, if_false] at hR; by_cases h6 : depthU fr = 1
  · rw [if_pos h6] at hR; subst hR; rw [h6] at c6; simp -implicitDefEqProofs [initG, tr]; refine givB [1000000, 1000001] 1000000 c1 (by simp [initG, tr]) rfl (by simp) ?_; rintro r hs' ⟨rfl, rfl⟩; simp -implicitDefEqProofs [initG, takeH, putH, tr, h0]; refine callK c2 ?_; simp -implicitDefEqProofs [initG]; refine givB [1000000, 1000001] 1000000 c3 (by simp [initG, tr]) rfl (by simp) ?_; rintro r hs' ⟨rfl, rfl⟩; simp -implicitDefEqProofs [initG, takeH, putH, tr]; refine callK c4 ?_; simp -implicitDefEqProofs [initG]; refine givB [1000000, 1000001] 1000000 c5 (by simp [initG, tr]) rfl (by simp) ?_; rintro r hs' ⟨rfl, rfl⟩; simp -implicitDefEqProofs [initG, takeH, putH, tr]; refine callK c6 ?_; simp -implicitDefEqProofs [initG]; exact ⟨.d (.int .i64 5), [1000000, 1000001], by simp, by simp [initG, tr, isH], by simp [ResG], by simp, X, by simp [initG, tr]⟩
  rw [if_neg h6] at hR; have hfn : fr ≠ [] := fun e => by
    have := hE.key (hasE_iff.1 h1); rw [e] at this; simp [properU] at this
  have hdp := deep_iff (E := E) hfn hpr; generalize hdp6 : depthU fr = dp at *; have h6' : ¬ (dp : Int) = 1 := (by omega); simp -implicitDefEqProofs [initG, tr]; refine givB [1000000, 1000001] 1000000 c1 (by simp [initG, tr]) rfl (by simp) ?_; rintro r hs' ⟨rfl, rfl⟩; simp -implicitDefEqProofs [initG, takeH, putH, tr, h0]; refine callK c2 ?_; simp -implicitDefEqProofs [initG]; refine givB [1000000, 1000001] 1000000 c3 (by simp [initG, tr]) rfl (by simp) ?_; rintro r hs' ⟨rfl, rfl⟩; simp -implicitDefEqProofs [initG, takeH, putH, tr]; refine callK c4 ?_; simp -implicitDefEqProofs [initG]; refine givB [1000000, 1000001] 1000000 c5 (by simp [initG, tr]) rfl (by simp) ?_; rintro r hs' ⟨rfl, rfl⟩; simp -implicitDefEqProofs [initG, takeH, putH, tr]; refine callK c6 ?_; simp -implicitDefEqProofs [initG, h6, h6']; refine rawFd (e := 125) (ds := [.raw (.map (some u))]) 1000000 (by simp [initG]) (by omega) (by simp) (by kernel_rfl) ?_; simp -implicitDefEqProofs [initG]; refine rngK 1000001 map123 (by simp [initG]; exact ⟨rfl, rfl⟩) (fun e => ?_); simp -implicitDefEqProofs [initG]; refine loopN (keysE E).length (ObI p u E fr to) ⟨[], [], e, Seen.nil _, rfl, by simp [initG], by simp [initG], by simp [initG], by simp [initG], by simp, by simp [initG], by simp [initG]⟩ ?_; clear e c1 c2 c3 c4 c5 c6; rintro k τ hk ⟨ss, seen, e, hS, hsl, g0, g1, g2, g44, hno, gA, gB⟩; have hnd := NS.nodup hE.ord; simp -implicitDefEqProofs [g0, g1, g2, g44]; refine nxtK 1000001 (by simp [gB]; exact ⟨rfl, rfl⟩) (fun x v hm hn => ?_) (fun hall => ?_)
  · obtain ⟨s, a, rfl, rfl, hin⟩ := mapE_mem hm; have hin' := keys_mem hin; have hS2 := hS.next hin' hn; have hlt := hS.lt hnd hin' hn; rw [hsl] at hlt; have hsk := hE.klen hin'; have c1 := nunder_fn s fr hsk hf; have c2 := nrebase_fn s fr to hsk hf ht; simp -implicitDefEqProofs [g0, g1, g2, g44, gA, gB]; refine entK (kt := 9) 1000001 (by simp [gB]) hm ?_; simp -implicitDefEqProofs [g0, g1, g2, g44, gA, gB]; refine callK c1 ?_; cases hu : underU s fr with
    | false =>
      simp -implicitDefEqProofs [g0, g1, g2, g44, gA, gB, hu]; refine again hlt ⟨ss ++ [s], seen ++ [.str s], e, hS2, by simp [hsl], by simp [g0], by simp [g1], by simp [g2], by simp, ?_, by simp [gA], by simp [gB]⟩; intro x hx hux; rcases List.mem_append.1 hx with hx | hx
      · exact hno x hx hux
      · simp only [List.mem_singleton] at hx; subst hx; rw [hu] at hux; cases hux
    | true =>
      by_cases h0 : (rebaseU s fr to).2 = 0
      · generalize hG : rebaseU s fr to = G at *; obtain ⟨t, er⟩ := G; simp only at h0; subst h0; simp -implicitDefEqProofs [g0, g1, g2, g44, gA, gB, hu]; refine callK c2 ?_; simp -implicitDefEqProofs [g0, g1, g2, g44, gA, gB]; refine again hlt ⟨ss ++ [s], seen ++ [.str s], e, hS2, by simp [hsl], by simp [g0], by simp [g1], by simp [g2], by simp, ?_, by simp [gA], by simp [gB]⟩; intro x hx hux; rcases List.mem_append.1 hx with hx | hx
        · exact hno x hx hux
        · simp only [List.mem_singleton] at hx; subst hx; rw [hG]
      · have hd : deepE E fr to = true := hdp.2 ⟨s, hin', hu, h0⟩; rw [if_pos hd] at hR; subst hR; generalize rebaseU s fr to = G at *; obtain ⟨t, er⟩ := G; simp only at h0; simp -implicitDefEqProofs [g0, g1, g2, g44, gA, gB, hu]; refine callK c2 ?_; simp -implicitDefEqProofs [g0, g1, g2, g44, gA, gB, h0]; exact ⟨.d (.int .i64 6), [1000000, 1000001], by simp, by simp [gA, gB, isH], by simp [ResG], by simp, some e, by simp [gA, gB, tr]⟩
  · have hd : ¬ deepE E fr to = true := fun h => by
      obtain ⟨s, hs, hu, hne⟩ := hdp.1 h; exact hne (hno s (((hS.all hnd (mapE_all hall)).mem_iff).2 hs) hu)
    rw [if_neg hd] at hR; subst hR; simp -implicitDefEqProofs [g0, g1, g2, g44, gA, gB]; exact ⟨.d (.int .i64 7), [1000000, 1000001], by simp, by simp [gA, gB, isH], by simp [ResG], by simp, none, by simp [gA, gB, tr]⟩
def pickE (M : List Ent) (S : List Str) : List Ent := M.filter fun e => decide (e.1 ∈ S)
theorem pick_nil (M : List Ent) : pickE M [] = [] := by simp [pickE]
theorem pick_all {M : List Ent} {S : List Str} (h : ∀ e ∈ M, e.1 ∈ S) : pickE M S = M := List.filter_eq_self.2 fun e he => by simp [h e he]
theorem pick_no {M : List Ent} {S : List Str} {x : Str} (h : x ∉ S) : hasE (pickE M S) x = false := by
  cases q : hasE (pickE M S) x with
  | false => rfl
  | true =>
    obtain ⟨e, he, rfl⟩ := List.mem_map.1 (hasE_iff.1 q); exact absurd (by simpa using (List.mem_filter.1 he).2) h
theorem nd_of_keys : ∀ {M : List Ent}, (keysE M).Nodup → M.Nodup
  | [], _ => List.nodup_nil
  | e :: M, h => by
    have h2 := List.nodup_cons.1 h; exact List.nodup_cons.2 ⟨fun hm => h2.1 (List.mem_map.2 ⟨e, hm, rfl⟩), nd_of_keys h2.2⟩
theorem key_uniq : ∀ {M : List Ent}, (keysE M).Nodup → ∀ {x y : Ent}, x ∈ M → y ∈ M → x.1 = y.1 → x = y
  | [], _, _, _, h, _, _ => by simp at h
  | e :: M, h, x, y, hx, hy, hxy => by
    have h2 := List.nodup_cons.1 h; rcases List.mem_cons.1 hx with rfl | hx' <;> rcases List.mem_cons.1 hy with rfl | hy'
    · rfl
    · exact absurd (List.mem_map.2 ⟨y, hy', hxy.symm⟩) h2.1
    · exact absurd (List.mem_map.2 ⟨x, hx', hxy⟩) h2.1
    · exact key_uniq h2.2 hx' hy' hxy
theorem pick_snoc {M : List Ent} (hM : (keysE M).Nodup) {S : List Str} {x : Str} {a : List Att} (hx : x ∉ S) (hm : (x, a) ∈ M) : (pickE M (S ++ [x])).Perm (pickE M S ++ [(x, a)]) := by
  have hn := nd_of_keys hM; refine (List.perm_ext_iff_of_nodup (hn.filter _) ?_).2 fun e => ?_
  · rw [List.nodup_append]; refine ⟨hn.filter _, by simp, ?_⟩; rintro e he b hb rfl; simp only [List.mem_singleton] at hb; subst hb; exact hx (by simpa using (List.mem_filter.1 he).2)
  · simp only [pickE, List.mem_filter, List.mem_append, List.mem_singleton, decide_eq_true_eq]; constructor
    · rintro ⟨h1, h2 | h2⟩
      · exact .inl ⟨h1, h2⟩
      · exact .inr (key_uniq hM h1 hm h2)
    · rintro (⟨h1, h2⟩ | rfl)
      · exact ⟨h1, .inl h2⟩
      · exact ⟨hm, .inr rfl⟩
theorem mset_pick {M : List Ent} (hM : (keysE M).Nodup) {S : List Str} {x : Str} {a : List Att} (hx : x ∉ S) (hm : (x, a) ∈ M) : List.Perm (mapE (pickE M (S ++ [x]))) (mset (mapE (pickE M S)) (.str x) (atts a)) := by
  unfold mset; rw [any_E, pick_no hx]; simp only [Bool.false_eq_true, if_false]; have := (pick_snoc hM hx hm).map (fun e : Ent => ((.str e.1 : D), atts e.2)); rw [List.map_append] at this; exact this
theorem gerrs : gdat prog 0 = some (.agg (errL.map (.int .i64))) := by kernel_rfl
def MoI (p u g : Nat) (E M : List Ent) (fr to : Str) (k : Nat) (τ : St) : Prop := ∃ ss seen e, Seen (keysE E) ss seen ∧ ss.length = k ∧ τ 0 = .d (.raw (va p)) ∧ τ 1 = .d (.str fr) ∧ τ 2 = .d (.str to) ∧ τ 28 = .mit (.map (some u)) e seen ∧
  τ 8 = .d (.raw (.map (some g))) ∧ τ 1000000 = .hb (va p) 125 (.agg [.raw (.map (some u))]) ∧ τ 1000001 = .hm (.map (some u)) 9 (mapE E) (some e) ∧ τ 1000002 = .hm (.map (some g)) 9 (mapE (pickE M (ss.map (renU fr to)))) none
theorem tmove_fn (p u : Nat) (E : List Ent) (X : Option (List (D × Nat) × Nat)) (hE : TI E) (fr to : Str) (hf : List.length fr < 900000) (ht : List.length to < 900000) :
    CtrG prog 38 [.d (.raw (va p)), .d (.str fr), .d (.str to)] (tr p u E X) (fun r hs' => r = .d (.int .i64 (moveE E fr to).2) ∧ ∃ u', TR p u' (moveE E fr to).1 hs') := by
  refine fn_of_vwpG (fun i => i == 5000012 || i == 5000017) (by kernel_rfl) func38 (by kernel_rfl) rfl rfl (nbl rfl) (by kernel_rfl) rfl ?_; have c1 := tmade_fn p u E X; have c2 := tobst_fn p u E X hE fr to hf ht; have hle := code_le E fr to; have herr := code_err E fr to; by_cases h7 : codeE E fr to = 7
  case neg =>
    have h0 : ¬ obsE E fr to = 0 := fun q => h7 (code_free.2 q)
    have hR : moveE E fr to = (E, obsE E fr to) := by unfold moveE; rw [if_neg h0]
    rw [hR]; generalize codeE E fr to = c at *; generalize obsE E fr to = er at *; have h7' : ¬ (c : Int) = 7 := (by omega); have hex : ∃ x, errL[c]? = some x := ⟨_, herr⟩; have hget : (errL.map (D.int IntKind.i64))[c]? = some (.int .i64 er) := by rw [List.getElem?_map, herr]; rfl
    generalize hEL : errL.map (D.int IntKind.i64) = EL at *; have hg := gerrs; rw [hEL] at hg; have hELl : EL.length = 8 := by rw [← hEL]; rfl
    have hELw : ∀ y ∈ EL, width y = 1 := fun y hy => by
      rw [← hEL] at hy; obtain ⟨x, _, rfl⟩ := List.mem_map.1 hy; rfl
    simp -implicitDefEqProofs [initG, tr]; refine givB [1000000, 1000001] 1000000 c1 (by simp [initG, tr]) rfl (by simp) ?_; rintro r hs' ⟨rfl, rfl⟩; simp -implicitDefEqProofs [initG, takeH, putH, tr]; refine givB [1000000, 1000001] 1000000 c2 (by simp [initG, tr]) rfl (by simp) ?_; rintro r hs' ⟨rfl, X', rfl⟩; simp -implicitDefEqProofs [initG, takeH, putH, tr, h7', hg]; refine ⟨8, 51, 1, by kernel_rfl, by kernel_rfl, hELl, hELw, by omega, by omega, ?_⟩; simp -implicitDefEqProofs [initG, hget]; exact ⟨.d (.int .i64 er), [1000000, 1000001], by simp, by simp [initG, tr, isH], by simp [ResG], by simp, u, X', by simp [initG, tr]⟩
  have h0 := code_free.1 h7; have hMV := MV.of hE h0; have hR : moveE E fr to = (movedE E fr to, 0) := by unfold moveE; rw [if_pos h0]
  rw [hR]; rw [h7] at c2; have hMk := NS.nodup hMV.ord; have hinj := fun {s t : Str} => @MV.inj E fr to hMV s t
  have hMm : ∀ s a, (s, a) ∈ E → (renU fr to s, a) ∈ movedE E fr to := fun s a h => hMV.perm.mem_iff.2 (List.mem_map.2 ⟨(s, a), h, rfl⟩)
  have hMa : ∀ e ∈ movedE E fr to, ∃ s ∈ keysE E, renU fr to s = e.1 := fun e he => hMV.keys.1 (List.mem_map.2 ⟨e, he, rfl⟩)
  generalize movedE E fr to = M at *; simp -implicitDefEqProofs [initG, tr]; refine givB [1000000, 1000001] 1000000 c1 (by simp [initG, tr]) rfl (by simp) ?_; rintro r hs' ⟨rfl, rfl⟩; simp -implicitDefEqProofs [initG, takeH, putH, tr]; refine givB [1000000, 1000001] 1000000 c2 (by simp [initG, tr]) rfl (by simp) ?_; rintro r hs' ⟨rfl, X', rfl⟩; simp -implicitDefEqProofs [initG, takeH, putH, tr]; refine makeK 9 1000002 (by simp [initG]) (fun g => ?_); simp -implicitDefEqProofs [initG]; refine rawFd (e := 125) (ds := [.raw (.map (some u))]) 1000000 (by simp [initG]) (by omega) (by simp) (by kernel_rfl) ?_; simp -implicitDefEqProofs [initG]; refine rngK 1000001 map123 (by simp [initG]; exact ⟨rfl, rfl⟩) (fun e => ?_); simp -implicitDefEqProofs [initG]; refine loopN (keysE E).length (MoI p u g E M fr to) ⟨[], [], e, Seen.nil _, rfl, by simp [initG], by simp [initG], by simp [initG], by simp [initG], by simp [initG], by simp [initG], by simp [initG], by simp [initG, pick_nil, mapE]⟩ ?_; clear e c1 c2 X' X; rintro k τ hk ⟨ss, seen, e, hS, hsl, g0, g1, g2, g28, g8, gA, gB, gC⟩; have hnd := NS.nodup hE.ord; simp -implicitDefEqProofs [g0, g1, g2, g28]; refine nxtK 1000001 (by simp [gB]; exact ⟨rfl, rfl⟩) (fun x v hm hn => ?_) (fun hall => ?_)
  · obtain ⟨s, a, rfl, rfl, hin⟩ := mapE_mem hm; have hin' := keys_mem hin; have hS2 := hS.next hin' hn; have hlt := hS.lt hnd hin' hn; rw [hsl] at hlt; have hsk := hE.klen hin'; have c1 := nunder_fn s fr hsk hf; have c2 := nrebase_fn s fr to hsk hf ht; have hns : renU fr to s ∉ ss.map (renU fr to) := fun hm => by
      obtain ⟨t, ht, e⟩ := List.mem_map.1 hm; have := hinj (hS.sub t ht) hin' e; subst this; exact hn (hS.mem.2 ht)
    have hp := mset_pick hMk hns (hMm s a hin); have hmap : (ss ++ [s]).map (renU fr to) = ss.map (renU fr to) ++ [renU fr to s] := (by simp); rw [← hmap] at hp; generalize hM2 : pickE M ((ss ++ [s]).map (renU fr to)) = M2 at *; generalize pickE M (ss.map (renU fr to)) = M1 at *; have hru : renU fr to s = if underU s fr = true then (rebaseU s fr to).1 else s := rfl
    simp -implicitDefEqProofs [g0, g1, g2, g28, g8, gA, gB, gC]; refine entK (kt := 9) 1000001 (by simp [gB]) hm ?_; simp -implicitDefEqProofs [g0, g1, g2, g28, g8, gA, gB, gC]; refine callK c1 ?_; cases hu : underU s fr with
    | false =>
      rw [hu] at hru; simp only [Bool.false_eq_true, if_false] at hru; rw [hru] at hp; simp only [atts] at hp; simp -implicitDefEqProofs [g0, g1, g2, g28, g8, gA, gB, gC, hu, atts]; refine updK (E := none) (m := mapE M1) 1000002 map123 (by simp [gC]) (fit_str s) (mapE M2) hp ?_; exact again hlt ⟨ss ++ [s], seen ++ [.str s], e, hS2, by simp [hsl], by simp [g0], by simp [g1], by simp [g2], by simp, by simp [g8], by simp [gA], by simp [gB], by rw [hM2]; simp⟩
    | true =>
      rw [hu] at hru; simp only [if_true] at hru; rw [hru] at hp; simp only [atts] at hp; generalize rebaseU s fr to = G at *; obtain ⟨t, er⟩ := G; simp -implicitDefEqProofs [g0, g1, g2, g28, g8, gA, gB, gC, hu, atts]; refine callK c2 ?_; simp -implicitDefEqProofs [g0, g1, g2, g28, g8, gA, gB, gC, hu, atts]; refine updK (E := none) (m := mapE M1) 1000002 map123 (by simp [gC]) (fit_str t) (mapE M2) hp ?_; exact again hlt ⟨ss ++ [s], seen ++ [.str s], e, hS2, by simp [hsl], by simp [g0], by simp [g1], by simp [g2], by simp, by simp [g8], by simp [gA], by simp [gB], by rw [hM2]; simp⟩
  · have hpa := hS.all hnd (mapE_all hall); have hal : pickE M (ss.map (renU fr to)) = M := pick_all fun e he => by
      obtain ⟨s, hs, hr⟩ := hMa e he; rw [← hr]; exact List.mem_map.2 ⟨s, hpa.mem_iff.2 hs, rfl⟩
    rw [hal] at gC; simp -implicitDefEqProofs [g0, g1, g2, g28, g8, gA, gB, gC]; refine rawFd (e := 125) (ds := [.raw (.map (some u))]) 1000000 (by simp [gA]) (by omega) (by simp) (by kernel_rfl) ?_; simp -implicitDefEqProofs [g0, g1, g2, g28, g8, gA, gB, gC]; exact ⟨.d (.int .i64 0), [1000000, 1000002], by simp, by simp [gA, gC, isH], by simp [ResG], by simp, g, none, by simp [gA, gC, tr]⟩
def newGo (E : List Ent) : List Str → List Ent × Int
  | [] => (E, 0)
  | s :: l => if validU s = false ∨ depthU s ≠ 1 then ([], 5) else if hasE E s = true then ([], 7) else newGo (insE (s, []) E) l
def newE (R : List Str) : List Ent × Int := if R = [] then ([], 6) else if 256 < R.length then ([], 3) else newGo [] R
def TrP (R : List Ent × Int) (r : AV) (hs' : List AV) : Prop := (R.2 ≠ 0 ∧ r = .tup [.d .nilp, .d (.int .i64 R.2)] ∧ hs' = []) ∨ (R.2 = 0 ∧ ∃ p u, r = .tup [.d (.raw (va p)), .d (.int .i64 0)] ∧ hs' = tr p u R.1 none)
def NeI (R : List Str) (V : List Ent × Int) (k : Nat) (τ : St) : Prop := ∃ E p u, τ 16 = .d (strs R) ∧ τ 17 = .d (.int .i64 R.length) ∧ τ 18 = .d (.int .i64 k) ∧ τ 4 = .d (.raw (va p)) ∧ newGo E (R.drop k) = V ∧
  τ 1000000 = .hb (va p) 125 (.agg [.raw (.map (some u))]) ∧ τ 1000001 = .hm (.map (some u)) 9 (mapE E) none
theorem tnew_fn (R : List Str) (hR : ∀ s ∈ R, List.length s < 900000) : CtrG prog 60 [.d (strs R)] [] (TrP (newE R)) := by
  refine fn_of_vwpGN (rs := [.tmp 2, .tmp 3]) (fun i => i == 1000015 || i == 5000032) (by kernel_rfl) func60 (by kernel_rfl) rfl rfl (by simp) (nbl rfl) (by kernel_rfl) rfl ?_; obtain ⟨V, hV⟩ : ∃ V, newE R = V := ⟨_, rfl⟩; rw [hV]; unfold newE at hV; by_cases h0 : R = []
  · rw [if_pos h0] at hV; subst hV h0; simp -implicitDefEqProofs [initG, strs]; exact ⟨[.d .nilp, .d (.int .i64 6)], [], by simp, by simp, by simp [resDs, resD], .inl ⟨by decide, rfl, rfl⟩⟩
  rw [if_neg h0] at hV; have h0l : ¬ R.length = 0 := fun q => h0 (List.eq_nil_of_length_eq_zero q)
  have h0i : ¬ (R.length : Int) = 0 := (by omega); by_cases h1 : 256 < R.length
  · have h1i : (256 : Int) < R.length := (by omega); rw [if_pos h1] at hV; subst hV; simp -implicitDefEqProofs [initG, strs, h0, h0i, h1, h1i]; exact ⟨[.d .nilp, .d (.int .i64 3)], [], by simp, by simp, by simp [resDs, resD], .inl ⟨by decide, rfl, rfl⟩⟩
  rw [if_neg h1] at hV; have h1i : ¬ (256 : Int) < R.length := (by omega); simp -implicitDefEqProofs [initG, strs, h0, h0i, h1, h1i]; refine makeK 9 1000001 (by simp [initG]) (fun g => ?_); simp -implicitDefEqProofs [initG]; refine ⟨1000000, by simp [initG], fun q => ?_⟩; simp -implicitDefEqProofs [initG]; refine loopN R.length (NeI R V) ⟨[], q, g, by simp [initG, strs], by simp [initG], by simp [initG], by simp [initG, va], by simpa using hV, by simp [initG, va], by simp [initG, mapE]⟩ ?_; rintro k τ hk ⟨E, p, u, g16, g17, g18, g4, hgo, gA, gB⟩; by_cases hlt : k < R.length
  · have hlt' : (k : Int) < R.length := (by omega); rw [List.drop_eq_getElem_cons hlt, newGo] at hgo; have hs := hR _ (gmm hlt); generalize hx : R[k] = s at *; have c1 := nvalid_fn s hs; have c2 := ndepth_fn s hs; have c3 := thas_fn p u E none s; cases h2 : validU s with
    | false =>
      rw [if_pos (.inl h2)] at hgo; subst hgo; rw [h2] at c1; simp -implicitDefEqProofs [g16, g17, g18, g4, gA, gB, strs, hlt, hlt', hx]; refine callK c1 ?_; simp -implicitDefEqProofs [g16, g17, g18, g4, gA, gB]; exact ⟨[.d .nilp, .d (.int .i64 5)], [], by simp, by simp, by simp [resDs, resD], .inl ⟨by decide, rfl, rfl⟩⟩
    | true =>
    rw [h2] at c1; generalize depthU s = dp at *; by_cases h3 : dp = 1
    case neg =>
      have h3' : ¬ (dp : Int) = 1 := (by omega); rw [if_pos (.inr h3)] at hgo; subst hgo; simp -implicitDefEqProofs [g16, g17, g18, g4, gA, gB, strs, hlt, hlt', hx]; refine callK c1 ?_; simp -implicitDefEqProofs [g16, g17, g18, g4, gA, gB]; refine callK c2 ?_; simp -implicitDefEqProofs [g16, g17, g18, g4, gA, gB, h3, h3']; exact ⟨[.d .nilp, .d (.int .i64 5)], [], by simp, by simp, by simp [resDs, resD], .inl ⟨by decide, rfl, rfl⟩⟩
    subst h3; rw [if_neg (by simp [h2])] at hgo; cases h4 : hasE E s with
    | true =>
      rw [h4] at c3; rw [if_pos h4] at hgo; subst hgo; simp -implicitDefEqProofs [g16, g17, g18, g4, gA, gB, strs, hlt, hlt', hx]; refine callK c1 ?_; simp -implicitDefEqProofs [g16, g17, g18, g4, gA, gB]; refine callK c2 ?_; simp -implicitDefEqProofs [g16, g17, g18, g4, gA, gB]; refine givB [1000000, 1000001] 1000000 c3 (by simp [gA, gB, tr]) rfl (by simp) ?_; rintro r hs' ⟨rfl, rfl⟩; simp -implicitDefEqProofs [g16, g17, g18, g4, gA, gB, takeH, putH, tr]; exact ⟨[.d .nilp, .d (.int .i64 7)], [], by simp, by simp, by simp [resDs, resD], .inl ⟨by decide, rfl, rfl⟩⟩
    | false =>
      rw [h4] at c3; rw [if_neg (by simp [h4])] at hgo; have hp := mset_new (n := s) [] h4; generalize hE2 : insE (s, []) E = E2 at *; simp -implicitDefEqProofs [g16, g17, g18, g4, gA, gB, strs, hlt, hlt', hx]; refine callK c1 ?_; simp -implicitDefEqProofs [g16, g17, g18, g4, gA, gB]; refine callK c2 ?_; simp -implicitDefEqProofs [g16, g17, g18, g4, gA, gB]; refine givB [1000000, 1000001] 1000000 c3 (by simp [gA, gB, tr]) rfl (by simp) ?_; rintro r hs' ⟨rfl, rfl⟩; simp -implicitDefEqProofs [g16, g17, g18, g4, gA, gB, takeH, putH, tr]; refine rawFd (e := 125) (ds := [.raw (.map (some u))]) 1000000 (by simp) (by omega) (by simp) (by kernel_rfl) ?_; simp -implicitDefEqProofs [g16, g17, g18, g4, gA, gB]; refine updK (E := none) (m := mapE E) 1000001 map123 (by simp) (fit_str s) (mapE E2) hp ?_; simp -implicitDefEqProofs [g16, g17, g18, g4, gA, gB]; (repeat refine ai (by omega) ?_); exact again hlt ⟨E2, p, u, by simp [g16, strs], by simp [g17], by simp, by simp [g4], hgo, by simp, by simp⟩
  · have hlt' : ¬ (k : Int) < R.length := (by omega); rw [List.drop_eq_nil_of_le (by omega), newGo] at hgo; subst hgo; simp -implicitDefEqProofs [g16, g17, g18, g4, gA, gB, strs, hlt, hlt']; exact ⟨[.d (.raw (va p)), .d (.int .i64 0)], [1000000, 1000001], by simp, by simp [gA, gB, isH], by simp [resDs, resD, g4], .inr ⟨rfl, p, u, rfl, by simp [gA, gB, tr]⟩⟩
end Go.Proofs.Tz