/-
  What the functions that the statements about layer 46 (patch, repeats) reach compute, part 3 of 4: contracts and plain laws, for lists and strings of bounded size (each theorem states its bound).
-/
import Derived.Test.YtbaoflehfkkfnaaGreatDoorTb

set_option linter.unusedSimpArgs false
set_option linter.unusedVariables false

/- Patch operations: differences, in both. -/
set_option maxRecDepth 100000
set_option maxHeartbeats 4000000
set_option linter.unusedVariables false
set_option linter.unusedSimpArgs false
namespace Go.Proofs.Tz
open Go.Vw Go.RowKit Go.Proofs

theorem fm_take {α β : Type} (f : α → List β) {l : List α} {k : Nat} (h : k < l.length) : (l.take (k + 1)).flatMap f = (l.take k).flatMap f ++ f l[k] := by
  rw [take_s h, List.flatMap_append]
  simp only [List.flatMap_cons, List.flatMap_nil, List.append_nil]
theorem fm_len {α β : Type} (f : α → List β) (hf : ∀ x, (f x).length ≤ 1) : ∀ (l : List α), (l.flatMap f).length ≤ l.length
  | [] => by simp
  | x :: l => by
    have := fm_len f hf l
    have := hf x
    simp only [List.flatMap_cons, List.length_append, List.length_cons]
    omega
theorem diffA_len (b : List Att) (x : Att) : (diffA b x).length ≤ 1 := by unfold diffA; split <;> simp
theorem diffB_len (a : List Att) (x : Att) : (diffB a x).length ≤ 1 := by unfold diffB; split <;> (try split) <;> simp
/-- What the first k yield. -/
def dfA (a b : List Att) (k : Nat) : List D := (((sortedL a).take k).flatMap (diffA b)).map popD
def dfB (a b : List Att) (k : Nat) : List D := (((sortedL a).flatMap (diffA b)) ++ ((sortedL b).take k).flatMap (diffB a)).map popD
theorem dfA_len (a b : List Att) (k : Nat) : (dfA a b k).length ≤ k := by
  have := fm_len (diffA b) (diffA_len b) ((sortedL a).take k)
  rw [List.length_take] at this
  simp only [dfA, List.length_map]; omega
theorem dfB_len (a b : List Att) (k : Nat) : (dfB a b k).length ≤ (sortedL a).length + k := by
  have h1 := fm_len (diffA b) (diffA_len b) (sortedL a)
  have h2 := fm_len (diffB a) (diffB_len a) ((sortedL b).take k)
  rw [List.length_take] at h2
  simp only [dfB, List.length_map, List.length_append]; omega
theorem dfA_zero (a b : List Att) : dfA a b 0 = [] := rfl
theorem dfA_succ (a b : List Att) {k : Nat} (h : k < (sortedL a).length) : dfA a b (k + 1) = dfA a b k ++ (diffA b (sortedL a)[k]).map popD := by
  rw [dfA, fm_take _ h, List.map_append]; rfl
theorem dfA_all (a b : List Att) {k : Nat} (h : (sortedL a).length ≤ k) : dfA a b k = dfB a b 0 := by
  rw [dfA, dfB, List.take_of_length_le h]; simp
theorem dfB_succ (a b : List Att) {k : Nat} (h : k < (sortedL b).length) : dfB a b (k + 1) = dfB a b k ++ (diffB a (sortedL b)[k]).map popD := by
  rw [dfB, fm_take _ h, ← List.append_assoc, List.map_append]; rfl
theorem dfB_all (a b : List Att) {k : Nat} (h : (sortedL b).length ≤ k) : dfB a b k = (diffL a b).map popD := by
  rw [dfB, List.take_of_length_le h]; rfl
theorem dfA_w (a b : List Att) (k : Nat) : ∀ u ∈ dfA a b k, width u = 3 := fun u hu => by
  obtain ⟨y, _, rfl⟩ := List.mem_map.1 hu
  rfl
theorem dfB_w (a b : List Att) (k : Nat) : ∀ u ∈ dfB a b k, width u = 3 := fun u hu => by
  obtain ⟨y, _, rfl⟩ := List.mem_map.1 hu
  rfl

theorem diff_fn (a b : List Att) (ha : Fit2 a) (hav : FitV a) (hb : Fit2 b) (hbv : FitV b) : Ctr Tryz.prog 15 [.d (atts a), .d (atts b)] (.d (pops (diffP a b))) := by
  refine fn_of_vwp (fun _ => false) (by kernel_rfl) Tryz.func15 (by kernel_rfl) rfl rfl (Nat.le_of_ble_eq_true rfl) (by kernel_rfl) rfl rfl ?_
  obtain ⟨R, hR⟩ : ∃ R, diffP a b = R := ⟨_, rfl⟩
  rw [hR]
  unfold diffP at hR
  have hca := check_fn a ha.1 hav
  have hcb := check_fn b hb.1 hbv
  have hna := names_fn a ha
  have hsb := sorted_fn b hb
  have hga := fun n hn => get_fn a n ha hn
  have hgb := fun n hn => get_fn b n hb hn
  simp only [atts] at hca hcb hna hsb hga hgb
  by_cases h1 : checkL a = 0
  case neg =>
    rw [if_neg (fun h => h1 h.1)] at hR
    subst hR
    simp -implicitDefEqProofs [atts, pops]
    first | refine callK hca ?_ | refine callP hca ?_
    simp -implicitDefEqProofs [h1]
  by_cases h2 : checkL b = 0
  case neg =>
    rw [if_neg (fun h => h2 h.2)] at hR
    subst hR
    simp -implicitDefEqProofs [atts, pops]
    first | refine callK hca ?_ | refine callP hca ?_
    simp -implicitDefEqProofs [h1]
    first | refine callK hcb ?_ | refine callP hcb ?_
    simp -implicitDefEqProofs [h2]
  rw [if_pos ⟨h1, h2⟩] at hR
  have va := (check_iff a).1 h1
  have vb := (check_iff b).1 h2
  have hla := va.sorted.len
  have hlb := vb.sorted.len
  have fa := (valid_fit va.sorted).1.1.2
  have fb := (valid_fit vb.sorted).1.1.2
  have hgla := fun n => va.get n
  have hglb := fun n => vb.get n
  simp -implicitDefEqProofs [atts]
  first | refine callK hca ?_ | refine callP hca ?_
  simp -implicitDefEqProofs [h1]
  first | refine callK hcb ?_ | refine callP hcb ?_
  simp -implicitDefEqProofs [h2]
  first | refine callK hna ?_ | refine callP hna ?_
  simp -implicitDefEqProofs [firsts]
  refine loopN (sortedL a).length (fun k τ => τ 0 = .d (.sl (a.map att)) ∧ τ 1 = .d (.sl (b.map att)) ∧ τ 20 = .own false 9 ((sortedL a).map fun x => .str x.1) ∧ τ 21 = .d (.int .i64 (sortedL a).length) ∧ τ 22 = .d (.int .i64 k) ∧ τ 5 = .own false 26 (dfA a b k)) (by simp [dfA_zero]) ?_
  clear hca hcb hna
  rintro k τ hk ⟨h0, h1', h20, h21, h22, h5⟩
  have hol := dfA_len a b k
  by_cases hlt : k < (sortedL a).length
  · have hs := dfA_succ a b hlt
    have hw := dfA_w a b k
    have hx0 := fa _ (List.getElem_mem hlt)
    have hg := hgb _ hx0.1
    generalize hx : (sortedL a)[k] = x at *
    generalize dfA a b k = out at *
    unfold diffA at hs
    by_cases hn : getL b x.1 = []
    · rw [if_pos hn] at hs
      rw [hn] at hg
      simp -implicitDefEqProofs [h0, h1', h20, h21, h22, h5, hlt, hx]
      repeat refine And.intro (by omega) ?_
      first | refine callK hg ?_ | refine callP hg ?_
      simp -implicitDefEqProofs [h0, h1', h20, h21, h22, h5, hlt, hx]
      repeat refine And.intro (by omega) ?_
      refine again hlt ⟨by simp [h0], by simp [h1'], by simp [h20], by simp [h21], by simp, by simp [h5, hs, popD, strs, oRem]⟩
    · rw [if_neg hn] at hs
      have hn' : ¬ ((getL b x.1).length : Int) = 0 := by
        have := List.length_pos_iff.2 hn
        omega
      simp -implicitDefEqProofs [h0, h1', h20, h21, h22, h5, hlt, hx]
      repeat refine And.intro (by omega) ?_
      first | refine callK hg ?_ | refine callP hg ?_
      simp -implicitDefEqProofs [h0, h1', h20, h21, h22, h5, hlt, hx, hn, hn']
      repeat refine And.intro (by omega) ?_
      refine again hlt ⟨by simp [h0], by simp [h1'], by simp [h20], by simp [h21], by simp, by simp [h5, hs, popD, strs, oRem]⟩
  · rw [dfA_all a b (by omega)] at h5
    simp -implicitDefEqProofs [h0, h1', h20, h21, h22, h5, hlt]
    first | refine callK hsb ?_ | refine callP hsb ?_
    simp -implicitDefEqProofs [h0, h1', h20, h21, h22, h5, hlt]
    refine loopN (sortedL b).length (fun k τ => τ 0 = .d (.sl (a.map att)) ∧ τ 1 = .d (.sl (b.map att)) ∧ τ 38 = .own false 39 ((sortedL b).map att) ∧ τ 39 = .d (.int .i64 (sortedL b).length) ∧ τ 40 = .d (.int .i64 k) ∧ τ 5 = .own false 26 (dfB a b k)) (by simp [h0, h1', h5]) ?_
    clear h0 h1' h20 h21 h22 h5 hol hlt hk τ k
    rintro k τ hk ⟨h0, h1', h38, h39, h40, h5⟩
    have hol := dfB_len a b k
    by_cases hlt : k < (sortedL b).length
    · have hs := dfB_succ a b hlt
      have hw := dfB_w a b k
      have hx0 := fb _ (List.getElem_mem hlt)
      have hg := hga _ hx0.1
      have hgl := hgla (sortedL b)[k].1
      generalize hx : (sortedL b)[k] = x at *
      generalize dfB a b k = out at *
      obtain ⟨n, vs⟩ := x
      simp only at hg hgl hx0
      unfold diffB at hs
      simp only at hs
      by_cases hn : getL a n = []
      · rw [if_pos hn] at hs
        rw [hn] at hg
        simp -implicitDefEqProofs [h0, h1', h38, h39, h40, h5, hlt, hx, att, strs]
        repeat refine And.intro (by omega) ?_
        first | refine callK hg ?_ | refine callP hg ?_
        simp -implicitDefEqProofs [h0, h1', h38, h39, h40, h5, hlt, hx, att, strs]
        repeat refine And.intro (by omega) ?_
        refine again hlt ⟨by simp [h0], by simp [h1'], by simp [h38], by simp [h39], by simp, by simp [h5, hs, popD, strs, oAdd, oRepl]⟩
      · rw [if_neg hn] at hs
        have hn' : ¬ ((getL a n).length : Int) = 0 := by
          have := List.length_pos_iff.2 hn
          omega
        have heq := eqS_fn (getL a n) vs (by omega) hx0.2
        simp only [strs] at heq
        by_cases he : getL a n = vs
        · rw [if_pos he] at hs
          simp -implicitDefEqProofs [h0, h1', h38, h39, h40, h5, hlt, hx, att, strs]
          repeat refine And.intro (by omega) ?_
          first | refine callK hg ?_ | refine callP hg ?_
          simp -implicitDefEqProofs [h0, h1', h38, h39, h40, h5, hlt, hx, att, strs, hn, hn']
          repeat refine And.intro (by omega) ?_
          refine callK heq ?_
          simp -implicitDefEqProofs [h0, h1', h38, h39, h40, h5, hlt, hx, att, strs, he]
          repeat refine And.intro (by omega) ?_
          refine again hlt ⟨by simp [h0], by simp [h1'], by simp [h38], by simp [h39], by simp, by simp [h5, hs, popD, strs, oAdd, oRepl]⟩
        · rw [if_neg he] at hs
          simp -implicitDefEqProofs [h0, h1', h38, h39, h40, h5, hlt, hx, att, strs]
          repeat refine And.intro (by omega) ?_
          first | refine callK hg ?_ | refine callP hg ?_
          simp -implicitDefEqProofs [h0, h1', h38, h39, h40, h5, hlt, hx, att, strs, hn, hn']
          repeat refine And.intro (by omega) ?_
          refine callK heq ?_
          simp -implicitDefEqProofs [h0, h1', h38, h39, h40, h5, hlt, hx, att, strs, he]
          repeat refine And.intro (by omega) ?_
          refine again hlt ⟨by simp [h0], by simp [h1'], by simp [h38], by simp [h39], by simp, by simp [h5, hs, popD, strs, oAdd, oRepl]⟩
    · rw [dfB_all a b (by omega)] at h5
      subst hR
      simp -implicitDefEqProofs [h0, h1', h38, h39, h40, h5, hlt, pops]

end Go.Proofs.Tz

/- Patch operations: compaction, in both. -/
set_option maxRecDepth 100000
set_option maxHeartbeats 4000000
set_option linter.unusedVariables false
set_option linter.unusedSimpArgs false
namespace Go.Proofs.Tz
open Go.Vw Go.RowKit Go.Proofs

theorem attr_fn (x : POp) (hp : List.length x.2.1 < 1000000) : Ctr Tryz.prog 37 [.d (popD x)] (.tup [.d (.str (nameP x)), .d (.str (partP x))]) := by
  obtain ⟨o, p, vs⟩ := x
  simp only at hp
  refine fn_of_vwpN (rv := .tmp 2) (rs := [.tmp 3]) (r := .d (.str (nameP (o, p, vs)))) (ys := [.d (.str (partP (o, p, vs)))]) (fun _ => false) (by kernel_rfl) Tryz.func37 (by kernel_rfl) rfl rfl (by simp) (Nat.le_of_ble_eq_true rfl) (by kernel_rfl) rfl rfl ?_
  have hpath := path_fn p hp
  have hl := foldLower_fn (pathP p).1 (by have := (path_len (s := p)).1; omega)
  simp -implicitDefEqProofs [popD, strs]
  refine callK hpath ?_
  simp -implicitDefEqProofs
  first | refine callK hl ?_ | refine callP hl ?_
  simp -implicitDefEqProofs [nameP, partP]

theorem replaced_fn (x : POp) (n : Str) (hp : List.length x.2.1 < 1000000) : Ctr Tryz.prog 40 [.d (popD x), .d (.ref (.clo 37 [])), .d (.ref (.str n))] (.d (.bool (decide (nameP x = n) && wholeP x))) := by
  have ha := attr_fn x hp
  have hw : wholeP x = (decide (partP x = []) && !decide (x.1 = oAdd)) := rfl
  rw [hw]
  obtain ⟨o, p, vs⟩ := x
  simp only [popD, strs] at ha
  refine fn_of_vwp (fun _ => false) (by kernel_rfl) Tryz.func40 (by kernel_rfl) rfl rfl (Nat.le_of_ble_eq_true rfl) (by kernel_rfl) rfl rfl ?_
  generalize nameP (o, p, vs) = m at *
  generalize partP (o, p, vs) = v at *
  by_cases h1 : m = n
  · by_cases h2 : v = []
    · by_cases h3 : o = oAdd
      all_goals
        simp -implicitDefEqProofs [popD, strs]
        refine callK ha ?_
        simp -implicitDefEqProofs [h1, h2, h3]
    · simp -implicitDefEqProofs [popD, strs]
      refine callK ha ?_
      simp -implicitDefEqProofs [h1, h2]
  · simp -implicitDefEqProofs [popD, strs]
    refine callK ha ?_
    simp -implicitDefEqProofs [h1]

theorem indexP_fn (g : FuncId) (cs : List D) (hcs : (cs.all fun c => !c.isAgg) = true) (p : POp → Bool) (l : List POp) (hl : l.length < 1000000) (hp : ∀ a ∈ l, Ctr Tryz.prog g ([.d (popD a)] ++ cs.map .d) (.d (.bool (p a)))) :
    Ctr Tryz.prog 71 [.d (pops l), .d (.clo g cs)] (.d (.int .i64 (idxR p 0 l))) := by
  refine fn_of_vwp (fun _ => false) (by kernel_rfl) Tryz.func71 (by kernel_rfl) rfl rfl (Nat.le_of_ble_eq_true rfl) (by kernel_rfl) rfl rfl ?_
  simp -implicitDefEqProofs [pops]
  refine loopN l.length (fun k τ => τ 0 = .d (.sl (l.map popD)) ∧ τ 1 = .d (.clo g cs) ∧ τ 7 = .d (.int .i64 l.length) ∧ τ 8 = .d (.int .i64 k) ∧ idxR p 0 l = idxR p k (l.drop k)) (by simp) ?_
  rintro k τ hk ⟨h0, h1, h7, h8, hi⟩
  by_cases hlt : k < l.length
  · rw [idxR_drop hlt] at hi
    have hf := hp _ (List.getElem_mem hlt)
    generalize hx : l[k] = x at *
    simp only [popD, strs, List.cons_append, List.nil_append] at hf
    simp -implicitDefEqProofs [h0, h1, h7, h8, popD, strs, hlt, hx]
    refine ⟨by simpa using hcs, callK hf ?_⟩
    by_cases he : p x = true
    · simp -implicitDefEqProofs [h0, h1, h7, h8, hlt, he]
      rw [hi, if_pos he]
    · simp -implicitDefEqProofs [h0, h1, h7, h8, hlt, he]
      refine ⟨by omega, again hlt ⟨by simp [h0], by simp [h1], by simp [h7], by simp, ?_⟩⟩
      rw [hi, if_neg he]
  · simp -implicitDefEqProofs [h0, h1, h7, h8, hlt]
    rw [hi, List.drop_eq_nil_of_le (by omega)]
    simp -implicitDefEqProofs [idxR]
theorem idxR_any {α : Type} (p : α → Bool) : ∀ (l : List α) (k : Nat), decide ((0 : Int) ≤ idxR p k l) = l.any p
  | [], k => by simp [idxR]
  | x :: l, k => by
    have := idxR_any p l (k + 1)
    rw [idxR, List.any_cons]
    by_cases hx : p x = true
    · rw [if_pos hx]; simp [hx]
    · rw [if_neg hx, this]; simp [hx]
theorem later_fn (l : List POp) (n : Str) (hl : l.length < 1000000) (hp : ∀ x ∈ l, List.length x.2.1 < 1000000) : Ctr Tryz.prog 39 [.d (pops l), .d (.clo 40 [.ref (.clo 37 []), .ref (.str n)])] (.d (.bool (laterP n l))) := by
  refine fn_of_vwp (fun _ => false) (by kernel_rfl) Tryz.func39 (by kernel_rfl) rfl rfl (Nat.le_of_ble_eq_true rfl) (by kernel_rfl) rfl rfl ?_
  have hi := indexP_fn 40 [.ref (.clo 37 []), .ref (.str n)] rfl (fun y => decide (nameP y = n) && wholeP y) l hl (fun a ha => replaced_fn a n (hp a ha))
  have h2 := idxR_any (fun y => decide (nameP y = n) && wholeP y) l 0
  rw [show laterP n l = decide ((0 : Int) ≤ idxR (fun y => decide (nameP y = n) && wholeP y) 0 l) from h2.symm]
  generalize idxR (fun y => decide (nameP y = n) && wholeP y) 0 l = ix at *
  simp only [pops] at hi
  simp -implicitDefEqProofs [pops]
  refine callK hi ?_
  simp -implicitDefEqProofs
theorem cloneP_fn (l : List POp) (hl : l.length < 1000000) : Ctr Tryz.prog 36 [.d (pops l)] (.own true 26 (l.map popD)) := by
  refine fn_of_vwp (fun i => i == 2 || i == 5) (by kernel_rfl) Tryz.func36 (by kernel_rfl) rfl rfl (Nat.le_of_ble_eq_true rfl) (by kernel_rfl) rfl rfl ?_
  by_cases h : l = []
  · subst h
    simp -implicitDefEqProofs [pops]
  · simp -implicitDefEqProofs [pops, h]
    refine ⟨?_, by omega, by omega⟩
    rintro u x y z _ rfl
    rfl
end Go.Proofs.Tz

/- Patch operations: compaction, in both. -/
set_option maxRecDepth 100000
set_option maxHeartbeats 4000000
set_option linter.unusedVariables false
set_option linter.unusedSimpArgs false
namespace Go.Proofs.Tz
open Go.Vw Go.RowKit Go.Proofs

theorem compL_drop {l : List POp} {k : Nat} (h : k < l.length) : compL (l.drop k) = if goneP l[k] && laterP (nameP l[k]) (l.drop (k + 1)) then compL (l.drop (k + 1)) else l[k] :: compL (l.drop (k + 1)) := by
  rw [List.drop_eq_getElem_cons h, compL]
def CmpI (R l : List POp) (k : Nat) (out : List POp) : Prop := out.length ≤ k ∧ R = out ++ compL (l.drop k)
theorem CmpI.skip {R l out : List POp} {k : Nat} (hi : CmpI R l k out) (h : k < l.length) (hg : (goneP l[k] && laterP (nameP l[k]) (l.drop (k + 1))) = true) : CmpI R l (k + 1) out := by
  obtain ⟨h1, h2⟩ := hi
  rw [compL_drop h, if_pos hg] at h2
  exact ⟨by omega, h2⟩
theorem CmpI.keep {R l out : List POp} {k : Nat} (hi : CmpI R l k out) (h : k < l.length) (hg : (goneP l[k] && laterP (nameP l[k]) (l.drop (k + 1))) = false) : CmpI R l (k + 1) (out ++ [l[k]]) := by
  obtain ⟨h1, h2⟩ := hi
  rw [compL_drop h, if_neg (by simp [hg])] at h2
  exact ⟨by simp; omega, by rw [h2]; simp⟩

theorem pcompact_fn (l : List POp) (hl : FitP l) : Ctr Tryz.prog 16 [.d (pops l)] (.d (pops (compP l))) := by
  refine fn_of_vwp (fun _ => false) (by kernel_rfl) Tryz.func16 (by kernel_rfl) rfl rfl (Nat.le_of_ble_eq_true rfl) (by kernel_rfl) rfl rfl ?_
  obtain ⟨R, hR⟩ : ∃ R, compP l = R := ⟨_, rfl⟩
  rw [hR]
  unfold compP at hR
  have hcl := pcheck_fn l hl
  have hcn := cloneP_fn l hl.1
  simp only [pops] at hcl hcn
  by_cases h1 : checkP l = 0
  case neg =>
    rw [if_neg h1] at hR
    subst hR
    simp -implicitDefEqProofs [pops]
    refine callK hcl ?_
    simp -implicitDefEqProofs [h1]
    refine callK hcn ?_
    simp -implicitDefEqProofs
  rw [if_pos h1] at hR
  obtain ⟨h32, hok⟩ := (checkP_zero l).1 h1
  simp -implicitDefEqProofs [pops]
  refine callK hcl ?_
  simp -implicitDefEqProofs [h1]
  refine loopN l.length (fun k τ => τ 0 = .d (.sl (l.map popD)) ∧ (τ 3 = .box (.clo 37 []) ∨ τ 3 = .d (.ref (.clo 37 []))) ∧ τ 16 = .d (.sl (l.map popD)) ∧ τ 17 = .d (.int .i64 l.length) ∧ τ 18 = .d (.int .i64 k) ∧ ∃ out, τ 4 = .own false 26 (out.map popD) ∧ CmpI R l k out) ?_ ?_
  · exact ⟨by simp, .inl (by simp), by simp, by simp, by simp, [], by simp, by simp, by rw [← hR]; rfl⟩
  clear hcl hcn hR
  rintro k τ hk ⟨h0, h3, h16, h17, h18, out, h4, hi⟩
  have hol := hi.1
  by_cases hlt : k < l.length
  · have hlt' : (k : Int) < l.length := by omega
    have hx0 := hl.2 _ (List.getElem_mem hlt)
    have hxo := hok _ (List.getElem_mem hlt)
    have hat := attr_fn l[k] hx0.2.1
    have hlat := later_fn (l.drop (k + 1)) (nameP l[k]) (by rw [List.length_drop]; omega) (fun x hx => (hl.2 x (List.mem_of_mem_drop hx)).2.1)
    have hsk := hi.skip hlt
    have hkp := hi.keep hlt
    have hcv := clone_fn l[k].2.2 hx0.2.2.1
    have i1 : (0 : Int) ≤ (k : Int) + 1 := by omega
    have j1 : ((k : Int) + 1).toNat = k + 1 := by omega
    generalize hx : l[k] = x at *
    generalize nameP x = n at *
    generalize partP x = pv at *
    generalize hL : laterP n (l.drop (k + 1)) = L at *
    have hgd : goneP x = (decide (x.1 = oAdd) || (decide (x.1 = oRepl) && decide (x.2.2 ≠ []))) := rfl
    have hop := hxo.op
    obtain ⟨o, p, vs⟩ := x
    simp only at hgd hop hcv
    simp only [popD, strs] at hat hcv
    simp only [pops, List.map_drop] at hlat
    have e1 : List.take (l.length - (k + 1)) (List.drop (k + 1) (l.map popD)) = (l.map popD).drop (k + 1) := List.take_of_length_le (by simp)
    rw [← e1] at hlat
    have hz1 : (0 : Int) < vs.length ↔ vs ≠ [] := by rw [← List.length_pos_iff]; omega
    generalize goneP (o, p, vs) = G at *
    cases hL' : L with
    | false =>
      subst hL'
      have hkp' := hkp (by simp)
      rcases opB_cases hop with rfl | rfl | rfl
      · rcases h3 with h3 | h3
        all_goals
          simp -implicitDefEqProofs [h0, h3, h16, h17, h18, h4, hlt, hlt', hx, popD, strs, i1, j1]
          refine callK hat ?_
          simp -implicitDefEqProofs [h0, h3, h16, h17, h18, h4, hlt, hlt', hx, popD, strs, i1, j1]
          repeat refine And.intro (by omega) ?_
          refine ⟨by rintro y a b c _ rfl; rfl, ?_⟩
          refine callK hlat ?_
          simp -implicitDefEqProofs [h0, h3, h16, h17, h18, h4, hlt, hlt', hx, popD, strs, i1, j1]
          refine callK hcv ?_
          simp -implicitDefEqProofs [h0, h3, h16, h17, h18, h4, hlt, hlt', hx, popD, strs, i1, j1]
          repeat refine And.intro (by omega) ?_
          exact again hlt ⟨by simp [h0], .inr (by simp [h3]), by simp [h16], by simp [h17], by simp, out ++ [_], by simp [h4, popD, strs], hkp'⟩
      · rcases h3 with h3 | h3
        all_goals
          simp -implicitDefEqProofs [h0, h3, h16, h17, h18, h4, hlt, hlt', hx, popD, strs, i1, j1]
          refine callK hat ?_
          simp -implicitDefEqProofs [h0, h3, h16, h17, h18, h4, hlt, hlt', hx, popD, strs, i1, j1]
          repeat refine And.intro (by omega) ?_
          refine ⟨by rintro y a b c _ rfl; rfl, ?_⟩
          refine callK hlat ?_
          simp -implicitDefEqProofs [h0, h3, h16, h17, h18, h4, hlt, hlt', hx, popD, strs, i1, j1]
          refine callK hcv ?_
          simp -implicitDefEqProofs [h0, h3, h16, h17, h18, h4, hlt, hlt', hx, popD, strs, i1, j1]
          repeat refine And.intro (by omega) ?_
          exact again hlt ⟨by simp [h0], .inr (by simp [h3]), by simp [h16], by simp [h17], by simp, out ++ [_], by simp [h4, popD, strs], hkp'⟩
      · by_cases hvs : vs = []
        · subst hvs
          rcases h3 with h3 | h3
          all_goals
            simp -implicitDefEqProofs [h0, h3, h16, h17, h18, h4, hlt, hlt', hx, popD, strs, i1, j1]
            refine callK hat ?_
            simp -implicitDefEqProofs [h0, h3, h16, h17, h18, h4, hlt, hlt', hx, popD, strs, i1, j1]
            repeat refine And.intro (by omega) ?_
            refine ⟨by rintro y a b c _ rfl; rfl, ?_⟩
            refine callK hlat ?_
            simp -implicitDefEqProofs [h0, h3, h16, h17, h18, h4, hlt, hlt', hx, popD, strs, i1, j1]
            refine callK hcv ?_
            simp -implicitDefEqProofs [h0, h3, h16, h17, h18, h4, hlt, hlt', hx, popD, strs, i1, j1]
            repeat refine And.intro (by omega) ?_
            exact again hlt ⟨by simp [h0], .inr (by simp [h3]), by simp [h16], by simp [h17], by simp, out ++ [_], by simp [h4, popD, strs], hkp'⟩
        · have hvs' := hz1.2 hvs
          have hvl : 0 < vs.length := List.length_pos_iff.2 hvs
          rcases h3 with h3 | h3
          all_goals
            simp -implicitDefEqProofs [h0, h3, h16, h17, h18, h4, hlt, hlt', hx, popD, strs, i1, j1]
            refine callK hat ?_
            simp -implicitDefEqProofs [h0, h3, h16, h17, h18, h4, hlt, hlt', hx, popD, strs, i1, j1]
            repeat refine And.intro (by omega) ?_
            refine ⟨by rintro y a b c _ rfl; rfl, ?_⟩
            refine callK hlat ?_
            simp -implicitDefEqProofs [h0, h3, h16, h17, h18, h4, hlt, hlt', hx, popD, strs, i1, j1, hvs, hvs', hvl]
            refine callK hcv ?_
            simp -implicitDefEqProofs [h0, h3, h16, h17, h18, h4, hlt, hlt', hx, popD, strs, i1, j1, hvs, hvs', hvl]
            repeat refine And.intro (by omega) ?_
            exact again hlt ⟨by simp [h0], .inr (by simp [h3]), by simp [h16], by simp [h17], by simp, out ++ [_], by simp [h4, popD, strs], hkp'⟩
    | true =>
      subst hL'
      cases hG : G with
      | false =>
        subst hG
        have hkp' := hkp rfl
        rcases opB_cases hop with rfl | rfl | rfl
        · simp at hgd
        · rcases h3 with h3 | h3
          all_goals
            simp -implicitDefEqProofs [h0, h3, h16, h17, h18, h4, hlt, hlt', hx, popD, strs, i1, j1]
            refine callK hat ?_
            simp -implicitDefEqProofs [h0, h3, h16, h17, h18, h4, hlt, hlt', hx, popD, strs, i1, j1]
            repeat refine And.intro (by omega) ?_
            refine ⟨by rintro y a b c _ rfl; rfl, ?_⟩
            refine callK hlat ?_
            simp -implicitDefEqProofs [h0, h3, h16, h17, h18, h4, hlt, hlt', hx, popD, strs, i1, j1]
            refine callK hcv ?_
            simp -implicitDefEqProofs [h0, h3, h16, h17, h18, h4, hlt, hlt', hx, popD, strs, i1, j1]
            repeat refine And.intro (by omega) ?_
            exact again hlt ⟨by simp [h0], .inr (by simp [h3]), by simp [h16], by simp [h17], by simp, out ++ [_], by simp [h4, popD, strs], hkp'⟩
        · have hvs : vs = [] := by
            have e1 : ¬ oRepl = oAdd := by decide
            simpa [e1] using hgd
          subst hvs
          rcases h3 with h3 | h3
          all_goals
            simp -implicitDefEqProofs [h0, h3, h16, h17, h18, h4, hlt, hlt', hx, popD, strs, i1, j1]
            refine callK hat ?_
            simp -implicitDefEqProofs [h0, h3, h16, h17, h18, h4, hlt, hlt', hx, popD, strs, i1, j1]
            repeat refine And.intro (by omega) ?_
            refine ⟨by rintro y a b c _ rfl; rfl, ?_⟩
            refine callK hlat ?_
            simp -implicitDefEqProofs [h0, h3, h16, h17, h18, h4, hlt, hlt', hx, popD, strs, i1, j1]
            refine callK hcv ?_
            simp -implicitDefEqProofs [h0, h3, h16, h17, h18, h4, hlt, hlt', hx, popD, strs, i1, j1]
            repeat refine And.intro (by omega) ?_
            exact again hlt ⟨by simp [h0], .inr (by simp [h3]), by simp [h16], by simp [h17], by simp, out ++ [_], by simp [h4, popD, strs], hkp'⟩
      | true =>
        subst hG
        have hsk' := hsk rfl
        rcases opB_cases hop with rfl | rfl | rfl
        · rcases h3 with h3 | h3
          all_goals
            simp -implicitDefEqProofs [h0, h3, h16, h17, h18, h4, hlt, hlt', hx, popD, strs, i1, j1]
            refine callK hat ?_
            simp -implicitDefEqProofs [h0, h3, h16, h17, h18, h4, hlt, hlt', hx, popD, strs, i1, j1]
            repeat refine And.intro (by omega) ?_
            refine ⟨by rintro y a b c _ rfl; rfl, ?_⟩
            refine callK hlat ?_
            simp -implicitDefEqProofs [h0, h3, h16, h17, h18, h4, hlt, hlt', hx, popD, strs, i1, j1]
            repeat refine And.intro (by omega) ?_
            exact again hlt ⟨by simp [h0], .inr (by simp [h3]), by simp [h16], by simp [h17], by simp, out, by simp [h4], hsk'⟩
        · have e1 : ¬ oRem = oAdd := by decide
          have e2 : ¬ oRem = oRepl := by decide
          simp [e1, e2] at hgd
        · have hvs : vs ≠ [] := by
            have e1 : ¬ oRepl = oAdd := by decide
            simpa [e1] using hgd
          have hvs' := hz1.2 hvs
          have hvl : 0 < vs.length := List.length_pos_iff.2 hvs
          rcases h3 with h3 | h3
          all_goals
            simp -implicitDefEqProofs [h0, h3, h16, h17, h18, h4, hlt, hlt', hx, popD, strs, i1, j1]
            refine callK hat ?_
            simp -implicitDefEqProofs [h0, h3, h16, h17, h18, h4, hlt, hlt', hx, popD, strs, i1, j1]
            repeat refine And.intro (by omega) ?_
            refine ⟨by rintro y a b c _ rfl; rfl, ?_⟩
            refine callK hlat ?_
            simp -implicitDefEqProofs [h0, h3, h16, h17, h18, h4, hlt, hlt', hx, popD, strs, i1, j1, hvs, hvs', hvl]
            repeat refine And.intro (by omega) ?_
            exact again hlt ⟨by simp [h0], .inr (by simp [h3]), by simp [h16], by simp [h17], by simp, out, by simp [h4], hsk'⟩
  · have hlt' : ¬ (k : Int) < l.length := by omega
    have h2 := hi.2
    rw [List.drop_of_length_le (by omega)] at h2
    simp only [compL, List.append_nil] at h2
    subst h2
    simp -implicitDefEqProofs [h0, h3, h16, h17, h18, h4, hlt, hlt', pops]
end Go.Proofs.Tz

/- Patch operations: compaction, the reference's. -/
set_option maxRecDepth 100000
set_option maxHeartbeats 4000000
set_option linter.unusedVariables false
set_option linter.unusedSimpArgs false
namespace Go.Proofs.Tz
open Go.Vw Go.RowKit Go.Proofs

end Go.Proofs.Tz

/- Patch operations: their text, in both. -/
set_option maxRecDepth 100000
set_option maxHeartbeats 4000000
set_option linter.unusedVariables false
set_option linter.unusedSimpArgs false
namespace Go.Proofs.Tz
open Go.Vw Go.RowKit Go.Proofs

theorem linesP_take {l : List POp} {k : Nat} (h : k < l.length) : linesP (l.take (k + 1)) = linesP (l.take k) ++ lineSP l[k] := by
  rw [take_s h]
  simp only [linesP, List.flatMap_append, List.flatMap_cons, List.flatMap_nil, List.append_nil]
theorem wordsO_take {vs : List Str} {k : Nat} (h : k < vs.length) : wordsO (vs.take (k + 1)) = wordsO (vs.take k) ++ 32 :: escS vs[k] := by
  rw [take_s h]
  simp only [wordsO, List.flatMap_append, List.flatMap_cons, List.flatMap_nil, List.append_nil]
theorem wordsO_len {vs : List Str} (h : ∀ v ∈ vs, List.length v < 1000000) (k : Nat) : (wordsO (vs.take k)).length ≤ 3000001 * k := by
  induction k with
  | zero => simp [wordsO]
  | succ k ih =>
    by_cases hk : k < vs.length
    · have := escS_len vs[k]
      have := h vs[k] (List.getElem_mem hk)
      rw [wordsO_take hk]
      simp only [List.length_append, List.length_cons]
      omega
    · rw [List.take_of_length_le (by omega)] at ih ⊢
      omega
theorem op_len {o : Str} (h : opB o = true) : List.length o ≤ 7 := by
  rcases opB_cases h with rfl | rfl | rfl <;> decide
theorem lineSP_len {x : POp} (hx : OkOp x) (hp : List.length x.2.1 < 1000000) (hv : ∀ v ∈ x.2.2, List.length v < 1000000) : (lineSP x).length ≤ 60000000 := by
  have a := op_len hx.op
  have b := escS_len x.2.1
  have c := wordsO_len hv x.2.2.length
  rw [List.take_length] at c
  have d := hx.len
  simp only [lineSP, line0P, List.length_append, List.length_cons, List.length_nil]
  omega
theorem linesP_len {l : List POp} (hl : FitP l) (hok : ∀ x ∈ l, OkOp x) (k : Nat) : (linesP (l.take k)).length ≤ 60000000 * k := by
  induction k with
  | zero => simp [linesP]
  | succ k ih =>
    by_cases hk : k < l.length
    · have := lineSP_len (hok l[k] (List.getElem_mem hk)) (hl.2 l[k] (List.getElem_mem hk)).2.1 (hl.2 l[k] (List.getElem_mem hk)).2.2.2
      rw [linesP_take hk, List.length_append]
      omega
    · rw [List.take_of_length_le (by omega)] at ih ⊢
      omega

theorem ptext_fn (l : List POp) (hl : FitP l) : Ctr Tryz.prog 14 [.d (pops l)] (.tup [.d (.str (textP l).1), .d (.int .i64 (textP l).2)]) := by
  refine fn_of_vwpN (rv := .tmp 2) (rs := [.tmp 3]) (r := .d (.str (textP l).1)) (ys := [.d (.int .i64 (textP l).2)]) (fun i => i == 1000005 || i == 5000028 || i == 5000039 || i == 5000041 || i == 5000043 || i == 5000045) (by kernel_rfl) Tryz.func14 (by kernel_rfl) rfl rfl (by simp) (Nat.le_of_ble_eq_true rfl) (by kernel_rfl) rfl rfl ?_
  obtain ⟨R, hR⟩ : ∃ R, textP l = R := ⟨_, rfl⟩
  rw [hR]
  unfold textP at hR
  have hcl := pcheck_fn l hl
  simp only [pops] at hcl
  by_cases hc : checkP l = 0
  case neg =>
    rw [if_neg hc] at hR
    subst hR
    simp -implicitDefEqProofs [pops]
    refine callK hcl ?_
    simp -implicitDefEqProofs [hc]
  rw [if_pos hc] at hR
  obtain ⟨h32, hok⟩ := (checkP_zero l).1 hc
  simp -implicitDefEqProofs [pops]
  refine callK hcl ?_
  simp -implicitDefEqProofs [hc]
  refine newK2 1000000 1000001 5 (by simp) (by kernel_rfl) (by simp) (by simp) (fun b => ?_)
  simp -implicitDefEqProofs
  refine loopN l.length (fun k τ => τ 15 = .d (.sl (l.map popD)) ∧ τ 16 = .d (.int .i64 l.length) ∧ τ 17 = .d (.int .i64 k) ∧ τ 5 = .d (.raw (va b)) ∧ BldAt τ b (linesP (l.take k))) ?_ ?_
  · exact ⟨by simp, by simp, by simp, by simp, .nilp, .slice none 0 0, .inl rfl, by simp [zTX61], by simp [linesP, bytesD]⟩
  clear hcl
  rintro k τ hk ⟨h15, h16, h17, h5, pp, hd, hp, hb, hh⟩
  have hbl := linesP_len hl hok k
  by_cases hlt : k < l.length
  · have hlt' : (k : Int) < l.length := by omega
    have hs := linesP_take hlt
    obtain ⟨f1, f2, f3, f4⟩ := hl.2 l[k] (List.getElem_mem hlt)
    have hx0 := hok l[k] (List.getElem_mem hlt)
    generalize hx : l[k] = x at *
    obtain ⟨o, p, vs⟩ := x
    simp only at f1 f2 f3 f4
    have ho := op_len hx0.op
    have he := escS_len p
    have hvl := hx0.len
    simp only at ho hvl
    generalize linesP (l.take k) = acc at *
    simp -implicitDefEqProofs [h15, h16, h17, h5, hlt, hlt', hx, popD, strs]
    repeat refine And.intro (by omega) ?_
    refine callP (escape_fn p f2) ?_
    simp -implicitDefEqProofs [h15, h16, h17, h5, hlt, hlt', hx, popD, strs]
    repeat refine And.intro (by omega) ?_
    refine givB [1000000, 1000001] 1000000 (writeString_fn (s := acc) (hd := hd) hp (o ++ 32 :: escS p) (by simp; omega)) (by simp [hb, hh]) rfl (by simp) ?_
    rintro r hs' ⟨hd1, rfl⟩
    simp -implicitDefEqProofs [h15, h16, h17, h5, hlt, hlt', takeH, putH]
    refine loopN vs.length (fun j τ => τ 15 = .d (.sl (l.map popD)) ∧ τ 16 = .d (.int .i64 l.length) ∧ τ 17 = .d (.int .i64 k) ∧ τ 5 = .d (.raw (va b)) ∧ τ 30 = .d (.sl (vs.map .str)) ∧ τ 31 = .d (.int .i64 vs.length) ∧ τ 32 = .d (.int .i64 j) ∧ BldAt τ b (acc ++ (o ++ 32 :: (escS p ++ wordsO (vs.take j))))) ?_ ?_
    · exact ⟨by simp [h15], by simp [h16], by simp [h17], by simp [h5], by simp, by simp, by simp, .raw (va b), hd1, .inr rfl, by simp, by simp [wordsO]⟩
    clear h15 h16 h17 h5 hb hh hp hd pp τ
    rintro j τ hj ⟨h15, h16, h17, h5, h30, h31, h32', pp, hd, hp, hb, hh⟩
    have hw := wordsO_len f4 j
    by_cases hjt : j < vs.length
    · have hjt' : (j : Int) < vs.length := by omega
      have hw1 := wordsO_take hjt
      have hvv := f4 vs[j] (List.getElem_mem hjt)
      have hev := escS_len vs[j]
      generalize hy : vs[j] = y at *
      simp -implicitDefEqProofs [h15, h16, h17, h5, h30, h31, h32', hjt, hjt', hy]
      refine callK (escape_fn y hvv) ?_
      simp -implicitDefEqProofs [h15, h16, h17, h5, h30, h31, h32']
      repeat refine And.intro (by omega) ?_
      refine givB [1000000, 1000001] 1000000 (writeString_fn (s := acc ++ (o ++ 32 :: (escS p ++ wordsO (vs.take j)))) (hd := hd) hp (32 :: escS y) (by simp only [List.length_append, List.length_cons]; omega)) (by simp [hb, hh]) rfl (by simp) ?_
      rintro r hs' ⟨hd2, rfl⟩
      simp -implicitDefEqProofs [h15, h16, h17, h5, h30, h31, h32', takeH, putH]
      repeat refine And.intro (by omega) ?_
      refine again hjt ⟨by simp [h15], by simp [h16], by simp [h17], by simp [h5], by simp [h30], by simp [h31], by simp, .raw (va b), hd2, .inr rfl, by simp, by simp [hw1]⟩
    · have hjt' : ¬ (j : Int) < vs.length := by omega
      rw [List.take_of_length_le (by omega)] at hh hw
      simp -implicitDefEqProofs [h15, h16, h17, h5, h30, h31, h32', hjt, hjt']
      refine givB [1000000, 1000001] 1000000 (writeString_fn (s := acc ++ (o ++ 32 :: (escS p ++ wordsO vs))) (hd := hd) hp [10] (by simp only [List.length_append, List.length_cons, List.length_nil]; omega)) (by simp [hb, hh]) rfl (by simp) ?_
      rintro r hs' ⟨hd2, rfl⟩
      simp -implicitDefEqProofs [h15, h16, h17, h5, takeH, putH]
      repeat refine And.intro (by omega) ?_
      refine again hlt ⟨by simp [h15], by simp [h16], by simp, by simp [h5], .raw (va b), hd2, .inr rfl, by simp, by simp [hs, lineSP, line0P]⟩
  · rw [List.take_of_length_le (by omega)] at hh
    have hlt' : ¬ (k : Int) < l.length := by omega
    simp -implicitDefEqProofs [h15, h16, h17, h5, hlt, hlt']
    refine givB [1000000, 1000001] 1000000 (bLen_fn (s := linesP l) (hd := hd) hp) (by simp [hb, hh]) rfl (by simp) ?_
    rintro r hs' ⟨rfl, rfl⟩
    by_cases h4 : 4096 < (linesP l).length
    · have h4' : (4096 : Int) < (linesP l).length := by omega
      rw [if_pos h4] at hR
      subst hR
      simp -implicitDefEqProofs [h15, h16, h17, h5, takeH, putH, h4']
    · have h4' : ¬ (4096 : Int) < (linesP l).length := by omega
      rw [if_neg h4] at hR
      subst hR
      simp -implicitDefEqProofs [h15, h16, h17, h5, takeH, putH, h4']
      refine givB [1000000, 1000001] 1000000 (string_fn (b := b) (s := linesP l) (hd := hd) hp) (by simp) rfl (by simp) ?_
      rintro r hs' ⟨rfl, rfl⟩
      simp -implicitDefEqProofs [h15, h16, h17, h5, takeH, putH]
end Go.Proofs.Tz

/- Patch operations: what a line says, in both. -/
set_option maxRecDepth 100000
set_option maxHeartbeats 4000000
set_option linter.unusedVariables false
set_option linter.unusedSimpArgs false
namespace Go.Proofs.Tz
open Go.Vw Go.RowKit Go.Proofs

def readT (s : Str) : POp × Bool := match readP s with
  | some x => (x, true)
  | none => (([], [], []), false)
/-- The pieces, the first ones read. -/
def halfU (o : Str) (done rest : List Str) : List D := (o :: (done ++ rest)).map .str
def ReadI (s o : Str) (ps : List Str) (k : Nat) (τ : St) : Prop := τ 2 = .box (.agg [.str [], .str [], .sl []]) ∧ τ 5 = .d (.int .i64 ((k : Int) + 1)) ∧ ∃ done, τ 4 = .own true 9 (halfU o done (ps.drop k)) ∧ unescL (ps.take k) = some done

theorem unescL_take {ps : List Str} {k : Nat} (h : k < ps.length) {done : List Str} (hd : unescL (ps.take k) = some done) : unescL (ps.take (k + 1)) = (unesc ps[k]).map fun x => done ++ [x] := by
  rw [take_s h, unescL_app, hd]
  simp only [unescL]
  cases unesc ps[k] <;> simp
theorem unescL_none {ps : List Str} {k : Nat} (h : k < ps.length) {done : List Str} (hd : unescL (ps.take k) = some done) (hu : unesc ps[k] = none) : unescL ps = none := by
  have e : ps = ps.take k ++ ps[k] :: ps.drop (k + 1) := by rw [← drop_c h]; simp
  rw [e, unescL_app, hd]
  simp [unescL, hu]

theorem read_fn (s : Str) (hs : List.length s < 1000000) : Ctr Tryz.prog 29 [.d (.str s)] (.tup [.d (popD (readT s).1), .d (.bool (readT s).2)]) := by
  refine fn_of_vwpN (rv := .cell 2 26) (rs := [.tmp 3]) (r := .d (popD (readT s).1)) (ys := [.d (.bool (readT s).2)]) (fun i => i == 4 || i == 9 || i == 7000011) (by kernel_rfl) Tryz.func29 (by kernel_rfl) rfl rfl (by simp) (Nat.le_of_ble_eq_true rfl) (by kernel_rfl) rfl rfl ?_
  obtain ⟨R, hR⟩ : ∃ R, readT s = R := ⟨_, rfl⟩
  rw [hR]
  unfold readT readP at hR
  have hsp := split_fn s 32 hs
  have hcnt := splitB_len 32 s
  have hcl : s.count 32 ≤ s.length := List.count_le_length
  have hle := splitB_le 32 s
  cases hps : splitB 32 s with
  | nil => exact absurd hps (splitB_ne _ _)
  | cons o ps =>
    rw [hps] at hsp hR hcnt hle
    simp only [List.map_cons, List.length_cons] at hsp hcnt
    simp only [readW] at hR
    by_cases h2 : ps = []
    · subst h2
      simp only [unescL, opOf] at hR
      subst hR
      simp -implicitDefEqProofs
      refine callK hsp ?_
      simp -implicitDefEqProofs [popD, strs]
    have hpl : 0 < ps.length := List.length_pos_iff.2 h2
    have hlt2 : ¬ ((ps.length : Int) + 1 < 2) := by omega
    simp -implicitDefEqProofs
    refine callK hsp ?_
    simp -implicitDefEqProofs [hlt2]
    refine loopN ps.length (ReadI s o ps) ?_ ?_
    · refine ⟨by simp, by simp, [], ?_, by simp [unescL]⟩
      simp [halfU]
    rintro k τ hk ⟨g2, g5, done, g4, hd⟩
    have hdl := unescL_len hd
    rw [List.length_take, Nat.min_eq_left hk] at hdl
    have hhl : (halfU o done (ps.drop k)).length = ps.length + 1 := by simp [halfU]; omega
    by_cases hlt : k < ps.length
    · have hlt' : (k : Int) + 1 < (ps.length : Int) + 1 := by omega
      have hpv := hle ps[k] (by simp)
      have hg : (halfU o done (ps.drop k))[k + 1]? = some (.str ps[k]) := by
        rw [drop_c hlt]
        simp only [halfU, List.map_cons, List.map_append, List.getElem?_cons_succ]
        rw [List.getElem?_append_right (by simp; omega)]
        simp [hdl]
      have hg2 : ∀ h, (halfU o done (ps.drop k))[k + 1]'h = .str ps[k] := fun h => by
        rw [List.getElem?_eq_getElem h] at hg
        simpa using hg
      have hut := unescL_take hlt hd
      have hun := unescL_none hlt hd
      have hset : ∀ x, (halfU o done (ps.drop k)).set (k + 1) (.str x) = halfU o (done ++ [x]) (ps.drop (k + 1)) := fun x => by
        rw [drop_c hlt]
        simp only [halfU, List.map_cons, List.map_append, List.set_cons_succ]
        rw [List.set_append_right _ _ (by simp; omega)]
        simp [hdl]
      have i1 : (0 : Int) ≤ (k : Int) + 1 := by omega
      have j1 : ((k : Int) + 1).toNat = k + 1 := by omega
      have hkl : k + 1 < ps.length + 1 := by omega
      generalize ps[k] = p at *
      generalize halfU o done (ps.drop k) = H at *
      cases hu : unesc p with
      | none =>
        have := hun hu
        rw [this] at hR
        simp only [opOf] at hR
        subst hR
        simp -implicitDefEqProofs [g2, g5, g4, hhl, hlt, hlt', i1, j1, hkl, hg, hg2]
        refine callK (unescape_fn p (by omega)) ?_
        simp -implicitDefEqProofs [g2, g5, g4, hhl, unescP_none hu]
        simp [popD, strs]
      | some x =>
        rw [hu] at hut
        simp -implicitDefEqProofs [g2, g5, g4, hhl, hlt, hlt', i1, j1, hkl, hg, hg2]
        refine callK (unescape_fn p (by omega)) ?_
        simp -implicitDefEqProofs [g2, g5, g4, hhl, hlt, hlt', i1, j1, hkl, hg, hg2, unescP_some hu, hset]
        repeat refine And.intro (by omega) ?_
        refine again hlt ⟨by simp [g2], by simp, done ++ [x], by simp, by simp [hut]⟩
    · have hkl : k = ps.length := by omega
      subst hkl
      rw [List.take_length] at hd
      rw [hd] at hR
      rw [List.drop_length] at g4 hhl
      cases done with
      | nil => simp at hdl; omega
      | cons p vs =>
        simp only [opOf] at hR
        subst hR
        simp -implicitDefEqProofs [g2, g5, g4, hhl]
        refine frzK 4 (e := 9) (l' := halfU o (p :: vs) []) (by simp [g4]) ?_
        simp -implicitDefEqProofs [g2, g5, g4, hhl, halfU, popD, strs]
        rw [List.take_of_length_le (by simp)]
end Go.Proofs.Tz

/- Patch operations: what a text says, in both. -/
set_option maxRecDepth 100000
set_option maxHeartbeats 4000000
set_option linter.unusedVariables false
set_option linter.unusedSimpArgs false
namespace Go.Proofs.Tz
open Go.Vw Go.RowKit Go.Proofs

theorem readP_fit {s : Str} {x : POp} (h : readP s = some x) : List.length x.1 ≤ s.length ∧ List.length x.2.1 ≤ s.length ∧ x.2.2.length ≤ s.length ∧ ∀ v ∈ x.2.2, List.length v ≤ s.length := by
  unfold readP at h
  have hle := splitB_le 32 s
  have hcnt := splitB_len 32 s
  have hcl : s.count 32 ≤ s.length := List.count_le_length
  cases hs : splitB 32 s with
  | nil => exact absurd hs (splitB_ne _ _)
  | cons o ps =>
    rw [hs] at h hle hcnt
    simp only [readW] at h
    cases hu : unescL ps with
    | none => rw [hu] at h; cases h
    | some l =>
      rw [hu] at h
      cases l with
      | nil => cases h
      | cons p vs =>
        simp only [opOf, Option.some.injEq] at h
        subst h
        have hf := unescL_fit hu (fun p hp => hle p (by simp [hp]))
        have hl := unescL_len hu
        simp only [List.length_cons] at hl hcnt
        exact ⟨hle o (by simp), hf p (by simp), by simp only; omega, fun v hv => hf v (by simp [hv])⟩
theorem FitP.snoc {out : List POp} {x : POp} {s : Str} (h : FitP out) (ho : out.length ≤ 64) (hs : List.length s ≤ 4096) (hr : readP s = some x) : FitP (out ++ [x]) := by
  obtain ⟨a, b, c, d⟩ := readP_fit hr
  refine ⟨by simp; omega, fun y hy => ?_⟩
  rcases List.mem_append.1 hy with hy | hy
  · exact h.2 y hy
  · rw [List.mem_singleton.1 hy]; exact ⟨by omega, by omega, by omega, fun v hv => by have := d v hv; omega⟩
theorem checkP_le {l : List POp} (h : checkP l = 0) : l.length ≤ 64 := by have := ((checkP_zero l).1 h).1; omega

def PPI (s0 : Str) (m : Nat) (τ : St) : Prop := ∃ (rest : Str) (out : List POp), m = List.length rest ∧ τ 0 = .d (.str rest) ∧ τ 5 = .own false 26 (out.map popD) ∧ List.length rest ≤ 4096 ∧ out.length ≤ 64 ∧ FitP out ∧ parseP s0 = parseGoP rest out
theorem pparse_fn (s : Str) (hs : List.length s < 1000000) : Ctr Tryz.prog 13 [.d (.str s)] (.tup [.d (pops (parseP s).1), .d (.int .i64 (parseP s).2.1), .d (.int .i64 (parseP s).2.2)]) := by
  refine fn_of_vwpN (rv := .tmp 2) (rs := [.tmp 3, .tmp 4]) (r := .d (pops (parseP s).1)) (ys := [.d (.int .i64 (parseP s).2.1), .d (.int .i64 (parseP s).2.2)]) (fun _ => false) (by kernel_rfl) Tryz.func13 (by kernel_rfl) rfl rfl (by simp) (Nat.le_of_ble_eq_true rfl) (by kernel_rfl) rfl rfl ?_
  by_cases h4 : 4096 < s.length
  · have h4' : (4096 : Int) < s.length := by omega
    simp -implicitDefEqProofs [h4', parseP, h4, pops]
  have h4' : ¬ (4096 : Int) < s.length := by omega
  simp -implicitDefEqProofs [h4']
  refine loopK (PPI s) s.length ?_ ?_
  · exact ⟨s, [], rfl, by simp, by simp, by omega, by simp, ⟨by simp, by simp⟩, by rw [parseP, if_neg h4]⟩
  rintro m τ ⟨rest, out, rfl, h0, h5, hr, ho, hfit, hpm⟩
  rw [hpm]
  by_cases hnil : rest = []
  · subst hnil
    rw [parseGoP_nil]
    simp -implicitDefEqProofs [h0, h5, pops]
  by_cases hix : 0 ≤ ixB rest 10
  · have hlt := ixB_lt hix
    obtain ⟨k, hk⟩ := Int.eq_ofNat_of_zero_le hix
    rw [hk, Int.toNat_natCast] at hlt
    have hcut : cutB rest 10 = (rest.take k, rest.drop (k + 1), true) := by rw [cutB, if_pos hix, hk, Int.toNat_natCast]
    rw [parseGoP_at out hk] at hpm ⊢
    have hfl : List.length (rest.take k) ≤ 4096 := by simp; omega
    have hrl : List.length (rest.drop (k + 1)) = List.length rest - (k + 1) := by simp
    generalize rest.take k = first at *
    generalize rest.drop (k + 1) = tail at *
    have hcf := cut_fn rest 10 (by omega)
    rw [hcut] at hcf
    have hrd := read_fn first (by omega)
    cases hl : readP first with
    | none =>
      have e : readT first = (([], [], []), false) := by rw [readT, hl]
      rw [e] at hrd
      simp only [popD, strs, List.map_nil] at hrd
      simp -implicitDefEqProofs [h0, h5, hnil]
      refine callK hcf ?_
      simp -implicitDefEqProofs [h0, h5]
      refine callK hrd ?_
      simp -implicitDefEqProofs [h0, h5]
      repeat refine And.intro (by omega) ?_
      simp [pops]
    | some r =>
      have hfit2 := hfit.snoc ho hfl hl
      have e : readT first = (r, true) := by rw [readT, hl]
      rw [e] at hrd
      obtain ⟨o, p, vs⟩ := r
      have hck := pcheck_fn (out ++ [(o, p, vs)]) hfit2
      simp only [pops, popD, strs, List.map_append, List.map_cons, List.map_nil] at hck
      simp only [popD, strs] at hrd
      by_cases hc : checkP (out ++ [(o, p, vs)]) = 0
      · simp -implicitDefEqProofs [h0, h5, hnil]
        refine callK hcf ?_
        simp -implicitDefEqProofs [h0, h5]
        refine callK hrd ?_
        simp -implicitDefEqProofs [h0, h5, popD, strs]
        repeat refine And.intro (by omega) ?_
        refine callK hck ?_
        simp -implicitDefEqProofs [h0, h5, hc]
        repeat refine And.intro (by omega) ?_
        refine ⟨List.length tail, by omega, tail, out ++ [(o, p, vs)], rfl, by simp, by simp [popD, strs], by omega, checkP_le hc, hfit2, by rw [hpm, hl]; simp [hc]⟩
      · simp -implicitDefEqProofs [h0, h5, hnil]
        refine callK hcf ?_
        simp -implicitDefEqProofs [h0, h5]
        refine callK hrd ?_
        simp -implicitDefEqProofs [h0, h5, popD, strs]
        repeat refine And.intro (by omega) ?_
        refine callK hck ?_
        simp -implicitDefEqProofs [h0, h5, hc, pops]
  · have hcut : cutB rest 10 = (rest, [], false) := by rw [cutB, if_neg hix]
    rw [parseGoP_no out hnil (by omega)]
    have hcf := cut_fn rest 10 (by omega)
    rw [hcut] at hcf
    have hrd := read_fn rest (by omega)
    obtain ⟨⟨o, p, vs⟩, b⟩ := readT rest
    simp only [popD, strs] at hrd
    simp -implicitDefEqProofs [h0, h5, hnil]
    refine callK hcf ?_
    simp -implicitDefEqProofs [h0, h5]
    refine callK hrd ?_
    simp -implicitDefEqProofs [h0, h5]
    repeat refine And.intro (by omega) ?_
    simp [pops]
end Go.Proofs.Tz

/- Patch operations: what a line says: the reference. -/
set_option maxRecDepth 100000
set_option maxHeartbeats 4000000
set_option linter.unusedVariables false
set_option linter.unusedSimpArgs false
namespace Go.Proofs.Tz
open Go.Vw Go.RowKit Go.Proofs

end Go.Proofs.Tz

/- Patch operations: what is great, in both; single operations. -/
set_option maxRecDepth 100000
set_option maxHeartbeats 4000000
set_option linter.unusedVariables false
set_option linter.unusedSimpArgs false
namespace Go.Proofs.Tz
open Go.Vw Go.RowKit Go.Proofs

def AllT {α : Type} (p : α → Bool) (l : List α) (k : Nat) : Prop := (l.take k).all p = true
theorem allT_take {α : Type} {p : α → Bool} {l : List α} {k : Nat} (h : k < l.length) (h1 : AllT p l k) (h2 : p l[k] = true) : AllT p l (k + 1) := by
  unfold AllT at h1 ⊢
  rw [take_s h, List.all_append, h1]; simp [h2]
theorem allF_at {α : Type} {p : α → Bool} {l : List α} {k : Nat} (h : k < l.length) (h2 : p l[k] = false) : l.all p = false := by
  rw [List.all_eq_false]
  exact ⟨l[k], List.getElem_mem h, by simp [h2]⟩

def shortV (v : Str) : Bool := decide (List.length v ≤ 300)
def lightV (vs : List Str) : Bool := decide (vs.length ≤ 20) && vs.all shortV
theorem greatV_fn (vs : List Str) : Ctr Tryz.prog 11 [.d (strs vs), .d (.int .i64 20), .d (.int .i64 300)] (.d (.bool (!lightV vs))) := by
  refine fn_of_vwp (fun _ => false) (by kernel_rfl) Tryz.func11 (by kernel_rfl) rfl rfl (Nat.le_of_ble_eq_true rfl) (by kernel_rfl) rfl rfl ?_
  obtain ⟨R, hR⟩ : ∃ R, lightV vs = R := ⟨_, rfl⟩
  rw [hR]
  unfold lightV at hR
  by_cases h1 : vs.length ≤ 20
  case neg =>
    have h1' : (20 : Int) < vs.length := by omega
    rw [decide_eq_false h1] at hR
    subst hR
    simp -implicitDefEqProofs [strs, h1']
  have h1' : ¬ (20 : Int) < vs.length := by omega
  rw [decide_eq_true h1, Bool.true_and] at hR
  simp -implicitDefEqProofs [strs, h1']
  refine loopN vs.length (fun k τ => τ 0 = .d (.sl (vs.map .str)) ∧ τ 2 = .d (.int .i64 300) ∧ τ 7 = .d (.int .i64 k) ∧ AllT shortV vs k) (by simp [AllT]) ?_
  rintro k τ hk ⟨h0, h2, h7, ha⟩
  by_cases hlt : k < vs.length
  · have hlt' : (k : Int) < vs.length := by omega
    have hT := allT_take hlt ha
    have hF := allF_at (p := shortV) hlt
    generalize hx : vs[k] = x at *
    by_cases c : List.length x ≤ 300
    · have c' : ¬ (300 : Int) < List.length x := by omega
      simp -implicitDefEqProofs [h0, h2, h7, hlt, hlt', hx, c']
      repeat refine And.intro (by omega) ?_
      exact again hlt ⟨by simp [h0], by simp [h2], by simp, hT (by simp [shortV, c])⟩
    · have c' : (300 : Int) < List.length x := by omega
      rw [hF (by simp [shortV]; omega)] at hR
      subst hR
      simp -implicitDefEqProofs [h0, h2, h7, hlt, hlt', hx, c']
  · have hlt' : ¬ (k : Int) < vs.length := by omega
    rw [AllT, List.take_of_length_le (by omega), hR] at ha
    subst ha
    simp -implicitDefEqProofs [h0, h2, h7, hlt, hlt']

def lightT (x : Att) : Bool := decide (List.length x.1 ≤ 300) && lightV x.2
def lightA (m : Nat) (a : List Att) : Bool := decide (a.length ≤ m) && a.all lightT
theorem greatA_fn (m : Nat) (hm : m ≤ 1000) (a : List Att) : Ctr Tryz.prog 5 [.d (atts a), .d (.int .i64 m)] (.d (.bool (!lightA m a))) := by
  refine fn_of_vwp (fun _ => false) (by kernel_rfl) Tryz.func5 (by kernel_rfl) rfl rfl (Nat.le_of_ble_eq_true rfl) (by kernel_rfl) rfl rfl ?_
  obtain ⟨R, hR⟩ : ∃ R, lightA m a = R := ⟨_, rfl⟩
  rw [hR]
  unfold lightA at hR
  by_cases h1 : a.length ≤ m
  case neg =>
    have h1' : (m : Int) < a.length := by omega
    have h1'' : m < a.length := by omega
    rw [decide_eq_false h1] at hR
    subst hR
    simp -implicitDefEqProofs [atts, h1', h1'']
  have h1' : ¬ (m : Int) < a.length := by omega
  have h1'' : ¬ m < a.length := by omega
  rw [decide_eq_true h1, Bool.true_and] at hR
  simp -implicitDefEqProofs [atts, h1', h1'']
  refine loopN a.length (fun k τ => τ 0 = .d (.sl (a.map att)) ∧ τ 5 = .d (.int .i64 k) ∧ AllT lightT a k) (by simp [AllT]) ?_
  rintro k τ hk ⟨h0, h5, ha⟩
  by_cases hlt : k < a.length
  · have hlt' : (k : Int) < a.length := by omega
    have hT := allT_take hlt ha
    have hF := allF_at (p := lightT) hlt
    generalize hx : a[k] = x at *
    obtain ⟨n, vs⟩ := x
    have hg := greatV_fn vs
    simp only [strs] at hg
    by_cases c : List.length n ≤ 300
    · have c' : ¬ (300 : Int) < List.length n := by omega
      by_cases d : lightV vs = true
      · rw [d] at hg
        simp -implicitDefEqProofs [h0, h5, hlt, hlt', hx, c', att, strs]
        refine callK hg ?_
        simp -implicitDefEqProofs [h0, h5, hlt, hlt', hx, c', att, strs]
        repeat refine And.intro (by omega) ?_
        exact again hlt ⟨by simp [h0], by simp, hT (by simp [lightT, c, d])⟩
      · have d' : lightV vs = false := by simpa using d
        rw [d'] at hg
        rw [hF (by simp [lightT, d'])] at hR
        subst hR
        simp -implicitDefEqProofs [h0, h5, hlt, hlt', hx, c', att, strs]
        refine callK hg ?_
        simp -implicitDefEqProofs [h0, h5, hlt, hlt', hx, c', att, strs]
    · have c' : (300 : Int) < List.length n := by omega
      rw [hF (by simp [lightT, c])] at hR
      subst hR
      simp -implicitDefEqProofs [h0, h5, hlt, hlt', hx, c', att, strs]
  · have hlt' : ¬ (k : Int) < a.length := by omega
    rw [AllT, List.take_of_length_le (by omega), hR] at ha
    subst ha
    simp -implicitDefEqProofs [h0, h5, hlt, hlt']

def lightO (x : POp) : Bool := decide (List.length x.1 ≤ 300) && (decide (List.length x.2.1 ≤ 400) && lightV x.2.2)
def lightP (m : Nat) (l : List POp) : Bool := decide (l.length ≤ m) && l.all lightO
theorem greatP_fn (m : Nat) (hm : m ≤ 1000) (a : List POp) : Ctr Tryz.prog 4 [.d (pops a), .d (.int .i64 m)] (.d (.bool (!lightP m a))) := by
  refine fn_of_vwp (fun _ => false) (by kernel_rfl) Tryz.func4 (by kernel_rfl) rfl rfl (Nat.le_of_ble_eq_true rfl) (by kernel_rfl) rfl rfl ?_
  obtain ⟨R, hR⟩ : ∃ R, lightP m a = R := ⟨_, rfl⟩
  rw [hR]
  unfold lightP at hR
  by_cases h1 : a.length ≤ m
  case neg =>
    have h1' : (m : Int) < a.length := by omega
    have h1'' : m < a.length := by omega
    rw [decide_eq_false h1] at hR
    subst hR
    simp -implicitDefEqProofs [pops, h1', h1'']
  have h1' : ¬ (m : Int) < a.length := by omega
  have h1'' : ¬ m < a.length := by omega
  rw [decide_eq_true h1, Bool.true_and] at hR
  simp -implicitDefEqProofs [pops, h1', h1'']
  refine loopN a.length (fun k τ => τ 0 = .d (.sl (a.map popD)) ∧ τ 5 = .d (.int .i64 k) ∧ AllT lightO a k) (by simp [AllT]) ?_
  rintro k τ hk ⟨h0, h5, ha⟩
  by_cases hlt : k < a.length
  · have hlt' : (k : Int) < a.length := by omega
    have hT := allT_take hlt ha
    have hF := allF_at (p := lightO) hlt
    generalize hx : a[k] = x at *
    obtain ⟨o, p, vs⟩ := x
    have hg := greatV_fn vs
    simp only [strs] at hg
    by_cases b : List.length o ≤ 300
    · have b' : ¬ (300 : Int) < List.length o := by omega
      by_cases c : List.length p ≤ 400
      · have c' : ¬ (400 : Int) < List.length p := by omega
        by_cases d : lightV vs = true
        · rw [d] at hg
          simp -implicitDefEqProofs [h0, h5, hlt, hlt', hx, b', c', popD, strs]
          refine callK hg ?_
          simp -implicitDefEqProofs [h0, h5, hlt, hlt', hx, b', c', popD, strs]
          repeat refine And.intro (by omega) ?_
          exact again hlt ⟨by simp [h0], by simp, hT (by simp [lightO, b, c, d])⟩
        · have d' : lightV vs = false := by simpa using d
          rw [d'] at hg
          rw [hF (by simp [lightO, d'])] at hR
          subst hR
          simp -implicitDefEqProofs [h0, h5, hlt, hlt', hx, b', c', popD, strs]
          refine callK hg ?_
          simp -implicitDefEqProofs [h0, h5, hlt, hlt', hx, b', c', popD, strs]
      · have c' : (400 : Int) < List.length p := by omega
        rw [hF (by simp [lightO, c])] at hR
        subst hR
        simp -implicitDefEqProofs [h0, h5, hlt, hlt', hx, b', c', popD, strs]
    · have b' : (300 : Int) < List.length o := by omega
      rw [hF (by simp [lightO, b])] at hR
      subst hR
      simp -implicitDefEqProofs [h0, h5, hlt, hlt', hx, b', popD, strs]
  · have hlt' : ¬ (k : Int) < a.length := by omega
    rw [AllT, List.take_of_length_le (by omega), hR] at ha
    subst ha
    simp -implicitDefEqProofs [h0, h5, hlt, hlt']

theorem op_fn (o p : Str) (vs : List Str) : Ctr Tryz.prog 12 [.d (.str o), .d (.str p), .d (strs vs)] (.d (popD (o, p, vs))) := by
  refine fn_of_vwpN (rv := .cell 6 26) (rs := []) (r := .d (popD (o, p, vs))) (ys := []) (fun _ => false) (by kernel_rfl) Tryz.func12 (by kernel_rfl) rfl rfl (by simp) (Nat.le_of_ble_eq_true rfl) (by kernel_rfl) rfl rfl ?_
  simp -implicitDefEqProofs [popD, strs]

/-! ### literal values -/
def qa : List Att := [([109, 97, 105, 108], [[97], [98]])]
def qo1 : List POp := [(oRepl, [77, 65, 73, 76, 91, 97, 93], [[98]])]
def qo2 : List POp := [(oRepl, [109, 97, 105, 108, 91, 99, 93], [[98]])]
def qo3 : List POp := [(oRem, [109, 97, 105, 108], []), (oAdd, [99, 110], [[120]])]
def qt : Str := [97, 100, 100, 32, 99, 110, 32, 97, 37, 50, 48, 98, 32, 99, 10]
def ql : List POp := [(oAdd, [99, 110], [[97, 32, 98], [99]])]
def qi : List Att := [([99, 110], [[120]])]
def qo4 : List POp := [(oAdd, [99, 110], [[97]]), (oAdd, [115, 110], [[98]]), (oRepl, [67, 78], [[99]])]
def qo5 : List POp := [(oAdd, [115, 110], [[98]]), (oRepl, [67, 78], [[99]])]
def qo6 : List POp := [([115, 101, 116], [99, 110], [])]
theorem qp1 : pathP [109, 97, 105, 108, 91, 97, 64, 98, 93] = ([109, 97, 105, 108], [97, 64, 98], 0) := by decide +kernel
theorem q1_apply : applyP qa qo1 = ([([109, 97, 105, 108], [[98]])], 0) := by decide +kernel
theorem q3_apply : applyP qa qo3 = (qi, 0) := by decide +kernel
theorem ql_text : textP ql = (qt, 0) := by decide +kernel
theorem q_diff : diffP qa qi = [(oRem, [109, 97, 105, 108], []), (oAdd, [99, 110], [[120]])] := by decide +kernel
theorem q4_comp : compP qo4 = qo5 := by decide +kernel
theorem ql_check : checkP ql = 0 := by decide +kernel
theorem q6_check : checkP qo6 = 2 := by decide +kernel

theorem fitP_of {l : List POp} (h : (decide (l.length < 1000) && l.all fun x => decide (List.length x.1 < 1000) && decide (List.length x.2.1 < 1000) && decide (x.2.2.length < 1000) && x.2.2.all fun v => decide (List.length v < 1000)) = true) : FitP l := by
  simp only [Bool.and_eq_true, decide_eq_true_eq, List.all_eq_true] at h
  obtain ⟨h1, h2⟩ := h
  exact ⟨by omega, fun x hx => by
    obtain ⟨⟨⟨a, b⟩, c⟩, d⟩ := h2 x hx
    exact ⟨by omega, by omega, by omega, fun v hv => by have := d v hv; omega⟩⟩
theorem fit2_of' {l : List Att} (h : (decide (l.length < 1000) && l.all (fun a => decide (List.length a.1 < 1000) && decide (a.2.length < 1000)) && decide (total l < 1000)) = true) : Fit2 l := by
  simp only [Bool.and_eq_true, decide_eq_true_eq, List.all_eq_true] at h
  obtain ⟨⟨h1, h2⟩, h3⟩ := h
  exact ⟨⟨by omega, fun a ha => ⟨by have := (h2 a ha).1; omega, by have := (h2 a ha).2; omega⟩⟩, by omega⟩
theorem fitV_of {l : List Att} (h : (l.all fun a => a.2.all fun v => decide (List.length v < 1000)) = true) : FitV l := by
  simp only [List.all_eq_true, decide_eq_true_eq] at h
  exact fun a ha v hv => by have := h a ha v hv; omega
theorem qt_parse : parseP qt = (ql, 0, 0) := backP1 ql_text
end Go.Proofs.Tz

/- Patch operations: the statements' literal case. -/
set_option maxRecDepth 100000
set_option maxHeartbeats 8000000
set_option linter.unusedVariables false
set_option linter.unusedSimpArgs false
namespace Go.Proofs.Tz
open Go.Vw Go.RowKit Go.Proofs

theorem qp2e : pathP [99, 110, 91, 97] = ([], [], 4) := by decide +kernel
theorem qp3e : pathP [49, 91, 97, 93] = ([], [], 5) := by decide +kernel
theorem qo2e : applyP qa qo2 = ([], 6) := by decide +kernel

theorem livePatch_fn : Ctr Tryz.prog 6 [] (.d (.bool true)) := by
  refine fn_of_vwp (fun _ => false) (by kernel_rfl) Tryz.func6 (by kernel_rfl) rfl rfl (Nat.le_of_ble_eq_true rfl) (by kernel_rfl) rfl rfl ?_
  have fa : Fit2 qa := fit2_of' (by decide +kernel)
  have va : FitV qa := fitV_of (by decide +kernel)
  have fi : Fit2 qi := fit2_of' (by decide +kernel)
  have vi : FitV qi := fitV_of (by decide +kernel)
  have h1 := path_fn [109, 97, 105, 108, 91, 97, 64, 98, 93] (by decide)
  rw [qp1] at h1
  have h2 := path_fn [99, 110, 91, 97] (by decide)
  rw [qp2e] at h2
  have h3 := path_fn [49, 91, 97, 93] (by decide)
  rw [qp3e] at h3
  simp -implicitDefEqProofs
  refine callK h1 ?_
  simp -implicitDefEqProofs
  refine callK h2 ?_
  simp -implicitDefEqProofs
  refine callK h3 ?_
  clear h1 h2 h3
  simp -implicitDefEqProofs
  repeat refine And.intro (by decide) ?_
  have o1 := op_fn oRepl [77, 65, 73, 76, 91, 97, 93] [[98]]
  have a1 := papply_fn qa qo1 fa.1 va (fitP_of (by decide +kernel))
  rw [q1_apply] at a1
  simp only [qa, qo1, popD, pops, atts, att, strs, List.map_cons, List.map_nil, oRepl] at o1 a1
  refine callK o1 ?_
  simp -implicitDefEqProofs
  repeat refine And.intro (by decide) ?_
  refine callK a1 ?_
  clear o1 a1
  simp -implicitDefEqProofs
  have o2 := op_fn oRepl [109, 97, 105, 108, 91, 99, 93] [[98]]
  have a2 := papply_fn qa qo2 fa.1 va (fitP_of (by decide +kernel))
  rw [qo2e] at a2
  simp only [qa, qo2, popD, pops, atts, att, strs, List.map_cons, List.map_nil, oRepl] at o2 a2
  repeat refine And.intro (by decide) ?_
  refine callK o2 ?_
  simp -implicitDefEqProofs
  repeat refine And.intro (by decide) ?_
  refine callK a2 ?_
  clear o2 a2
  simp -implicitDefEqProofs
  have o3 := op_fn oRem [109, 97, 105, 108] []
  have o4 := op_fn oAdd [99, 110] [[120]]
  have a3 := papply_fn qa qo3 fa.1 va (fitP_of (by decide +kernel))
  rw [q3_apply] at a3
  simp only [qa, qi, qo3, popD, pops, atts, att, strs, List.map_cons, List.map_nil, oRem, oAdd] at o3 o4 a3
  repeat refine And.intro (by decide) ?_
  refine callK o3 ?_
  simp -implicitDefEqProofs
  repeat refine And.intro (by decide) ?_
  refine callK o4 ?_
  simp -implicitDefEqProofs
  repeat refine And.intro (by decide) ?_
  refine callK a3 ?_
  clear o3 o4 a3
  simp -implicitDefEqProofs
  have p1 := pparse_fn qt (by decide)
  rw [qt_parse] at p1
  simp only [qt, ql, popD, pops, strs, List.map_cons, List.map_nil, oAdd] at p1
  refine callK p1 ?_
  clear p1
  simp -implicitDefEqProofs
  have t1 := ptext_fn ql (fitP_of (by decide +kernel))
  rw [ql_text] at t1
  simp only [qt, ql, popD, pops, strs, List.map_cons, List.map_nil, oAdd] at t1
  refine callK t1 ?_
  clear t1
  simp -implicitDefEqProofs
  have d1 := diff_fn qa qi fa va fi vi
  rw [q_diff] at d1
  simp only [qa, qi, popD, pops, atts, att, strs, List.map_cons, List.map_nil, oRem, oAdd] at d1
  refine callK d1 ?_
  clear d1
  simp -implicitDefEqProofs
  have o5 := op_fn oAdd [99, 110] [[97]]
  have o6 := op_fn oAdd [115, 110] [[98]]
  have o7 := op_fn oRepl [67, 78] [[99]]
  have c1 := pcompact_fn qo4 (fitP_of (by decide +kernel))
  rw [q4_comp] at c1
  simp only [qo4, qo5, popD, pops, strs, List.map_cons, List.map_nil, oRepl, oAdd] at o5 o6 o7 c1
  repeat refine And.intro (by decide) ?_
  refine callK o5 ?_
  simp -implicitDefEqProofs
  repeat refine And.intro (by decide) ?_
  refine callK o6 ?_
  simp -implicitDefEqProofs
  repeat refine And.intro (by decide) ?_
  refine callK o7 ?_
  simp -implicitDefEqProofs
  repeat refine And.intro (by decide) ?_
  refine callK c1 ?_
  clear o5 o6 o7 c1
  simp -implicitDefEqProofs
  have s1 := same_fn [[98]] [[98]] (by decide) (by decide)
  have s2 := same_fn [[97, 32, 98], [99]] [[97, 32, 98], [99]] (by decide) (by decide)
  rw [decide_eq_true rfl] at s1 s2
  have k1 := pcheck_fn ql (fitP_of (by decide +kernel))
  rw [ql_check] at k1
  have o8 := op_fn [115, 101, 116] [99, 110] []
  have k2 := pcheck_fn qo6 (fitP_of (by decide +kernel))
  rw [q6_check] at k2
  simp only [ql, qo6, popD, pops, strs, List.map_cons, List.map_nil, oAdd] at s1 s2 k1 k2 o8
  repeat refine And.intro (by decide) ?_
  refine callK s1 ?_
  simp -implicitDefEqProofs
  repeat refine And.intro (by decide) ?_
  refine callK s2 ?_
  simp -implicitDefEqProofs
  repeat refine And.intro (by decide) ?_
  refine callK k1 ?_
  simp -implicitDefEqProofs
  repeat refine And.intro (by decide) ?_
  refine callK o8 ?_
  simp -implicitDefEqProofs
  repeat refine And.intro (by decide) ?_
  refine callK k2 ?_
  simp -implicitDefEqProofs
end Go.Proofs.Tz
