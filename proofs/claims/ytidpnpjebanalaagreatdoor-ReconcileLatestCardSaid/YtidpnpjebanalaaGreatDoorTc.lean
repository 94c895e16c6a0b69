/-
  What the functions that the statements about targets and synchronizations reach compute, part 3 of 4, for data of bounded size (each theorem states its bound).
-/import Derived.Test.YtidpnpjebanalaaGreatDoorTb
import Derived.Test.YtidpnpjebanalaaGreatDoorTa
import Derived.Test.YtidpnpjebanalaaGreatDoorWc
open Go.Proofs.Tryz
set_option linter.unusedSimpArgs false
set_option linter.unusedVariables false
set_option maxRecDepth 100000
set_option maxHeartbeats 8000000
namespace Go.Proofs.Tz
open Go.Vw Go.RowKit Go.Proofs Go.Sort
def fitsB (w : Acc) (a : Acc) (ok : Bool) : Bool := if w.2.1 then ok && (a.2.1 && decide (sortedL a.2.2 = sortedL w.2.2)) else !ok || !a.2.1
theorem fitsB_some (w a : Acc) : fitsB w a true = fitsW w (some a) := by
  unfold fitsB fitsW; cases w.2.1 <;> simp
theorem fitsB_none (w a : Acc) : fitsB w a false = fitsW w none := by
  unfold fitsB fitsW; cases w.2.1 <;> simp
theorem fits_fn (w : Wsh) (a : Acc) (ok : Bool) (hw : Fit2 w.1.2.2) (ha : Fit2 a.2.2) (hw' : Fits (sortedL w.1.2.2)) (ha' : Fits (sortedL a.2.2)) : Ctr prog 63 [.d (wshD w), .d (accD a), .d (.bool ok)] (.d (.bool (fitsB w.1 a ok))) := by
  refine fv (fun _ => false) func63 (by kernel_rfl) rfl rfl rfl rfl rfl ?_; have c1 := equal_fn a.2.2 w.1.2.2 ha hw ha' hw'; unfold fitsB; obtain ⟨⟨wi, wb, wl⟩, wd⟩ := w; obtain ⟨ai, ab, al⟩ := a; have hwD : wshD ((wi, wb, wl), wd) = .agg [.agg [.str wi, .bool wb, atts wl], .int .i64 wd, cloD (wi, wb, wl)] := rfl; have hA : accD (ai, ab, al) = .agg [.str ai, .bool ab, atts al] := rfl; simp only at c1 ⊢; generalize decide (sortedL al = sortedL wl) = q at *; cases wb <;> cases ok <;> cases ab
  all_goals simp -implicitDefEqProofs [hwD, hA]
  refine ⟨rfl, rfl, callK c1 ?_⟩; simp -implicitDefEqProofs
def ck (p u : Nat) (hq : Value) (dl : Int) (V : List Wsh) (uo : Nat) (A : List Acc) : List AV :=
  [.hb (va p) 78 (.agg [.int .i64 dl, .raw (.map (some u)), .raw hq]), .hm (.map (some u)) 9 (mapK wK wshD V) none, .hm (.map (some uo)) 9 (mapK aK accD A) none]
def oddB (A : List Acc) (V : List Wsh) (id : Str) : Bool := match getK wK id V with
  | some w => !fitsW w.1 (getK aK id A)
  | none => false
theorem odd_fn (p u : Nat) (hq : Value) (dl : Int) (V : List Wsh) (uo : Nat) (A : List Acc) (hV : ∀ w ∈ V, AccB w.1) (hA : ∀ a ∈ A, AccB a) (id : Str) (hid : hasK wK id V = true) :
    CtrG prog 62 ([.d (.str id)] ++ [D.ref (.raw (.map (some uo))), D.ref (.raw (va p))].map .d) (ck p u hq dl V uo A) (fun r hs' => r = .d (.bool (oddB A V id)) ∧ hs' = ck p u hq dl V uo A) := by
  refine fn_of_vwpG (fun i => false) (by kernel_rfl) func62 (by kernel_rfl) rfl rfl (nbl rfl) (by kernel_rfl) rfl ?_; have hm1 := mget_K (k := aK) (v := accD) A id; have hm2 := mget_K (k := wK) (v := wshD) V id; rw [hasK_get] at hid; obtain ⟨w, hw⟩ := Option.isSome_iff_exists.1 hid; have hwB := hV w (getK_some hw).1; unfold oddB; rw [hw] at hm2 ⊢; have hN : ∀ {l : List Att}, sortedL l = l → Fit2 l → Fits (sortedL l) := fun h1 h2 => by rw [h1]; exact h2.1
  cases hg : getK aK id A with
  | none =>
    have c1 := fits_fn w ([], false, []) false hwB.fit (by constructor <;> simp [Fits, total]) (hN hwB.normal hwB.fit) (by rw [show sortedL ([] : List Att) = [] from rfl]; simp [Fits]); rw [fitsB_none] at c1; rw [hg] at hm1; obtain ⟨q, hq'⟩ : ∃ q, fitsW w.1 none = q := ⟨_, rfl⟩; rw [hq'] at c1; simp only [hq']; simp -implicitDefEqProofs [initG, takeH, putH, ck, ]; refine lookK (m := mapK aK accD A) (E := none) 1000002 (by omega) map71 (by simp [initG]) (fit_str9 _) Tryz.zd_39 hm1 ?_; simp -implicitDefEqProofs [initG, ]; refine rawFd (e := 78) (ds := [.int .i64 dl, .raw (.map (some u)), .raw hq]) 1000000 (by simp [initG]) (by omega) (by simp) (by kernel_rfl) ?_; simp -implicitDefEqProofs [initG]; refine lookK (m := mapK wK wshD V) (E := none) 1000001 (by omega) map76 (by simp [initG]) (fit_str9 _) Tryz.zd_97 hm2 ?_; simp -implicitDefEqProofs [initG, ]; refine callP c1 ?_; simp -implicitDefEqProofs [initG, ]; exact ⟨.d (.bool !q), [1000000, 1000001, 1000002], by simp, by simp [initG, ck, isH], by simp [ResG], by simp, by simp [initG, ck]⟩
  | some a =>
    have haB := hA a (getK_some hg).1; have c1 := fits_fn w a true hwB.fit haB.fit (hN hwB.normal hwB.fit) (hN haB.normal haB.fit); rw [fitsB_some] at c1; rw [hg] at hm1; obtain ⟨q, hq'⟩ : ∃ q, fitsW w.1 (some a) = q := ⟨_, rfl⟩; rw [hq'] at c1; simp only [hq']; have hAD : accD a = .agg [.str a.1, .bool a.2.1, atts a.2.2] := rfl; simp -implicitDefEqProofs [initG, takeH, putH, ck, ]; refine lookK (m := mapK aK accD A) (E := none) 1000002 (by omega) map71 (by simp [initG]) (fit_str9 _) Tryz.zd_39 hm1 ?_; simp -implicitDefEqProofs [initG, hAD]; refine rawFd (e := 78) (ds := [.int .i64 dl, .raw (.map (some u)), .raw hq]) 1000000 (by simp [initG]) (by omega) (by simp) (by kernel_rfl) ?_; simp -implicitDefEqProofs [initG]; refine lookK (m := mapK wK wshD V) (E := none) 1000001 (by omega) map76 (by simp [initG]) (fit_str9 _) Tryz.zd_97 hm2 ?_; simp -implicitDefEqProofs [initG, hAD]; refine callP c1 ?_; simp -implicitDefEqProofs [initG, ]; exact ⟨.d (.bool !q), [1000000, 1000001, 1000002], by simp, by simp [initG, ck, isH], by simp [ResG], by simp, by simp [initG, ck]⟩
theorem keep_fn (p u : Nat) (hq : Value) (dl : Int) (V : List Wsh) (uo : Nat) (A : List Acc) (hV : ∀ w ∈ V, AccB w.1) (hA : ∀ a ∈ A, AccB a) (id : Str) (hid : hasK wK id V = true) :
    CtrG prog 67 ([.d (.str id)] ++ [D.ref (.clo 62 [.ref (.raw (.map (some uo))), .ref (.raw (va p))])].map .d) (ck p u hq dl V uo A) (fun r hs' => r = .d (.bool (!oddB A V id)) ∧ hs' = ck p u hq dl V uo A) := by
  refine fn_of_vwpG (fun i => i == 5000006) (by kernel_rfl) func67 (by kernel_rfl) rfl rfl (nbl rfl) (by kernel_rfl) rfl ?_; have c1 := odd_fn p u hq dl V uo A hV hA id hid; generalize oddB A V id = q at *; simp -implicitDefEqProofs [initG, takeH, putH, ck, ]; refine givB [1000000, 1000001, 1000002] 1000000 c1 (by simp [initG, ck]) rfl (by simp) ?_; rintro r hs' ⟨rfl, rfl⟩; simp -implicitDefEqProofs [initG, takeH, putH, ck, ]; exact ⟨.d (.bool !q), [1000000, 1000001, 1000002], by simp, by simp [initG, ck, isH], by simp [ResG], by simp, by simp [initG, ck]⟩
section
variable (g : FuncId) (cs : List D) (hcs : (cs.all fun c => !c.isAgg) = true) (P : Str → Bool) (l : List Str) (hl : l.length < 1000000) (p u : Nat) (hq : Value) (dl : Int) (V : List Wsh) (uo : Nat) (A : List Acc)
  (hp : ∀ x ∈ l, CtrG prog g ([.d (.str x)] ++ cs.map .d) (ck p u hq dl V uo A) (fun r hs' => r = .d (.bool (P x)) ∧ hs' = ck p u hq dl V uo A))
def IxI (hd : Value) (g : FuncId) (cs : List D) (P : Str → Bool) (l : List Str) (p u : Nat) (hq : Value) (dl : Int) (V : List Wsh) (uo : Nat) (A : List Acc) (k : Nat) (τ : St) : Prop :=
  τ 0 = .d (.raw hd) ∧ τ 1 = .d (.clo g cs) ∧ τ 7 = .d (.int .i64 l.length) ∧ τ 8 = .d (.int .i64 k) ∧ idxG P 0 l = idxG P k (l.drop k) ∧ τ 1000000 = .hs hd 9 (l.map .str) ∧ [1000001, 1000002, 1000003].map τ = ck p u hq dl V uo A
include hcs hl hp
theorem indexN_fn (hd : Value) : CtrG prog 89 [.d (.raw hd), .d (.clo g cs)] (.hs hd 9 (l.map .str) :: ck p u hq dl V uo A) (fun r hs' => r = .d (.int .i64 (idxG P 0 l)) ∧ hs' = .hs hd 9 (l.map .str) :: ck p u hq dl V uo A) := by
  refine CtrG.inShape (pre := []) (post := ck p u hq dl V uo A) (enters_of func89 (by kernel_rfl) rfl) ?_; rintro HA HC hhd; rw [List.length_map] at hhd
  show CtrG prog 89 _ (.hs hd 9 (l.map .str) :: ck p u hq dl V uo A) _
  refine fn_of_vwpG (fun i => i == 5000016) (by kernel_rfl) func89 (by kernel_rfl) rfl rfl (nbl rfl) (by kernel_rfl) rfl ?_; subst hhd; simp -implicitDefEqProofs [initG, takeH, putH, ck, ]; refine loopN l.length (IxI (.slice HA l.length HC) g cs P l p u hq dl V uo A) ⟨by simp [initG], by simp [initG], by simp [initG], by simp [initG], by simp, by simp [initG], by simp [initG, ck]⟩ ?_; rintro k τ hk ⟨g0, g1, g7, g8, hi, gH, gC⟩; simp only [ck, List.map_cons, List.map_nil, List.cons.injEq, and_true] at gC; obtain ⟨gD, gE, gF⟩ := gC; by_cases hlt : k < l.length
  · have hlt' : (k : Int) < l.length := (by omega); rw [idxG_drop hlt] at hi; have hf := hp _ (gmm hlt); have hqk : (l.map D.str)[k]? = some (.str l[k]) := (by simp [hlt]); generalize hx : l[k] = x at *; simp only [List.cons_append, List.nil_append] at hf; obtain ⟨R, hR⟩ : ∃ R, idxG P 0 l = R := ⟨_, rfl⟩; rw [hR] at hi ⊢; by_cases he : P x = true
    · rw [if_pos he] at hi; rw [he] at hf; simp -implicitDefEqProofs [g0, g1, g7, g8, gH, gD, gE, gF, hlt, hlt']; refine rawIx (e' := 9) (l := l.map .str) 1000000 (by simp [gH]) (by omega) rfl (by simpa using hlt) ?_; simp -implicitDefEqProofs [g0, g1, g7, g8, gH, gD, gE, gF, hlt, hx]; refine ⟨by simpa using hcs, ?_⟩; refine givB [1000001, 1000002, 1000003] 1000010 hf (by simp [gD, gE, gF, ck]) rfl (by simp) ?_; rintro r hs' ⟨rfl, rfl⟩; simp -implicitDefEqProofs [g0, g1, g7, g8, gH, gD, gE, gF, takeH, putH, ck]; exact ⟨.d (.int .i64 R), [1000000, 1000001, 1000002, 1000003], by simp, by simp [gH, gD, gE, gF, isH], by simp [ResG, hi], by simp, by simp [gH, gD, gE, gF, ck]⟩
    · rw [if_neg he] at hi; rw [Bool.not_eq_true] at he; rw [he] at hf; simp -implicitDefEqProofs [g0, g1, g7, g8, gH, gD, gE, gF, hlt, hlt']; refine rawIx (e' := 9) (l := l.map .str) 1000000 (by simp [gH]) (by omega) rfl (by simpa using hlt) ?_; simp -implicitDefEqProofs [g0, g1, g7, g8, gH, gD, gE, gF, hlt, hx]; refine ⟨by simpa using hcs, ?_⟩; refine givB [1000001, 1000002, 1000003] 1000010 hf (by simp [gD, gE, gF, ck]) rfl (by simp) ?_; rintro r hs' ⟨rfl, rfl⟩; simp -implicitDefEqProofs [g0, g1, g7, g8, gH, gD, gE, gF, takeH, putH, ck]; refine ⟨by omega, again hlt ⟨by simp [g0], by simp [g1], by simp [g7], by simp, by rw [hR]; exact hi, by simp [gH], by simp [ck]⟩⟩
  · have hlt' : ¬ (k : Int) < l.length := (by omega); rw [List.drop_eq_nil_of_le (by omega)] at hi; have hm1 : idxG P 0 l = -1 := hi; rw [hm1]; simp -implicitDefEqProofs [g0, g1, g7, g8, gH, gD, gE, gF, hlt, hlt']; exact ⟨.d (.int .i64 (-1)), [1000000, 1000001, 1000002, 1000003], by simp, by simp [gH, gD, gE, gF, isH], by simp [ResG], by simp, by simp [gH, gD, gE, gF, ck]⟩
end
section
variable (g : FuncId) (cs : List D) (hcs : (cs.all fun c => !c.isAgg) = true) (P : Str → Bool) (l : List Str) (hl : l.length < 1000000) (p u : Nat) (hq : Value) (dl : Int) (V : List Wsh) (uo : Nat) (A : List Acc)
  (hp : ∀ x ∈ l, CtrG prog g ([.d (.str x)] ++ cs.map .d) (ck p u hq dl V uo A) (fun r hs' => r = .d (.bool (P x)) ∧ hs' = ck p u hq dl V uo A))
def DlI (hd : Value) (g : FuncId) (cs : List D) (P : Str → Bool) (l : List Str) (p u : Nat) (hq : Value) (dl : Int) (V : List Wsh) (uo : Nat) (A : List Acc) (j : Nat) (τ : St) : Prop :=
  ∃ (q : Nat) (m : List Str), τ 0 = .d (.raw hd) ∧ τ 1 = .d (.clo g cs) ∧ τ 5 = .d (.int .i64 q) ∧ τ 6 = .d (.int .i64 j) ∧ τ 1000000 = .hs hd 9 (m.map .str) ∧ [1000001, 1000002, 1000003].map τ = ck p u hq dl V uo A ∧ m.length = l.length ∧ q < j ∧ m.take q = (l.take j).filter (fun x => !P x) ∧ m.drop j = l.drop j
include hcs hl hp
theorem deleteN_fn (hd : Value) : CtrG prog 64 [.d (.raw hd), .d (.clo g cs)] (.hs hd 9 (l.map .str) :: ck p u hq dl V uo A) (fun r hs' => r = .own true 9 ((l.filter fun x => !P x).map .str) ∧ hs' = ck p u hq dl V uo A) := by
  refine CtrG.inShape (pre := []) (post := ck p u hq dl V uo A) (enters_of func64 (by kernel_rfl) rfl) ?_; rintro HA HC hhd; rw [List.length_map] at hhd
  show CtrG prog 64 _ (.hs hd 9 (l.map .str) :: ck p u hq dl V uo A) _
  refine fn_of_vwpG (fun i => i == 5000010 || i == 22000013 || i == 22000036 || i == 5000028 || i == 4) (by kernel_rfl) func64 (by kernel_rfl) rfl rfl (nbl rfl) (by kernel_rfl) rfl ?_; have c1 := indexN_fn g cs hcs P l hl p u hq dl V uo A hp hd; subst hhd; simp -implicitDefEqProofs [initG, takeH, putH, ck, ]; refine givB [1000000, 1000001, 1000002, 1000003] 1000010 c1 (by simp [initG, ck]) rfl (by simp) ?_; rintro r hs' ⟨rfl, rfl⟩; by_cases hn : idxG P 0 l = -1
  · simp -implicitDefEqProofs [initG, takeH, putH, ck, hn]; refine unK (u := .slice HA l.length HC) (e := 9) (l := l.map .str) 1000000 (by omega) (by simp [initG]) (by simp [initG]) ?_; simp -implicitDefEqProofs [initG, takeH, putH, ck, idxG_neg P l 0 hn]; exact ⟨.own true 9 (l.map .str), [1000001, 1000002, 1000003], by simp, by simp [initG, isH], by simp [ResG], by simp, by simp [initG, ck]⟩
  · obtain ⟨i, h1, h2, h3, h4⟩ := idxG_pos P l 0 hn; simp only [Nat.zero_add] at h1; have e1 : ¬ ((i : Int) = -1) := (by omega); simp -implicitDefEqProofs [initG, takeH, putH, ck, h1, e1]; refine ⟨by omega, ?_⟩; refine loopK (fun n τ => ∃ j, n = l.length - j ∧ j ≤ l.length ∧ DlI (.slice HA l.length HC) g cs P l p u hq dl V uo A j τ) (l.length - (i + 1)) ⟨i + 1, rfl, by omega, i, l, by simp [initG], by simp [initG], by simp, by simp, by simp, by simp [ck], rfl, by omega, h4.symm, rfl⟩ ?_; rintro n τ ⟨j, rfl, hj, q, m, g0, g1, g5, g6, gH, gC, hm, hq', ht, hd'⟩; simp only [ck, List.map_cons, List.map_nil, List.cons.injEq, and_true] at gC; obtain ⟨gD, gE, gF⟩ := gC; by_cases hlt : j < l.length
    · have hmj : m[j]'(by omega) = l[j] := by
        have := congrArg (fun x : List Str => x[0]?) hd'; simpa [hlt, hm] using this
      have hf := hp _ (gmm hlt); simp only [List.cons_append, List.nil_append] at hf; have hlt' : (j : Int) < l.length := (by omega); have hjm : j < m.length := (by omega); by_cases he : P l[j] = true
      · rw [he] at hf; simp -implicitDefEqProofs [g0, g1, g5, g6, gH, gD, gE, gF, hlt', hlt]; refine rawIx (e' := 9) (l := m.map .str) 1000000 (by simp [gH]) (by omega) rfl (by simpa using hjm) ?_; simp -implicitDefEqProofs [g0, g1, g5, g6, gH, gD, gE, gF, hlt', hlt, hjm, hmj]; refine ⟨by simpa using hcs, ?_⟩; refine givB [1000001, 1000002, 1000003] 1000010 hf (by simp [gD, gE, gF, ck]) rfl (by simp) ?_; rintro r hs' ⟨rfl, rfl⟩; simp -implicitDefEqProofs [g0, g1, g5, g6, gH, gD, gE, gF, takeH, putH, ck]; refine ⟨by omega, _, ?_, j + 1, rfl, by omega, q, m, by simp [g0], by simp [g1], by simp [g5], by simp, by simp [gH], by simp [ck], hm, by omega, ?_, ?_⟩
        · omega
        · rw [take_s hlt, List.filter_append, ht]; simp [he]
        · rw [← List.drop_drop, hd', List.drop_drop]
      · have hq2 : q < m.length := (by omega); have hqq : m[q]? = some m[q] := List.getElem?_eq_getElem hq2; have he' : P l[j] = false := (by simpa using he); rw [he'] at hf; simp -implicitDefEqProofs [g0, g1, g5, g6, gH, gD, gE, gF, hlt', hlt]; refine rawIx (e' := 9) (l := m.map .str) 1000000 (by simp [gH]) (by omega) rfl (by simpa using hjm) ?_; simp -implicitDefEqProofs [g0, g1, g5, g6, gH, gD, gE, gF, hlt', hlt, hjm, hmj]; refine ⟨by simpa using hcs, ?_⟩; refine givB [1000001, 1000002, 1000003] 1000010 hf (by simp [gD, gE, gF, ck]) rfl (by simp) ?_; rintro r hs' ⟨rfl, rfl⟩; simp -implicitDefEqProofs [g0, g1, g5, g6, gH, gD, gE, gF, takeH, putH, ck]; refine rawIx (e' := 9) (l := m.map .str) 1000000 (by simp [gH]) (by omega) rfl (by simpa using hq2) ?_; simp -implicitDefEqProofs [g0, g1, g5, g6, gH, gD, gE, gF, hqq]; refine ⟨by omega, by omega, _, ?_, j + 1, rfl, by omega, q + 1, m.set q l[j], by simp [g0], by simp [g1], by simp, by simp, by simp [List.map_set], by simp [ck], by simpa using hm, by omega, ?_, ?_⟩
        · omega
        · rw [List.take_set, take_s hq2, List.set_append_right _ _ (by simp; omega)]; simp only [List.length_take, Nat.min_eq_left (Nat.le_of_lt hq2), Nat.sub_self, List.set_cons_zero]; rw [take_s hlt, List.filter_append, ht]; simp [he]
        · rw [List.drop_set_of_lt (by omega), ← List.drop_drop, hd', List.drop_drop]
    · have hlt' : ¬ (j : Int) < l.length := (by omega); have hjl : j = l.length := (by omega); subst hjl; simp -implicitDefEqProofs [g0, g1, g5, g6, gH, gD, gE, gF, hlt', hlt]; refine unK (u := .slice HA l.length HC) (e := 9) (l := m.map .str) 1000000 (by omega) (by simp [g0]) (by simp [gH]) ?_; simp -implicitDefEqProofs [g0, g1, g5, g6, gH, gD, gE, gF]; refine ⟨by omega, by omega, ?_⟩; have e : List.take q (List.take q (List.map D.str m) ++ List.replicate (m.length - q) (D.str [])) = (l.filter fun x => !P x).map .str := by
        rw [List.take_append_of_le_length (by simp; omega), List.take_take, Nat.min_self, ← List.map_take, ht, List.take_length]
      exact ⟨.own true 9 ((l.filter fun x => !P x).map .str), [1000001, 1000002, 1000003], by simp, by simp [gD, gE, gF, isH], by simp [ResG, e], by simp, by simp [gD, gE, gF, ck]⟩
end
theorem putK_last {α : Type} {k : α → Str} {l : List α} (h : OrdK k l) {j : Nat} (hj : j < l.length) : putK k l[j] (l.take j) = l.take (j + 1) := by
  have hlt : ∀ x ∈ l.take j, k x < k l[j] := fun x hx => by
    obtain ⟨i, hi, rfl⟩ := List.getElem_of_mem hx; simp only [List.length_take] at hi; rw [List.getElem_take]; exact List.pairwise_iff_getElem.1 h i j (by omega) hj (by omega)
  unfold putK lowL highL; rw [take_s hj, List.filter_eq_self.2 (fun x hx => by simpa using hlt x hx), List.filter_eq_nil_iff.2 (fun x hx => by
    simp only [decide_eq_true_eq]; exact fun h2 => s_irr _ (s_trans h2 (hlt x hx)))]
theorem oddS_eq {A : List Acc} {V : List Wsh} (h : OrdK wK V) : (V.map wK).filter (oddB A V) = oddS A V := by
  unfold oddS; rw [List.filter_map]; congr 1
  refine List.filter_congr fun w hw => ?_
  simp only [Function.comp_apply]; unfold oddB; rw [getK_mem h hw]; rfl
def ChI (p u : Nat) (hq : Value) (dl : Int) (V : List Wsh) (q : List Str) (p2 u1 u2 : Nat) (F : List Int) (t : TSt) (uo : Nat) (A : List Acc) (k : Nat) (τ : St) : Prop :=
  τ 1000011 = .undef ∧ τ 1000012 = .undef ∧ τ 2 = .box (.raw (va p)) ∧ τ 29 = .d (.sl (A.map accD)) ∧ τ 30 = .d (.int .i64 A.length) ∧ τ 31 = .d (.int .i64 k) ∧ τ 8 = .box (.raw (.map (some uo))) ∧ [1000000, 1000001, 1000002, 1000003, 1000004, 1000005].map τ = sy p u hq dl (V, q) ++ tg p2 u1 u2 F t ∧ τ 1000010 = .hm (.map (some uo)) 9 (mapK aK accD (A.take k)) none
theorem scheck_fn (p u : Nat) (hq : Value) (dl : Int) (V : List Wsh) (q : List Str) (hs : SI4 (V, q)) (hV : V.length < 100000) (p2 u1 u2 : Nat) (F : List Int) (t : TSt) (hn : 0 ≤ t.2 ∧ t.2 < 1000000) (ht : TI4 t.1) (hl : t.1.length < 1000000) :
    CtrG prog 30 [.d (.raw (va p)), .d (.raw (va p2))] (sy p u hq dl (V, q) ++ tg p2 u1 u2 F t)
      (fun r hs' => r = .tup [.d (strs (chkS F t V).2.1), .d (.int .i64 (chkS F t V).2.2)] ∧ hs' = sy p u hq dl (V, q) ++ tg p2 u1 u2 F (chkS F t V).1) := by
  refine fn_of_vwpGN (rs := [.tmp 4, .tmp 5]) (fun i => i == 5000013 || i == 5000017 || i == 5000022 || i == 5000045 || i == 5000046 || i == 5000048) (by kernel_rfl) func30 (by kernel_rfl) rfl rfl (by simp) (nbl rfl) (by kernel_rfl) rfl ?_; have c1 := sready_fn p u hq dl (V, q); have c2 := tready_fn p2 u1 u2 F t; have c3 := tlist_fn p2 u1 u2 F t hn ht hl; obtain ⟨R, hR⟩ : ∃ R, chkS F t V = R := ⟨_, rfl⟩; rw [hR]; unfold chkS at hR; unfold lstT at c3; obtain ⟨A, n⟩ := t; simp only at hn ht hl hR c3; by_cases h1 : n ∈ F
  · rw [if_pos h1] at hR c3; subst hR; simp -implicitDefEqProofs [initG, takeH, putH, sy, tg]; refine givB [1000000, 1000001, 1000002] 1000013 c1 (by simp [initG, sy]) rfl (by simp) ?_; rintro r hs' ⟨rfl, rfl⟩; simp -implicitDefEqProofs [initG, takeH, putH, sy, tg]; refine givB [1000003, 1000004, 1000005] 1000013 c2 (by simp [initG, tg]) rfl (by simp) ?_; rintro r hs' ⟨rfl, rfl⟩; simp -implicitDefEqProofs [initG, takeH, putH, sy, tg]; refine givB [1000003, 1000004, 1000005] 1000013 c3 (by simp [initG, tg]) rfl (by simp) ?_; rintro r hs' ⟨rfl, rfl⟩; simp -implicitDefEqProofs [initG, takeH, putH, sy, tg]; exact ⟨[.d (strs []), .d (.int .i64 30)], [1000000, 1000001, 1000002, 1000003, 1000004, 1000005], by simp, by simp [initG, sy, tg, isH], by simp [resDs, resD, strs], by simp, by simp [initG, sy, tg]⟩
  · rw [if_neg h1] at hR c3; subst hR; simp -implicitDefEqProofs [initG, takeH, putH, sy, tg]; refine givB [1000000, 1000001, 1000002] 1000013 c1 (by simp [initG, sy]) rfl (by simp) ?_; rintro r hs' ⟨rfl, rfl⟩; simp -implicitDefEqProofs [initG, takeH, putH, sy, tg]; refine givB [1000003, 1000004, 1000005] 1000013 c2 (by simp [initG, tg]) rfl (by simp) ?_; rintro r hs' ⟨rfl, rfl⟩; simp -implicitDefEqProofs [initG, takeH, putH, sy, tg]; refine givB [1000003, 1000004, 1000005] 1000013 c3 (by simp [initG, tg]) rfl (by simp) ?_; rintro r hs' ⟨rfl, rfl⟩; simp -implicitDefEqProofs [initG, takeH, putH, sy, tg]; refine makeK 9 1000010 (by simp [initG]) (fun uo => ?_); simp -implicitDefEqProofs [initG, ]; refine loopN A.length (ChI p u hq dl V q p2 u1 u2 F (A, n + 1) uo A) ⟨by simp [initG], by simp [initG], by simp [initG], by simp [initG], by simp [initG], by simp [initG], by simp [initG], by simp [initG, sy, tg], by simp [initG, mapK]⟩ ?_; rintro k τ hk ⟨gU, gW, g2, g29, g30, g31, g8, gH, gO⟩; simp only [sy, tg, List.map_cons, List.map_nil, List.cons_append, List.nil_append, List.cons.injEq, and_true] at gH; obtain ⟨gA, gB, gC, gD, gE, gF⟩ := gH; by_cases hlt : k < A.length
    · have hlt' : (k : Int) < A.length := (by omega); have hp := mset_K (v := accD) (l := A.take k) (List.Pairwise.sublist (List.take_sublist k A) ht.ord) A[k]; rw [putK_last ht.ord hlt] at hp; have hqk : (A.map accD)[k]? = some (accD A[k]) := (by simp [hlt]); generalize hx : A[k] = x at *; have hA : accD x = .agg [.str x.1, .bool x.2.1, atts x.2.2] := rfl; simp -implicitDefEqProofs [gU, gW, g2, g29, g30, g31, g8, gA, gB, gC, gD, gE, gF, gO, hlt, hlt', hx, hA]; refine updK (E := none) (m := mapK aK accD (A.take k)) 1000010 map71 (by simp [gO]) (fit_str9 _) _ hp ?_; simp -implicitDefEqProofs [gU, gW, g2, g29, g30, g31, g8, gA, gB, gC, gD, gE, gF, gO]; (repeat refine ai (by omega) ?_); exact again hlt ⟨by simp [gU], by simp [gW], by simp [g2], by simp [g29], by simp [g30], by simp, by simp [g8], by simp [gA, gB, gC, gD, gE, gF, sy, tg], by simp⟩
    · have hlt' : ¬ (k : Int) < A.length := (by omega); obtain rfl : k = A.length := by omega
      rw [ttl (by omega)] at gO; simp -implicitDefEqProofs [gU, gW, g2, g29, g30, g31, g8, gA, gB, gC, gD, gE, gF, gO, hlt, hlt']; have hkl : ∀ x ∈ mapK wK wshD V, (keyS x.1).length ≤ maxLen := fun x hx => Nat.le_trans (keyS_K (n := 64) (fun w hw => word_len (hs.acc w hw).word) x hx) (by decide)
      have hks := keysS_K (v := wshD) hs.ord; have hhas : ∀ x ∈ V.map wK, hasK wK x V = true := fun x hx => hasK_iff.2 hx
      have hodd := oddS_eq (A := A) hs.ord; simp -implicitDefEqProofs [gU, gW, g2, g29, g30, g31, g8, gA, gB, gC, gD, gE, gF, gO, hlt, hlt']; refine rawFd (e := 78) (ds := [.int .i64 dl, .raw (.map (some u)), .raw hq]) 1000000 (by simp [gA]) (by omega) (by simp) (by kernel_rfl) ?_; simp -implicitDefEqProofs [gU, gW, gA, gB, gC, gD, gE, gF, gO]; refine givB [] 1000011 (keysW_fn (some u)) (by simp) rfl (by simp) ?_; rintro r hs' ⟨qb, rfl, rfl⟩; simp -implicitDefEqProofs [gU, gW, gA, gB, gC, gD, gE, gF, gO, takeH, putH]; have c4 := sortedW_fn u qb 76 (mapK wK wshD V) none (by rw [mapK_len]; omega) hkl; rw [hks] at c4; have c5 := c4.nameR (Post' := fun r hs' => ∃ A c, r = .d (.raw (.slice A V.length c)) ∧ hs' = [.hs (.slice A V.length c) 9 ((V.map wK).map .str), .hm (.map (some u)) 9 (mapK wK wshD V) none, .hb (va qb) 76 (.raw (.map (some u)))]) (by
        rintro r hs' ⟨rfl, rfl⟩; refine ⟨_, _, rfl, fun A c => ⟨A, c, by simp, by simp⟩⟩)
      refine givB [1000001, 1000011] 1000012 c5 (by simp [gB]) rfl (by simp) ?_; rintro r hs' ⟨SA, SC, rfl, rfl⟩; simp -implicitDefEqProofs [gU, gW, gA, gB, gC, gD, gE, gF, gO, takeH, putH]; have c6 := deleteN_fn 67 [D.ref (.clo 62 [.ref (.raw (.map (some uo))), .ref (.raw (va p))])] (by simp [D.isAgg]) (fun x => !oddB A V x) (V.map wK) (by simp; omega) p u hq dl V uo A (fun x hx => keep_fn p u hq dl V uo A hs.acc ht.acc x (hhas x hx)) (.slice SA V.length SC); have c7 := c6.asData (Post' := fun r hs' => r = .d (strs (oddS A V)) ∧ hs' = ck p u hq dl V uo A) (by
        rintro r hs' ⟨rfl, rfl⟩; refine ⟨_, _, rfl, ?_, rfl⟩; rw [← hodd]; simp [strs])
      refine givB [1000001, 1000000, 1000011, 1000010] 1000020 c7 (by simp [gA, gO, ck]) rfl (by simp) ?_; rintro r hs' ⟨rfl, rfl⟩; simp -implicitDefEqProofs [gU, gW, gA, gB, gC, gD, gE, gF, gO, takeH, putH, ck]; exact ⟨[.d (strs (oddS A V)), .d (.int .i64 0)], [1000001, 1000000, 1000002, 1000003, 1000004, 1000005], by simp, by simp [gA, gB, gC, gD, gE, gF, isH], by simp [resDs, resD], by simp, by simp [gA, gB, gC, gD, gE, gF, sy, tg]⟩
theorem lists07_fn (l m : List Str) (hl : l.length < 1000000) (hm : m.length < 1000000) : Ctr prog 32 [.d (strs l), .d (strs m)] (.d (.bool (decide (l = m)))) := by
  refine fv (fun _ => false) func32 (by kernel_rfl) rfl rfl rfl rfl rfl ?_; by_cases hlm : l.length = m.length
  · simp -implicitDefEqProofs [strs, hlm]; refine loopN m.length (fun k τ => τ 0 = .d (strs l) ∧ τ 1 = .d (strs m) ∧ τ 5 = .d (.int .i64 k) ∧ l.take k = m.take k) (by simp [strs, hlm]) ?_; rintro k τ hk ⟨h0, h1, h5, ht⟩; by_cases hlt : k < m.length
    · have hlt' : k < l.length := (by omega); by_cases he : l[k] = m[k]
      · simp -implicitDefEqProofs [h0, h1, h5, strs, hlm, hlt, hlt', he]; refine ⟨by omega, again hlt ⟨by simp [h0, strs], by simp [h1, strs], by simp, ?_⟩⟩; rw [take_s hlt, take_s hlt', ht, he]
      · simp -implicitDefEqProofs [h0, h1, h5, strs, hlm, hlt, hlt', he]; rintro rfl; exact he rfl
    · rw [ttl (by omega), ttl (by omega)] at ht; simp -implicitDefEqProofs [h0, h1, h5, strs, hlm, hlt, ht]; try omega
  · have hlm' : ¬ (l.length : Int) = m.length := (by omega); simp -implicitDefEqProofs [strs, hlm']; rintro rfl; exact hlm rfl
def accs (l : List Acc) : D := .sl (l.map accD)
def findC (l : List Acc) (s : Str) : Acc × Bool := match getK aK s l with
  | some a => (a, true)
  | none => (([], false, []), false)
def FnI (l : List Acc) (s : Str) (k : Nat) (τ : St) : Prop := τ 0 = .d (accs l) ∧ τ 1 = .d (.str s) ∧ τ 4 = .box (accD ([], false, [])) ∧ τ 6 = .d (.int .i64 k) ∧ getK aK s l = getK aK s (l.drop k)
theorem find_fn (l : List Acc) (s : Str) (hl : l.length < 1000000) : Ctr prog 40 [.d (accs l), .d (.str s)] (.tup [.d (accD (findC l s).1), .d (.bool (findC l s).2)]) := by
  refine fn_of_vwpN (rv := .cell 4 39) (rs := [.tmp 5]) (r := .d (accD (findC l s).1)) (ys := [.d (.bool (findC l s).2)]) (fun _ => false) (by kernel_rfl) func40 (by kernel_rfl) rfl rfl (by simp) (nbl rfl) (by kernel_rfl) rfl rfl ?_; obtain ⟨R, hR⟩ : ∃ R, findC l s = R := ⟨_, rfl⟩; rw [hR]; unfold findC at hR; have h00 : accD ([], false, []) = .agg [.str [], .bool false, .sl []] := rfl; simp -implicitDefEqProofs [accs]; refine loopN l.length (FnI l s) ⟨by simp [accs], by simp, by simp [h00], by simp, by simp⟩ ?_; rintro k τ hk ⟨g0, g1, g4, g6, hi⟩; rw [h00] at g4; by_cases hlt : k < l.length
  · have hlt' : (k : Int) < l.length := (by omega); rw [List.drop_eq_getElem_cons hlt] at hi; have e1 : (l.map accD)[k]? = some (accD l[k]) := (by simp [hlt]); generalize hx : l[k] = x at *; obtain ⟨xi, xb, xl⟩ := x; have hA : accD (xi, xb, xl) = .agg [.str xi, .bool xb, atts xl] := rfl; by_cases he : xi = s
    · have hg : getK aK s l = some (xi, xb, xl) := by rw [hi]; simp [getK, aK, he]
      rw [hg] at hR; subst hR; subst he; simp -implicitDefEqProofs [g0, g1, g4, g6, accs, hlt, hlt', hx, hA, resD, resDs, resO]
    · have hg : getK aK s l = getK aK s (l.drop (k + 1)) := by rw [hi]; simp [getK, aK, he]
      simp -implicitDefEqProofs [g0, g1, g4, g6, accs, hlt, hlt', hx, hA, he]; refine ⟨by omega, again hlt ⟨by simp [g0, accs], by simp [g1], by simp [g4, h00], by simp, hg⟩⟩
  · have hlt' : ¬ (k : Int) < l.length := (by omega); rw [List.drop_eq_nil_of_le (by omega)] at hi; have hg : getK aK s l = none := hi; rw [hg] at hR; subst hR; simp -implicitDefEqProofs [g0, g1, g4, g6, accs, hlt, hlt']; simp [resD, resDs, resO, h00]
def shB (s : Str) : Bool := decide (List.length s ≤ 300)
def attB (t : Att) : Bool := shB t.1 && (decide (t.2.length ≤ 10) && t.2.all shB)
def accB (a : Acc) : Bool := a.2.2.all attB && (shB a.1 && decide (a.2.2.length ≤ 10))
def RchA (a : Acc) : Prop := a.2.2.length ≤ 140737488351232 ∧ ∀ t ∈ a.2.2, t.2.length ≤ 140737488351232
theorem all_false {α : Type} {f : α → Bool} {l : List α} {k : Nat} (h : k < l.length) (hx : f l[k] = false) : l.all f = false := by
  rw [List.all_eq_false]; exact ⟨l[k], gmm h, by rw [hx]; simp⟩
theorem take_all {α : Type} {f : α → Bool} {l : List α} {k : Nat} (h : k < l.length) : (l.take (k + 1)).all f = ((l.take k).all f && f l[k]) := by
  rw [take_s h, List.all_append]; simp
def LgA (a : Acc) (k : Nat) (τ : St) : Prop := τ 1 = .box (accD a) ∧ τ 3 = .d (.int .i64 k) ∧ (a.2.2.take k).all attB = true
def LgB (a : Acc) (i : Nat) (V : List Str) (k : Nat) (τ : St) : Prop := τ 1 = .box (accD a) ∧ τ 3 = .d (.int .i64 i) ∧ τ 4 = .d (.int .i64 k) ∧ (V.take k).all shB = true
theorem light_fn (a : Acc) (hr : RchA a) : Ctr prog 41 [.d (accD a)] (.d (.bool (accB a))) := by
  refine fv (fun _ => false) func41 (by kernel_rfl) rfl rfl rfl rfl rfl ?_; obtain ⟨n, b, A⟩ := a; obtain ⟨hr1, hr2⟩ := hr; simp only at hr1 hr2; have hed : accD (n, b, A) = .agg [.str n, .bool b, .sl (A.map att)] := rfl; obtain ⟨V, hV⟩ : ∃ V, accB (n, b, A) = V := ⟨_, rfl⟩; rw [hV, hed]; unfold accB at hV; simp only at hV; simp -implicitDefEqProofs; refine loopN A.length (LgA (n, b, A)) ⟨by simp [hed], by simp, by simp⟩ ?_; rintro k τ hk ⟨g1, g3, hI⟩; rw [hed] at g1; by_cases hlt : k < A.length
  · have hlt' : (k : Int) < A.length := (by omega); have hts := take_all (f := attB) hlt; have hbad : attB A[k] = false → V = false := fun h => by rw [← hV, all_false hlt h]; simp
    have hvl := hr2 _ (gmm hlt); generalize hx : A[k] = y at *; obtain ⟨an, vs⟩ := y; have hta : att (an, vs) = .agg [.str an, .sl (vs.map .str)] := rfl; have haw : ∀ a : Att, width (att a) = 2 := fun _ => rfl
    simp only at hvl; by_cases m1 : List.length an ≤ 300
    case neg =>
      have m1' : (300 : Int) < List.length an := (by omega); have hV0 := hbad (by simp [attB, shB]; omega); simp -implicitDefEqProofs [g1, g3, hlt, hlt', hx, hta, m1', hV0]
    have m1' : ¬ (300 : Int) < List.length an := (by omega); by_cases m2 : vs.length ≤ 10
    case neg =>
      have m2' : (10 : Int) < vs.length := (by omega); have hV0 := hbad (by simp [attB, shB]; omega); simp -implicitDefEqProofs [g1, g3, hlt, hlt', hx, hta, m1', m2', hV0]
    have m2' : ¬ (10 : Int) < vs.length := (by omega); have hat : attB (an, vs) = vs.all shB := (by simp [attB, shB, m1, m2]); rw [hat] at hts hbad; simp -implicitDefEqProofs [g1, g3, hlt, hlt', hx, hta, m1', m2']; (repeat refine ai (by first | omega | rfl) ?_); refine loopN vs.length (LgB (n, b, A) k vs) ⟨by simp [g1, hed], by simp [g3], by simp, by simp⟩ ?_; rintro j τ2 hj ⟨q1, q3, q4, hJ⟩; rw [hed] at q1; by_cases hjt : j < vs.length
    · have hjt' : (j : Int) < vs.length := (by omega); have hts2 := take_all (f := shB) hjt; have hbad2 : shB vs[j] = false → V = false := fun h => hbad (all_false hjt h)
      generalize hy : vs[j] = s at *; by_cases hs : List.length s ≤ 300
      · have hs' : ¬ (300 : Int) < List.length s := (by omega); simp -implicitDefEqProofs [q1, q3, q4, hlt, hlt', hx, hta, hjt, hjt', hy, hs']; (repeat refine ai (by first | omega | rfl) ?_); exact again hjt ⟨by simp [q1, hed], by simp [q3], by simp, by rw [hts2, hJ]; simp [shB, hs]⟩
      · have hs' : (300 : Int) < List.length s := (by omega); have hV0 := hbad2 (by simp [shB]; omega); simp -implicitDefEqProofs [q1, q3, q4, hlt, hlt', hx, hta, hjt, hjt', hy, hs', hV0]
    · have hjt' : ¬ (j : Int) < vs.length := (by omega); have : vs.take j = vs := ttl (by omega); rw [this] at hJ; simp -implicitDefEqProofs [q1, q3, q4, hlt, hlt', hx, hta, hjt, hjt']; (repeat refine ai (by first | omega | rfl) ?_); exact again hlt ⟨by simp [q1, hed], by simp, by rw [hts, hI, hJ]; rfl⟩
  · have hlt' : ¬ (k : Int) < A.length := (by omega); have : A.take k = A := ttl (by omega); rw [this] at hI; rw [hI, Bool.true_and] at hV; subst hV; by_cases n1 : List.length n ≤ 300
    · have n1' : (List.length n : Int) ≤ 300 := (by omega); by_cases n2 : A.length ≤ 10
      · have n2' : (A.length : Int) ≤ 10 := (by omega); simp -implicitDefEqProofs [g1, g3, hlt, hlt', n1, n1', n2, n2', shB]
      · have n2' : ¬ (A.length : Int) ≤ 10 := (by omega); simp -implicitDefEqProofs [g1, g3, hlt, hlt', n1, n1', n2, n2', shB]
    · have n1' : ¬ (List.length n : Int) ≤ 300 := (by omega); simp -implicitDefEqProofs [g1, g3, hlt, hlt', n1, n1', shB]
abbrev OpR := Int × Acc × Int
def oprD (o : OpR) : D := .agg [.int .i64 o.1, accD o.2.1, .int .i64 o.2.2]
def oprs (l : List OpR) : D := .sl (l.map oprD)
@[simp] theorem width_oprD (o : OpR) : width (oprD o) = 5 := rfl
@[simp] theorem isAgg_oprD (o : OpR) : (oprD o).isAgg = true := rfl
def fewO (l : List OpR) : Bool := l.all (fun o => accB o.2.1) && decide (l.length ≤ 20)
def FwI (l : List OpR) (k : Nat) (τ : St) : Prop := τ 0 = .d (oprs l) ∧ τ 3 = .d (.int .i64 k) ∧ (l.take k).all (fun o => accB o.2.1) = true
theorem few_fn (l : List OpR) (hl : l.length ≤ 140737488351232) (hr : ∀ o ∈ l, RchA o.2.1) : Ctr prog 9 [.d (oprs l)] (.d (.bool (fewO l))) := by
  refine fv (fun _ => false) func9 (by kernel_rfl) rfl rfl rfl rfl rfl ?_; obtain ⟨V, hV⟩ : ∃ V, fewO l = V := ⟨_, rfl⟩; rw [hV]; unfold fewO at hV; simp -implicitDefEqProofs [oprs]; refine loopN l.length (FwI l) ⟨by simp [oprs], by simp, by simp⟩ ?_; rintro k τ hk ⟨g0, g3, hI⟩; by_cases hlt : k < l.length
  · have hlt' : (k : Int) < l.length := (by omega); have hts := take_all (f := fun o : OpR => accB o.2.1) hlt; have hbad : accB (l[k]).2.1 = false → V = false := fun h => by rw [← hV, all_false (f := fun o : OpR => accB o.2.1) hlt h]; simp
    have c1 := light_fn (l[k]).2.1 (hr _ (gmm hlt)); have e1 : (l.map oprD)[k]? = some (oprD l[k]) := (by simp [hlt]); generalize hx : l[k] = x at *; obtain ⟨xk, xa, xn⟩ := x; have hA : oprD (xk, xa, xn) = .agg [.int .i64 xk, accD xa, .int .i64 xn] := rfl; simp only at c1 hbad hts; cases hb : accB xa with
    | true =>
      rw [hb] at c1 hts; simp -implicitDefEqProofs [g0, g3, oprs, hlt, hlt', hx, hA]; (repeat refine ai (by first | omega | rfl) ?_); refine callK c1 ?_; simp -implicitDefEqProofs [g0, g3, oprs, hlt, hlt', hx, hA]; refine ⟨by omega, again hlt ⟨by simp [g0, oprs], by simp, by rw [hts, hI]; rfl⟩⟩
    | false =>
      rw [hb] at c1; have hV0 := hbad hb; simp -implicitDefEqProofs [g0, g3, oprs, hlt, hlt', hx, hA]; (repeat refine ai (by first | omega | rfl) ?_); refine callK c1 ?_; simp -implicitDefEqProofs [g0, g3, oprs, hlt, hlt', hx, hA, hV0]
  · have hlt' : ¬ (k : Int) < l.length := (by omega); have : l.take k = l := ttl (by omega); rw [this] at hI; rw [hI, Bool.true_and] at hV; subst hV; by_cases n1 : l.length ≤ 20
    · have n1' : (l.length : Int) ≤ 20 := (by omega); simp -implicitDefEqProofs [g0, g3, oprs, hlt, hlt', n1, n1']
    · have n1' : ¬ (l.length : Int) ≤ 20 := (by omega); simp -implicitDefEqProofs [g0, g3, oprs, hlt, hlt', n1, n1']
def annA : Acc := ([97, 110, 110], true, [([109, 97, 105, 108], [[97]])])
theorem ann_fn : Ctr prog 43 [] (.d (accD annA)) := by
  refine fn_of_vwpN (rv := .cell 0 39) (rs := []) (r := .d (accD annA)) (ys := []) (fun _ => false) (by kernel_rfl) func43 (by kernel_rfl) rfl rfl (by simp) (nbl rfl) (by kernel_rfl) rfl rfl ?_; simp -implicitDefEqProofs; simp [resD, resDs, resO, annA, accD, atts, att, strs]
end Go.Proofs.Tz
namespace Go.Proofs.Tz
open Go.Vw Go.Lib
theorem accB_spec {a : Acc} (h : accB a = true) : List.length a.1 ≤ 300 ∧ a.2.2.length ≤ 10 ∧ ∀ x ∈ a.2.2, List.length x.1 ≤ 300 ∧ x.2.length ≤ 10 ∧ ∀ v ∈ x.2, List.length v ≤ 300 := by
  unfold accB shB at h; simp only [Bool.and_eq_true, decide_eq_true_eq, List.all_eq_true] at h; refine ⟨h.2.1, h.2.2, fun x hx => ?_⟩; have := h.1 x hx; unfold attB shB at this; simp only [Bool.and_eq_true, decide_eq_true_eq, List.all_eq_true] at this; exact ⟨this.1, this.2.1, this.2.2⟩
theorem total_le4 {l : List Att} {n : Nat} (h : ∀ x ∈ l, x.2.length ≤ n) : total l ≤ n * l.length := by
  unfold total
  induction l with
  | nil => simp
  | cons x l ih =>
    have h1 := h x (by simp); have h2 := ih fun y hy => h y (by simp [hy])
    simp only [List.map_cons, List.sum_cons, List.length_cons, Nat.mul_succ]; omega
theorem accB_f {a : Acc} (h : accB a = true) : AccF a := by
  obtain ⟨h1, h2, h3⟩ := accB_spec h; refine ⟨by omega, ⟨⟨by omega, fun x hx => ?_⟩, ?_⟩, fun x hx v hv => ?_⟩
  · have := h3 x hx; omega
  · have := total_le4 (fun x hx => (h3 x hx).2.1); omega
  · have := (h3 x hx).2.2 v hv; omega
theorem accF_own {a : Acc} (h : AccF a) (hw : wordB a.1 = true) : AccB (ownA a) := ⟨hw, sorted_idem _, sorted_fit2 h.fit, sorted_fitV h.fitV⟩
theorem formE_word {a : Acc} (h : formE a = 0) : wordB a.1 = true := by
  unfold formE at h; cases hw : wordB a.1 with
  | true => rfl
  | false => rw [hw] at h; simp at h
theorem accB_nil {i : Str} (h : wordB i = true) : AccB (i, false, []) := ⟨h, rfl, by constructor <;> simp [Fits, total], by simp [FitV]⟩
structure GT (m : Nat) (t : TSt) : Prop where
  ti : TI4 t.1
  len : t.1.length ≤ m
  n : 0 ≤ t.2 ∧ t.2 ≤ m
structure GS (k : Nat) (s : SSt) : Prop where
  si : SI4 s
  len : s.1.length ≤ k
  q : s.2.length ≤ k
theorem GT.zero : GT 0 ([], 0) := ⟨⟨List.Pairwise.nil, by simp⟩, by simp, by simp⟩
theorem GS.zero : GS 0 ([], []) := ⟨⟨List.Pairwise.nil, by simp, by simp, List.nodup_nil, by simp⟩, by simp, by simp⟩
theorem GT.mono {m m' : Nat} {t : TSt} (h : GT m t) (hm : m ≤ m') : GT m' t := ⟨h.ti, Nat.le_trans h.len hm, by have := h.n; omega⟩
theorem GS.mono {k k' : Nat} {s : SSt} (h : GS k s) (hk : k ≤ k') : GS k' s := ⟨h.si, Nat.le_trans h.len hk, Nat.le_trans h.q hk⟩
theorem GT.put {m : Nat} {t : TSt} (h : GT m t) (F : List Int) {a : Acc} (ha : AccF a) : GT (m + 1) (putT F t a).1 := by
  refine ⟨putT_ok h.ti fun hw => accF_own ha hw, ?_, ?_⟩
  · have := putT_len (F := F) h.ti a; have := h.len; omega
  · rw [putT_n]; have := h.n; omega
theorem GT.rem {m : Nat} {t : TSt} (h : GT m t) (F : List Int) (s : Str) : GT (m + 1) (remT F t s).1 := by
  refine ⟨remT_ok h.ti s, ?_, ?_⟩
  · have h2 : (remT F t s).1.1.length ≤ t.1.length := by
      unfold remT; split
      · exact Nat.le_refl _
      · split
        · exact Nat.le_refl _
        · exact delK_le
    have := h.len; omega
  · rw [remT_n]; have := h.n; omega
theorem GT.lst {m : Nat} {t : TSt} (h : GT m t) : GT (m + 1) (t.1, t.2 + 1) := ⟨h.ti, by have := h.len; simp only; omega, by have := h.n; simp only; omega⟩
theorem GS.set {k : Nat} {s : SSt} (h : GS k s) {a : Acc} {due : Int} (ha : AccB a) (hd : 0 ≤ due ∧ due ≤ 1099511627776) : GS (k + 1) (setS s a due).1 := by
  refine ⟨setS_ok h.si ha hd, ?_, ?_⟩
  · unfold setS; split
    · exact Nat.le_succ_of_le h.len
    · exact Nat.le_trans (putK_le h.si.ord) (Nat.succ_le_succ h.len)
  · unfold setS; split
    · exact Nat.le_succ_of_le h.q
    · simp only; split
      · exact Nat.le_succ_of_le h.q
      · have := h.q; simp; omega
theorem GS.want {k : Nat} {s : SSt} (h : GS k s) {a : Acc} (ha : AccF a) : GS (k + 1) (wantS s a).1 := by
  unfold wantS; split
  · exact h.mono (Nat.le_succ _)
  · rename_i hf
    exact h.set (accF_own ha (formE_word (by simpa using hf))) (by omega)
theorem GS.leave {k : Nat} {s : SSt} (h : GS k s) (i : Str) (now : Int) : GS (k + 1) (leaveS s i now).1 := by
  unfold leaveS; split
  · exact h.mono (Nat.le_succ _)
  · rename_i hw
    exact h.set (accB_nil (by simpa using hw)) (addC_b _ _)
theorem stepK_left {F : List Int} {now delay : Int} {t : TSt} {V : List Wsh} {q : List Str} : ∀ k, k ≤ q.length → (stepK F now delay t V q k).left.Sublist (q.take k)
  | 0, _ => by rw [stepK_zero]; simp
  | k + 1, hk => by
    have ih := stepK_left (F := F) (now := now) (delay := delay) (t := t) (V := V) (q := q) k (by omega); rw [stepK_succ (by omega), take_s (by omega)]; generalize stepK F now delay t V q k = r at *; have e1 : (r.left ++ [q[k]]).Sublist (q.take k ++ [q[k]]) := ih.append (List.Sublist.refl _); have e2 : r.left.Sublist (q.take k ++ [q[k]]) := ih.trans (List.sublist_append_left _ _); unfold stepO; split
    · exact e1
    · split
      · exact e1
      · split
        · exact e2
        · exact e1
theorem stepL_left {F : List Int} {now delay : Int} {t : TSt} {V : List Wsh} {q : List Str} : (stepL F now delay t V q).left.Sublist q := by
  have := stepK_left (F := F) (now := now) (delay := delay) (t := t) (V := V) (q := q) q.length (Nat.le_refl _)
  rwa [stepK_all, ttl (Nat.le_refl _)] at this
theorem stepO_len {F : List Int} {now delay : Int} {r : StK} (h : OrdK wK r.V) {id : Str} (hid : hasK wK id r.V = true) : (stepO F now delay r id).V.length = r.V.length := by
  unfold stepO; split
  · rfl
  · rename_i w hw
    split
    · rfl
    · split
      · rfl
      · simp only; rw [putK_len h]; have : hasK wK (wK (w.1, addC now delay)) r.V = true := by
          rw [show wK (w.1, addC now delay) = id from (getK_some hw).2]; exact hid
        rw [this]; simp
theorem stepK_len {F : List Int} {now delay : Int} {t : TSt} {V : List Wsh} {q : List Str} (hs : SI4 (V, q)) (ht : TI4 t.1) : ∀ k, k ≤ q.length → (stepK F now delay t V q k).V.length = V.length
  | 0, _ => by rw [stepK_zero]
  | k + 1, hk => by
    rw [stepK_succ (by omega), stepO_len (stepK_ok hs ht k (by omega)).ord ((stepK_ok hs ht k (by omega)).sub _ (gmm _))]; exact stepK_len hs ht k (by omega)
theorem step_ok {F : List Int} {now delay : Int} {t : TSt} {s : SSt} {k m : Nat} (hs : GS k s) (ht : GT m t) : GS k ((stepL F now delay t s.1 s.2).V, (stepL F now delay t s.1 s.2).left) ∧ GT (m + k) (stepL F now delay t s.1 s.2).t ∧ 0 ≤ (stepL F now delay t s.1 s.2).n ∧ (stepL F now delay t s.1 s.2).n ≤ s.2.length := by
  have hB := stepK_ok (F := F) (now := now) (delay := delay) hs.si ht.ti s.2.length (Nat.le_refl _); have hL := stepK_len (F := F) (now := now) (delay := delay) hs.si ht.ti s.2.length (Nat.le_refl _); rw [stepK_all] at hB hL; have hsub := stepL_left (F := F) (now := now) (delay := delay) (t := t) (V := s.1) (q := s.2); refine ⟨⟨⟨hB.ord, hB.acc, hB.due, hsub.nodup hs.si.nodup, fun id hid => hB.sub id (hsub.subset hid)⟩, by simp only; rw [hL]; exact hs.len, Nat.le_trans hsub.length_le hs.q⟩, ⟨hB.ti, ?_, ?_⟩, hB.n0.1, hB.n0.2⟩
  · have := hB.len; have := ht.len; have := hs.q; omega
  · have := hB.calls; have := ht.n; have := hB.n0; have := hs.q; omega
end Go.Proofs.Tz
namespace Go.Proofs.Tz
open Go.Vw Go.RowKit Go.Proofs Go.Sort
theorem sleftD_fn (p u : Nat) (hd : Value) (dl : Int) (s : SSt) (hq : s.2.length < 1000000) : CtrG prog 37 [.d (.raw (va p))] (sy p u hd dl s) (fun r hs' => r = .d (strs s.2) ∧ hs' = sy p u hd dl s) :=
  (sleft_fn p u hd dl s hq).asData (by rintro r hs' ⟨rfl, rfl⟩; exact ⟨_, _, rfl, rfl, rfl⟩)
theorem taccD_fn (p u1 u2 : Nat) (F : List Int) (t : TSt) (hI : TI4 t.1) (hl : t.1.length < 1000000) : CtrG prog 33 [.d (.raw (va p))] (tg p u1 u2 F t) (fun r hs' => r = .d (accs t.1) ∧ hs' = tg p u1 u2 F t) :=
  (tacc_fn p u1 u2 F t hI hl).asData (by rintro r hs' ⟨rfl, rfl⟩; exact ⟨_, _, rfl, rfl, rfl⟩)
theorem step_fn {k m : Nat} {s : SSt} {t : TSt} (hs : GS k s) (ht : GT m t) (hk : k ≤ 1000) (hm : m ≤ 100000) (p u : Nat) (hd : Value) (dl : Int) (hdl : -9223372036854775808 ≤ dl ∧ dl < 9223372036854775808) (p2 u1 u2 : Nat) (F : List Int) (now : Int) (hnow : -9223372036854775808 ≤ now ∧ now < 9223372036854775808) :
    CtrG prog 28 [.d (.raw (va p)), .d (.raw (va p2)), .d (.int .i64 now)] (sy p u hd dl s ++ tg p2 u1 u2 F t)
      (fun r hs' => r = .d (.int .i64 (stepL F now dl t s.1 s.2).n) ∧ ∃ hd2, hs' = sy p u hd2 dl ((stepL F now dl t s.1 s.2).V, (stepL F now dl t s.1 s.2).left) ++ tg p2 u1 u2 F (stepL F now dl t s.1 s.2).t) := by
  have := hs.q; have := ht.n; exact sstep_fn p u hd dl hdl s.1 s.2 hs.si (by omega) p2 u1 u2 F t (by omega) ht.ti now hnow
section
variable {k m : Nat} {s : SSt} {t : TSt} (hk : k ≤ 1000) (hm : m ≤ 100000) (p u : Nat) (hd : Value) (dl : Int) (p2 u1 u2 : Nat) (F : List Int)
theorem wantG (hs : GS k s) (hk : k ≤ 1000) {a : Acc} (ha : AccF a) : CtrG prog 24 [.d (.raw (va p)), .d (accD a)] (sy p u hd dl s) (fun r hs' => r = .d (.int .i64 (wantS s a).2) ∧ SYP p u dl (wantS s a).1 hs') := by
  have := hs.q; exact swant_fn p u hd dl s hs.si.ord (by omega) a ha
theorem leaveG (hs : GS k s) (hk : k ≤ 1000) {i : Str} (hi : List.length i < 1000000) {now : Int} (hn : -9223372036854775808 ≤ now ∧ now < 9223372036854775808) : CtrG prog 26 [.d (.raw (va p)), .d (.str i), .d (.int .i64 now)] (sy p u hd dl s) (fun r hs' => r = .d (.int .i64 (leaveS s i now).2) ∧ SYP p u dl (leaveS s i now).1 hs') := by
  have := hs.q; exact sleave_fn p u hd dl s hs.si.ord (by omega) i hi now hn
theorem leftG (hs : GS k s) (hk : k ≤ 1000) : CtrG prog 37 [.d (.raw (va p))] (sy p u hd dl s) (fun r hs' => r = .d (strs s.2) ∧ hs' = sy p u hd dl s) := by
  have := hs.q; exact sleftD_fn p u hd dl s (by omega)
theorem checkG (hs : GS k s) (hk : k ≤ 1000) (ht : GT m t) (hm : m ≤ 100000) : CtrG prog 30 [.d (.raw (va p)), .d (.raw (va p2))] (sy p u hd dl s ++ tg p2 u1 u2 F t)
    (fun r hs' => r = .tup [.d (strs (chkS F t s.1).2.1), .d (.int .i64 (chkS F t s.1).2.2)] ∧ hs' = sy p u hd dl s ++ tg p2 u1 u2 F (chkS F t s.1).1) := by
  have := hs.len; have := ht.n; have := ht.len; exact scheck_fn p u hd dl s.1 s.2 hs.si (by omega) p2 u1 u2 F t (by omega) ht.ti (by omega)
theorem disG (ht : GT m t) (hm : m ≤ 100000) (i : Str) : CtrG prog 17 [.d (.raw (va p2)), .d (.str i)] (tg p2 u1 u2 F t) (fun r hs' => r = .d (.int .i64 (disT F t i).2) ∧ hs' = tg p2 u1 u2 F (disT F t i).1) := by
  have := ht.n; exact tdis_fn p2 u1 u2 F t (by omega) ht.ti.ord i
theorem remG (ht : GT m t) (hm : m ≤ 100000) (i : Str) : CtrG prog 19 [.d (.raw (va p2)), .d (.str i)] (tg p2 u1 u2 F t) (fun r hs' => r = .d (.int .i64 (remT F t i).2) ∧ hs' = tg p2 u1 u2 F (remT F t i).1) := by
  have := ht.n; exact trem_fn p2 u1 u2 F t (by omega) i
theorem accG (ht : GT m t) (hm : m ≤ 100000) : CtrG prog 33 [.d (.raw (va p2))] (tg p2 u1 u2 F t) (fun r hs' => r = .d (accs t.1) ∧ hs' = tg p2 u1 u2 F t) := by
  have := ht.len; exact taccD_fn p2 u1 u2 F t ht.ti (by omega)
end
abbrev annS : Str := [97, 110, 110]
abbrev offW : Wsh := ((annS, false, []), 100)
theorem alive_fn : Ctr prog 10 [] (.d (.bool true)) := by
  refine fv (fun i => i == 5000016 || i == 5000018 || i == 5000033 || i == 5000036 || i == 5000038 || i == 5000041 || i == 5000044 || i == 5000046 || i == 5000049 || i == 5000052 || i == 5000054 || i == 5000058 || i == 5000130 || i == 5000135 || i == 5000140 || i == 5000145) func10 (by kernel_rfl) rfl rfl rfl rfl rfl ?_; have hann : AccF annA := accB_f (by decide); have w1 : wantS ([], []) annA = (([(annA, 0)], [annS]), 0) := by kernel_rfl
  have w2 : stepL [0] 5 60 ([], 0) [(annA, 0)] [annS] = ⟨([], 1), [(annA, 65)], [annS], 1⟩ := by kernel_rfl
  have w3 : stepL [0] 64 60 ([], 1) [(annA, 65)] [annS] = ⟨([], 1), [(annA, 65)], [annS], 0⟩ := by kernel_rfl
  have w4 : stepL [0] 65 60 ([], 1) [(annA, 65)] [annS] = ⟨([annA], 2), [(annA, 65)], [], 1⟩ := by kernel_rfl
  have w5 : leaveS ([(annA, 65)], []) annS 100 = (([offW], [annS]), 0) := by kernel_rfl
  have w6 : stepL [0] 99 60 ([annA], 2) [offW] [annS] = ⟨([annA], 2), [offW], [annS], 0⟩ := by kernel_rfl
  have w7 : stepL [0] 100 60 ([annA], 2) [offW] [annS] = ⟨([offA annA], 3), [offW], [], 1⟩ := by kernel_rfl
  have w8 : chkS [0] ([offA annA], 3) [offW] = (([offA annA], 4), ([], 0)) := by kernel_rfl
  have w9 : disT [0] ([offA annA], 4) [120] = (([offA annA], 5), 6) := by kernel_rfl
  have w10 : remT [0] ([offA annA], 5) annS = (([], 6), 0) := by kernel_rfl
  have g1 := (GS.zero.want hann); rw [w1] at g1; have g2 := step_ok (F := [0]) (now := 5) (delay := 60) g1 GT.zero; simp only [w2] at g2; have g4 := step_ok (F := [0]) (now := 65) (delay := 60) g2.1 g2.2.1; simp only [w4] at g4; have g5 := g4.1.leave annS 100; rw [w5] at g5; have g7 := step_ok (F := [0]) (now := 100) (delay := 60) g5 g4.2.1; simp only [w7] at g7; have c0 := newTarget_fn [0] (by simp); simp only [ints, List.map_cons, List.map_nil] at c0; have hwA : accD annA = .agg [.str annS, .bool true, atts annA.2.2] := rfl; simp -implicitDefEqProofs; refine givB [] 1000000 c0 (by simp) rfl (by simp) ?_; rintro r hs' ⟨pt, u1, u2, rfl, rfl⟩; simp -implicitDefEqProofs [takeH, putH, sy, tg, ]; refine givB [] 1000003 (newSync_fn 60) (by simp) rfl (by simp) ?_; rintro r hs' (⟨h, _⟩ | ⟨_, ps, u, rfl, rfl⟩)
  · omega
  simp -implicitDefEqProofs [takeH, putH, sy, tg, ]; refine callK ann_fn ?_; simp -implicitDefEqProofs [takeH, putH, sy, tg, hwA]; have c1 := wantG ps u (.slice none 0 0) 60 GS.zero (by omega) hann; rw [w1, hwA] at c1; refine givB [1000003, 1000004, 1000005] 1000010 c1 (by simp [sy, tg]) rfl (by simp) ?_; rintro r hs' ⟨rfl, h1, rfl⟩; simp -implicitDefEqProofs [takeH, putH, sy, tg, ]; have c2 := step_fn g1 GT.zero (by omega) (by omega) ps u h1 60 (by omega) pt u1 u2 [0] 5 (by omega); rw [w2] at c2; refine givB [1000003, 1000004, 1000005, 1000000, 1000001, 1000002] 1000010 c2 (by simp [sy, tg]) rfl (by simp) ?_; rintro r hs' ⟨rfl, h2, rfl⟩; simp -implicitDefEqProofs [takeH, putH, sy, tg, ]; have c3 := leftG ps u h2 60 g2.1 (by omega); refine givB [1000003, 1000004, 1000005] 1000010 c3 (by simp [sy, tg]) rfl (by simp) ?_; rintro r hs' ⟨rfl, rfl⟩; simp -implicitDefEqProofs [takeH, putH, sy, tg, ]; have c4 := step_fn g2.1 g2.2.1 (by omega) (by omega) ps u h2 60 (by omega) pt u1 u2 [0] 64 (by omega); simp only at c4; rw [w3] at c4; refine givB [1000003, 1000004, 1000005, 1000000, 1000001, 1000002] 1000010 c4 (by simp [sy, tg]) rfl (by simp) ?_; rintro r hs' ⟨rfl, h3, rfl⟩; simp -implicitDefEqProofs [takeH, putH, sy, tg, ]; have c5 := step_fn g2.1 g2.2.1 (by omega) (by omega) ps u h3 60 (by omega) pt u1 u2 [0] 65 (by omega); simp only at c5; rw [w4] at c5; refine givB [1000003, 1000004, 1000005, 1000000, 1000001, 1000002] 1000010 c5 (by simp [sy, tg]) rfl (by simp) ?_; rintro r hs' ⟨rfl, h4, rfl⟩; simp -implicitDefEqProofs [takeH, putH, sy, tg, ]; have c6 := leaveG ps u h4 60 g4.1 (by omega) (i := annS) (by simp) (now := 100) (by omega); rw [w5] at c6; refine givB [1000003, 1000004, 1000005] 1000010 c6 (by simp [sy, tg]) rfl (by simp) ?_; rintro r hs' ⟨rfl, h5, rfl⟩; simp -implicitDefEqProofs [takeH, putH, sy, tg, ]; have c7 := step_fn g5 g4.2.1 (by omega) (by omega) ps u h5 60 (by omega) pt u1 u2 [0] 99 (by omega); simp only at c7; rw [w6] at c7; refine givB [1000003, 1000004, 1000005, 1000000, 1000001, 1000002] 1000010 c7 (by simp [sy, tg]) rfl (by simp) ?_; rintro r hs' ⟨rfl, h6, rfl⟩; simp -implicitDefEqProofs [takeH, putH, sy, tg, ]; have c8 := step_fn g5 g4.2.1 (by omega) (by omega) ps u h6 60 (by omega) pt u1 u2 [0] 100 (by omega); simp only at c8; rw [w7] at c8; refine givB [1000003, 1000004, 1000005, 1000000, 1000001, 1000002] 1000010 c8 (by simp [sy, tg]) rfl (by simp) ?_; rintro r hs' ⟨rfl, h7, rfl⟩; simp -implicitDefEqProofs [takeH, putH, sy, tg, ]; have c9 := accG pt u1 u2 [0] g7.2.1 (by omega); refine givB [1000000, 1000001, 1000002] 1000010 c9 (by simp [sy, tg]) rfl (by simp) ?_; rintro r hs' ⟨rfl, rfl⟩; simp -implicitDefEqProofs [takeH, putH, sy, tg, ]; have c10 := checkG ps u h7 60 pt u1 u2 [0] g7.1 (by omega) g7.2.1 (by omega); simp only at c10; rw [w8] at c10; refine givB [1000003, 1000004, 1000005, 1000000, 1000001, 1000002] 1000010 c10 (by simp [sy, tg]) rfl (by simp) ?_; rintro r hs' ⟨rfl, rfl⟩; simp -implicitDefEqProofs [takeH, putH, sy, tg, ]; have c11 : Ctr prog 32 [.d (strs [annS]), .d (.sl [.str [97, 110, 110]])] (.d (.bool true)) := lists07_fn [annS] [annS] (by simp) (by simp); refine callK c11 ?_; simp -implicitDefEqProofs [takeH, putH, sy, tg, accs, offA, hwA, accD, atts, annA, strs]; have c12 := tcalls_fn pt u1 u2 [0] ([offA annA], 4); refine givB [1000000, 1000001, 1000002] 1000010 c12 (by simp [sy, tg, offA, annA]) rfl (by simp) ?_; rintro r hs' ⟨rfl, rfl⟩; simp -implicitDefEqProofs [takeH, putH, sy, tg, ]; have g8 : GT 10 ([offA annA], 4) := (g7.2.1.lst).mono (by omega); have c13 := disG pt u1 u2 [0] g8 (by omega) [120]; rw [w9] at c13; refine givB [1000000, 1000001, 1000002] 1000010 c13 (by simp [sy, tg]) rfl (by simp) ?_; rintro r hs' ⟨rfl, rfl⟩; simp -implicitDefEqProofs [takeH, putH, sy, tg, ]; have g9 : GT 11 ([offA annA], 5) := g8.lst; have c14 := remG pt u1 u2 [0] g9 (by omega) annS; rw [w10] at c14; refine givB [1000000, 1000001, 1000002] 1000010 c14 (by simp [sy, tg]) rfl (by simp) ?_; rintro r hs' ⟨rfl, rfl⟩; simp -implicitDefEqProofs [takeH, putH, sy, tg, ]; have c15 := leftG ps u h7 60 g7.1 (by omega); refine givB [1000003, 1000004, 1000005] 1000010 c15 (by simp [sy, tg]) rfl (by simp) ?_; rintro r hs' ⟨rfl, rfl⟩; simp -implicitDefEqProofs [takeH, putH, sy, tg, strs]
end Go.Proofs.Tz
namespace Go.Proofs.Tz
open Go.Vw Go.Lib
def ActW (w : Acc) : Prop := w.2.1 = true → formE w = 0
def ActV (V : List Wsh) : Prop := ∀ w ∈ V, ActW w.1
theorem formE_own {a : Acc} (h : formE a = 0) : formE (ownA a) = 0 := by
  unfold formE at h ⊢; cases hw : wordB a.1 with
  | false => rw [hw] at h; simp at h
  | true =>
    rw [hw, if_pos rfl] at h; simp only [ownA, hw, if_true]; exact (check_iff _).2 ((check_iff _).1 h).sorted
theorem ActV.put {V : List Wsh} (h : ActV V) {w : Wsh} (hw : ActW w.1) : ActV (putK wK w V) := fun x hx => by
  rcases mem_putK.1 hx with rfl | ⟨h1, _⟩
  · exact hw
  · exact h x h1
theorem ActV.set {s : SSt} (h : ActV s.1) {a : Acc} {due : Int} (ha : ActW a) : ActV (setS s a due).1.1 := by
  unfold setS; split
  · exact h
  · exact h.put ha
theorem ActV.want {s : SSt} (h : ActV s.1) (a : Acc) : ActV (wantS s a).1.1 := by
  unfold wantS; split
  · exact h
  · rename_i hf
    exact h.set fun _ => formE_own (by omega)
theorem ActV.leave {s : SSt} (h : ActV s.1) (i : Str) (now : Int) : ActV (leaveS s i now).1.1 := by
  unfold leaveS; split
  · exact h
  · exact h.set fun h => by simp at h
def DueQ (now : Int) (V : List Wsh) (q : List Str) : Prop := ∀ id ∈ q, ∃ w, getK wK id V = some w ∧ w.2 ≤ addC now 0
theorem DueQ.put {now : Int} {V : List Wsh} {id : Str} {q : List Str} (hO : OrdK wK V) (hd : DueQ now V (id :: q)) (hn : (id :: q).Nodup) {w : Wsh} (hw : wK w = id) : DueQ now (putK wK w V) q := fun i hi => by
  obtain ⟨x, hx, hx2⟩ := hd i (List.mem_cons_of_mem _ hi); refine ⟨x, ?_, hx2⟩; rw [getK_put hO, if_neg (fun e => (List.nodup_cons.1 hn).1 (by rw [← hw, e]; exact hi)), hx]
end Go.Proofs.Tz
namespace Go.Proofs.Tz
open Go.Vw Go.RowKit Go.Proofs Go.Sort
def Due0 (V : List Wsh) : Prop := ∀ w ∈ V, w.2 = 0
theorem Due0.set {s : SSt} (h : Due0 s.1) (a : Acc) : Due0 (setS s a 0).1.1 := by
  unfold setS; split
  · exact h
  · intro w hw; rcases mem_putK.1 hw with rfl | ⟨h1, _⟩
    · rfl
    · exact h w h1
end Go.Proofs.Tz
namespace Go.Proofs.Tz
open Go.Vw
theorem fits_str {d : D} (h : Sh.Fits .str d) : ∃ s : Str, d = .str s := by
  simp only [Sh.Fits] at h; obtain ⟨s, rfl, _⟩ := h; exact ⟨s, rfl⟩
theorem fits_list {α : Type} {s : Sh} (g : α → D) (hs : ∀ d, Sh.Fits s d → ∃ a, d = g a) {d : D} (h : Sh.Fits (.sl s) d) : ∃ l : List α, d = .sl (l.map g) := by
  simp only [Sh.Fits] at h; obtain ⟨ds, rfl, _, h⟩ := h; have : ∀ ds : List D, (∀ x ∈ ds, Sh.Fits s x) → ∃ l : List α, ds = l.map g := by
    intro ds
    induction ds with
    | nil => intro _; exact ⟨[], rfl⟩
    | cons x ds ih =>
      intro h; obtain ⟨a, rfl⟩ := hs x (h x (by simp)); obtain ⟨l, rfl⟩ := ih fun y hy => h y (by simp [hy])
      exact ⟨a :: l, rfl⟩
  obtain ⟨l, rfl⟩ := this ds h; exact ⟨l, rfl⟩
theorem fits_strs {d : D} (h : Sh.Fits (.sl .str) d) : ∃ l : List Str, d = strs l := fits_list _ (fun _ h => fits_str h) h
theorem fits_att {d : D} (h : Sh.Fits (.agg [.str, .sl .str]) d) : ∃ a : Att, d = att a := by
  simp only [Sh.Fits, Sh.FitsL] at h; obtain ⟨ds, rfl, x, xs, rfl, ⟨s, rfl, _⟩, y, ys, rfl, hy, rfl⟩ := h; obtain ⟨l, rfl⟩ := fits_strs (d := y) (by simp only [Sh.Fits]; exact hy); exact ⟨(s, l), rfl⟩
theorem fits_atts {d : D} (h : Sh.Fits (.sl (.agg [.str, .sl .str])) d) : ∃ l : List Att, d = atts l := fits_list _ (fun _ h => fits_att h) h
end Go.Proofs.Tz
namespace Go.Proofs.Tz
open Go.Vw Go.RowKit Go.Proofs
def OpB : Type := { o : OpR // -9223372036854775808 ≤ o.2.2 ∧ o.2.2 < 9223372036854775808 }
def opbD (o : OpB) : D := oprD o.1
def opbs (l : List OpB) : D := .sl (l.map opbD)
theorem opbs_eq (l : List OpB) : opbs l = oprs (l.map (·.1)) := by unfold opbs oprs; rw [List.map_map]; rfl
theorem wf_i64 {n : Int} (h : (Lit.int .i64 n).wf = true) : -9223372036854775808 ≤ n ∧ n < 9223372036854775808 := by
  simp only [Lit.wf, IntKind.min, IntKind.max, IntKind.signed, IntKind.bits, Bool.and_eq_true, decide_eq_true_eq, if_true] at h; omega
theorem fits_acc {d : D} (h : Sh.Fits (.agg [.str, .bool, .sl (.agg [.str, .sl .str])]) d) : ∃ x : Acc, d = accD x := by
  simp only [Sh.Fits, Sh.FitsL] at h; obtain ⟨ds, rfl, x, xs, rfl, ⟨s, rfl, _⟩, y, ys, rfl, ⟨b, rfl⟩, z, zs, rfl, hz, rfl⟩ := h; obtain ⟨l, rfl⟩ := fits_atts (by simpa only [Sh.Fits, Sh.FitsL] using hz); exact ⟨(s, b, l), rfl⟩
theorem fits_opb {d : D} (h : Sh.Fits (.agg [.int .i64, .agg [.str, .bool, .sl (.agg [.str, .sl .str])], .int .i64]) d) : ∃ x : OpB, d = opbD x := by
  rw [Sh.Fits] at h; obtain ⟨ds, rfl, h⟩ := h; rw [Sh.FitsL] at h; obtain ⟨x, xs, rfl, h1, h⟩ := h; rw [Sh.FitsL] at h; obtain ⟨y, ys, rfl, h2, h⟩ := h; rw [Sh.FitsL] at h; obtain ⟨z, zs, rfl, h3, h⟩ := h; rw [Sh.FitsL] at h; subst h; rw [Sh.Fits] at h1 h3; obtain ⟨n, rfl, hn⟩ := h1; obtain ⟨m, rfl, hm⟩ := h3; obtain ⟨a, rfl⟩ := fits_acc h2; exact ⟨⟨(n, a, m), wf_i64 hm⟩, rfl⟩
theorem fits_opbs {d : D} (h : Sh.Fits (.sl (.agg [.int .i64, .agg [.str, .bool, .sl (.agg [.str, .sl .str])], .int .i64])) d) : ∃ l : List OpB, d = opbs l := fits_list _ (fun _ h => fits_opb h) h
theorem rch_acc {a : Acc} (h : D.lim 140737488351232 (accD a)) : RchA a := by
  simp only [accD, atts, D.lim, D.lims] at h; obtain ⟨_, _, ⟨h1, h2⟩, _⟩ := h; rw [D.lims_mem] at h2; simp only [List.length_map] at h1; refine ⟨h1, fun t ht => ?_⟩; have := h2 _ (List.mem_map.2 ⟨t, ht, rfl⟩); simp only [att, D.lim, D.lims] at this; simpa using this.2.1.1
theorem rch_opb {o : OpB} (h : D.lim 140737488351232 (opbD o)) : RchA o.1.2.1 := by
  simp only [opbD, oprD, D.lim, D.lims] at h; exact rch_acc h.2.1
theorem rch_opbs {l : List OpB} (h : D.lim 140737488351232 (opbs l)) : (l.map (·.1)).length ≤ 140737488351232 ∧ ∀ o ∈ l.map (·.1), RchA o.2.1 := by
  simp only [opbs, D.lim, D.lims_mem, List.length_map] at h; refine ⟨by simpa using h.1, fun o ho => ?_⟩; obtain ⟨x, hx, rfl⟩ := List.mem_map.1 ho; exact rch_opb (h.2 _ (List.mem_map.2 ⟨x, hx, rfl⟩))
end Go.Proofs.Tz