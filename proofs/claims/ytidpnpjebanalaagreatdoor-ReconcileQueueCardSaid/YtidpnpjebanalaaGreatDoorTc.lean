/-
  What the functions that the statements about targets and synchronizations reach compute, part 3 of 3, for data of bounded size (each theorem states its bound).
-/import Derived.Test.YtidpnpjebanalaaGreatDoorTb
import Derived.Test.YtidpnpjebanalaaGreatDoorTa
import Derived.Test.YtidpnpjebanalaaGreatDoorWc
open Go.Proofs.Tryz
set_option linter.unusedSimpArgs false
set_option linter.unusedVariables false
set_option maxRecDepth 100000
set_option maxHeartbeats 8000000
namespace Go.Proofs.Tz
open Go.Vw Go.RowKit Go.Proofs Go.Sort
def fitsB (w : Acc) (a : Acc) (ok : Bool) : Bool := if w.2.1 then ok && (a.2.1 && decide (sortedL a.2.2 = sortedL w.2.2)) else !ok || !a.2.1
theorem fitsB_some (w a : Acc) : fitsB w a true = fitsW w (some a) := by
  unfold fitsB fitsW; cases w.2.1 <;> simp
theorem fitsB_none (w a : Acc) : fitsB w a false = fitsW w none := by
  unfold fitsB fitsW; cases w.2.1 <;> simp
theorem fits_fn (w : Wsh) (a : Acc) (ok : Bool) (hw : Fit2 w.1.2.2) (ha : Fit2 a.2.2) (hw' : Fits (sortedL w.1.2.2)) (ha' : Fits (sortedL a.2.2)) : Ctr prog 63 [.d (wshD w), .d (accD a), .d (.bool ok)] (.d (.bool (fitsB w.1 a ok))) := by
  refine fv (fun _ => false) func63 (by kernel_rfl) rfl rfl rfl rfl rfl ?_; have c1 := equal_fn a.2.2 w.1.2.2 ha hw ha' hw'; unfold fitsB; obtain ⟨⟨wi, wb, wl⟩, wd⟩ := w; obtain ⟨ai, ab, al⟩ := a; have hwD : wshD ((wi, wb, wl), wd) = .agg [.agg [.str wi, .bool wb, atts wl], .int .i64 wd, cloD (wi, wb, wl)] := rfl; have hA : accD (ai, ab, al) = .agg [.str ai, .bool ab, atts al] := rfl; simp only at c1 ⊢; generalize decide (sortedL al = sortedL wl) = q at *; cases wb <;> cases ok <;> cases ab
  all_goals simp -implicitDefEqProofs [hwD, hA]
  refine ⟨rfl, rfl, callK c1 ?_⟩; simp -implicitDefEqProofs
def ck (p u : Nat) (hq : Value) (dl : Int) (V : List Wsh) (uo : Nat) (A : List Acc) : List AV :=
  [.hb (va p) 78 (.agg [.int .i64 dl, .raw (.map (some u)), .raw hq]), .hm (.map (some u)) 9 (mapK wK wshD V) none, .hm (.map (some uo)) 9 (mapK aK accD A) none]
def oddB (A : List Acc) (V : List Wsh) (id : Str) : Bool := match getK wK id V with
  | some w => !fitsW w.1 (getK aK id A)
  | none => false
theorem odd_fn (p u : Nat) (hq : Value) (dl : Int) (V : List Wsh) (uo : Nat) (A : List Acc) (hV : ∀ w ∈ V, AccB w.1) (hA : ∀ a ∈ A, AccB a) (id : Str) (hid : hasK wK id V = true) :
    CtrG prog 62 ([.d (.str id)] ++ [D.ref (.raw (.map (some uo))), D.ref (.raw (va p))].map .d) (ck p u hq dl V uo A) (fun r hs' => r = .d (.bool (oddB A V id)) ∧ hs' = ck p u hq dl V uo A) := by
  refine fn_of_vwpG (fun i => false) (by kernel_rfl) func62 (by kernel_rfl) rfl rfl (nbl rfl) (by kernel_rfl) rfl ?_; have hm1 := mget_K (k := aK) (v := accD) A id; have hm2 := mget_K (k := wK) (v := wshD) V id; rw [hasK_get] at hid; obtain ⟨w, hw⟩ := Option.isSome_iff_exists.1 hid; have hwB := hV w (getK_some hw).1; unfold oddB; rw [hw] at hm2 ⊢; have hN : ∀ {l : List Att}, sortedL l = l → Fit2 l → Fits (sortedL l) := fun h1 h2 => by rw [h1]; exact h2.1
  cases hg : getK aK id A with
  | none =>
    have c1 := fits_fn w ([], false, []) false hwB.fit (by constructor <;> simp [Fits, total]) (hN hwB.normal hwB.fit) (by rw [show sortedL ([] : List Att) = [] from rfl]; simp [Fits]); rw [fitsB_none] at c1; rw [hg] at hm1; obtain ⟨q, hq'⟩ : ∃ q, fitsW w.1 none = q := ⟨_, rfl⟩; rw [hq'] at c1; simp only [hq']; simp -implicitDefEqProofs [initG, takeH, putH, ck, ]; refine lookK (m := mapK aK accD A) (E := none) 1000002 (by omega) map71 (by simp [initG]) (fit_str9 _) Tryz.zd_39 hm1 ?_; simp -implicitDefEqProofs [initG, ]; refine rawFd (e := 78) (ds := [.int .i64 dl, .raw (.map (some u)), .raw hq]) 1000000 (by simp [initG]) (by omega) (by simp) (by kernel_rfl) ?_; simp -implicitDefEqProofs [initG]; refine lookK (m := mapK wK wshD V) (E := none) 1000001 (by omega) map76 (by simp [initG]) (fit_str9 _) Tryz.zd_97 hm2 ?_; simp -implicitDefEqProofs [initG, ]; refine callP c1 ?_; simp -implicitDefEqProofs [initG, ]; exact ⟨.d (.bool !q), [1000000, 1000001, 1000002], by simp, by simp [initG, ck, isH], by simp [ResG], by simp, by simp [initG, ck]⟩
  | some a =>
    have haB := hA a (getK_some hg).1; have c1 := fits_fn w a true hwB.fit haB.fit (hN hwB.normal hwB.fit) (hN haB.normal haB.fit); rw [fitsB_some] at c1; rw [hg] at hm1; obtain ⟨q, hq'⟩ : ∃ q, fitsW w.1 (some a) = q := ⟨_, rfl⟩; rw [hq'] at c1; simp only [hq']; have hAD : accD a = .agg [.str a.1, .bool a.2.1, atts a.2.2] := rfl; simp -implicitDefEqProofs [initG, takeH, putH, ck, ]; refine lookK (m := mapK aK accD A) (E := none) 1000002 (by omega) map71 (by simp [initG]) (fit_str9 _) Tryz.zd_39 hm1 ?_; simp -implicitDefEqProofs [initG, hAD]; refine rawFd (e := 78) (ds := [.int .i64 dl, .raw (.map (some u)), .raw hq]) 1000000 (by simp [initG]) (by omega) (by simp) (by kernel_rfl) ?_; simp -implicitDefEqProofs [initG]; refine lookK (m := mapK wK wshD V) (E := none) 1000001 (by omega) map76 (by simp [initG]) (fit_str9 _) Tryz.zd_97 hm2 ?_; simp -implicitDefEqProofs [initG, hAD]; refine callP c1 ?_; simp -implicitDefEqProofs [initG, ]; exact ⟨.d (.bool !q), [1000000, 1000001, 1000002], by simp, by simp [initG, ck, isH], by simp [ResG], by simp, by simp [initG, ck]⟩
theorem keep_fn (p u : Nat) (hq : Value) (dl : Int) (V : List Wsh) (uo : Nat) (A : List Acc) (hV : ∀ w ∈ V, AccB w.1) (hA : ∀ a ∈ A, AccB a) (id : Str) (hid : hasK wK id V = true) :
    CtrG prog 67 ([.d (.str id)] ++ [D.ref (.clo 62 [.ref (.raw (.map (some uo))), .ref (.raw (va p))])].map .d) (ck p u hq dl V uo A) (fun r hs' => r = .d (.bool (!oddB A V id)) ∧ hs' = ck p u hq dl V uo A) := by
  refine fn_of_vwpG (fun i => i == 5000006) (by kernel_rfl) func67 (by kernel_rfl) rfl rfl (nbl rfl) (by kernel_rfl) rfl ?_; have c1 := odd_fn p u hq dl V uo A hV hA id hid; generalize oddB A V id = q at *; simp -implicitDefEqProofs [initG, takeH, putH, ck, ]; refine givB [1000000, 1000001, 1000002] 1000000 c1 (by simp [initG, ck]) rfl (by simp) ?_; rintro r hs' ⟨rfl, rfl⟩; simp -implicitDefEqProofs [initG, takeH, putH, ck, ]; exact ⟨.d (.bool !q), [1000000, 1000001, 1000002], by simp, by simp [initG, ck, isH], by simp [ResG], by simp, by simp [initG, ck]⟩
section
variable (g : FuncId) (cs : List D) (hcs : (cs.all fun c => !c.isAgg) = true) (P : Str → Bool) (l : List Str) (hl : l.length < 1000000) (p u : Nat) (hq : Value) (dl : Int) (V : List Wsh) (uo : Nat) (A : List Acc)
  (hp : ∀ x ∈ l, CtrG prog g ([.d (.str x)] ++ cs.map .d) (ck p u hq dl V uo A) (fun r hs' => r = .d (.bool (P x)) ∧ hs' = ck p u hq dl V uo A))
def IxI (hd : Value) (g : FuncId) (cs : List D) (P : Str → Bool) (l : List Str) (p u : Nat) (hq : Value) (dl : Int) (V : List Wsh) (uo : Nat) (A : List Acc) (k : Nat) (τ : St) : Prop :=
  τ 0 = .d (.raw hd) ∧ τ 1 = .d (.clo g cs) ∧ τ 7 = .d (.int .i64 l.length) ∧ τ 8 = .d (.int .i64 k) ∧ idxG P 0 l = idxG P k (l.drop k) ∧ τ 1000000 = .hs hd 9 (l.map .str) ∧ [1000001, 1000002, 1000003].map τ = ck p u hq dl V uo A
include hcs hl hp
theorem indexN_fn (hd : Value) : CtrG prog 89 [.d (.raw hd), .d (.clo g cs)] (.hs hd 9 (l.map .str) :: ck p u hq dl V uo A) (fun r hs' => r = .d (.int .i64 (idxG P 0 l)) ∧ hs' = .hs hd 9 (l.map .str) :: ck p u hq dl V uo A) := by
  refine CtrG.inShape (pre := []) (post := ck p u hq dl V uo A) (enters_of func89 (by kernel_rfl) rfl) ?_; rintro HA HC hhd; rw [List.length_map] at hhd
  show CtrG prog 89 _ (.hs hd 9 (l.map .str) :: ck p u hq dl V uo A) _
  refine fn_of_vwpG (fun i => i == 5000016) (by kernel_rfl) func89 (by kernel_rfl) rfl rfl (nbl rfl) (by kernel_rfl) rfl ?_; subst hhd; simp -implicitDefEqProofs [initG, takeH, putH, ck, ]; refine loopN l.length (IxI (.slice HA l.length HC) g cs P l p u hq dl V uo A) ⟨by simp [initG], by simp [initG], by simp [initG], by simp [initG], by simp, by simp [initG], by simp [initG, ck]⟩ ?_; rintro k τ hk ⟨g0, g1, g7, g8, hi, gH, gC⟩; simp only [ck, List.map_cons, List.map_nil, List.cons.injEq, and_true] at gC; obtain ⟨gD, gE, gF⟩ := gC; by_cases hlt : k < l.length
  · have hlt' : (k : Int) < l.length := (by omega); rw [idxG_drop hlt] at hi; have hf := hp _ (gmm hlt); have hqk : (l.map D.str)[k]? = some (.str l[k]) := (by simp [hlt]); generalize hx : l[k] = x at *; simp only [List.cons_append, List.nil_append] at hf; obtain ⟨R, hR⟩ : ∃ R, idxG P 0 l = R := ⟨_, rfl⟩; rw [hR] at hi ⊢; by_cases he : P x = true
    · rw [if_pos he] at hi; rw [he] at hf; simp -implicitDefEqProofs [g0, g1, g7, g8, gH, gD, gE, gF, hlt, hlt']; refine rawIx (e' := 9) (l := l.map .str) 1000000 (by simp [gH]) (by omega) rfl (by simpa using hlt) ?_; simp -implicitDefEqProofs [g0, g1, g7, g8, gH, gD, gE, gF, hlt, hx]; refine ⟨by simpa using hcs, ?_⟩; refine givB [1000001, 1000002, 1000003] 1000010 hf (by simp [gD, gE, gF, ck]) rfl (by simp) ?_; rintro r hs' ⟨rfl, rfl⟩; simp -implicitDefEqProofs [g0, g1, g7, g8, gH, gD, gE, gF, takeH, putH, ck]; exact ⟨.d (.int .i64 R), [1000000, 1000001, 1000002, 1000003], by simp, by simp [gH, gD, gE, gF, isH], by simp [ResG, hi], by simp, by simp [gH, gD, gE, gF, ck]⟩
    · rw [if_neg he] at hi; rw [Bool.not_eq_true] at he; rw [he] at hf; simp -implicitDefEqProofs [g0, g1, g7, g8, gH, gD, gE, gF, hlt, hlt']; refine rawIx (e' := 9) (l := l.map .str) 1000000 (by simp [gH]) (by omega) rfl (by simpa using hlt) ?_; simp -implicitDefEqProofs [g0, g1, g7, g8, gH, gD, gE, gF, hlt, hx]; refine ⟨by simpa using hcs, ?_⟩; refine givB [1000001, 1000002, 1000003] 1000010 hf (by simp [gD, gE, gF, ck]) rfl (by simp) ?_; rintro r hs' ⟨rfl, rfl⟩; simp -implicitDefEqProofs [g0, g1, g7, g8, gH, gD, gE, gF, takeH, putH, ck]; refine ⟨by omega, again hlt ⟨by simp [g0], by simp [g1], by simp [g7], by simp, by rw [hR]; exact hi, by simp [gH], by simp [ck]⟩⟩
  · have hlt' : ¬ (k : Int) < l.length := (by omega); rw [List.drop_eq_nil_of_le (by omega)] at hi; have hm1 : idxG P 0 l = -1 := hi; rw [hm1]; simp -implicitDefEqProofs [g0, g1, g7, g8, gH, gD, gE, gF, hlt, hlt']; exact ⟨.d (.int .i64 (-1)), [1000000, 1000001, 1000002, 1000003], by simp, by simp [gH, gD, gE, gF, isH], by simp [ResG], by simp, by simp [gH, gD, gE, gF, ck]⟩
end
section
variable (g : FuncId) (cs : List D) (hcs : (cs.all fun c => !c.isAgg) = true) (P : Str → Bool) (l : List Str) (hl : l.length < 1000000) (p u : Nat) (hq : Value) (dl : Int) (V : List Wsh) (uo : Nat) (A : List Acc)
  (hp : ∀ x ∈ l, CtrG prog g ([.d (.str x)] ++ cs.map .d) (ck p u hq dl V uo A) (fun r hs' => r = .d (.bool (P x)) ∧ hs' = ck p u hq dl V uo A))
def DlI (hd : Value) (g : FuncId) (cs : List D) (P : Str → Bool) (l : List Str) (p u : Nat) (hq : Value) (dl : Int) (V : List Wsh) (uo : Nat) (A : List Acc) (j : Nat) (τ : St) : Prop :=
  ∃ (q : Nat) (m : List Str), τ 0 = .d (.raw hd) ∧ τ 1 = .d (.clo g cs) ∧ τ 5 = .d (.int .i64 q) ∧ τ 6 = .d (.int .i64 j) ∧ τ 1000000 = .hs hd 9 (m.map .str) ∧ [1000001, 1000002, 1000003].map τ = ck p u hq dl V uo A ∧ m.length = l.length ∧ q < j ∧ m.take q = (l.take j).filter (fun x => !P x) ∧ m.drop j = l.drop j
include hcs hl hp
theorem deleteN_fn (hd : Value) : CtrG prog 64 [.d (.raw hd), .d (.clo g cs)] (.hs hd 9 (l.map .str) :: ck p u hq dl V uo A) (fun r hs' => r = .own true 9 ((l.filter fun x => !P x).map .str) ∧ hs' = ck p u hq dl V uo A) := by
  refine CtrG.inShape (pre := []) (post := ck p u hq dl V uo A) (enters_of func64 (by kernel_rfl) rfl) ?_; rintro HA HC hhd; rw [List.length_map] at hhd
  show CtrG prog 64 _ (.hs hd 9 (l.map .str) :: ck p u hq dl V uo A) _
  refine fn_of_vwpG (fun i => i == 5000010 || i == 22000013 || i == 22000036 || i == 5000028 || i == 4) (by kernel_rfl) func64 (by kernel_rfl) rfl rfl (nbl rfl) (by kernel_rfl) rfl ?_; have c1 := indexN_fn g cs hcs P l hl p u hq dl V uo A hp hd; subst hhd; simp -implicitDefEqProofs [initG, takeH, putH, ck, ]; refine givB [1000000, 1000001, 1000002, 1000003] 1000010 c1 (by simp [initG, ck]) rfl (by simp) ?_; rintro r hs' ⟨rfl, rfl⟩; by_cases hn : idxG P 0 l = -1
  · simp -implicitDefEqProofs [initG, takeH, putH, ck, hn]; refine unK (u := .slice HA l.length HC) (e := 9) (l := l.map .str) 1000000 (by omega) (by simp [initG]) (by simp [initG]) ?_; simp -implicitDefEqProofs [initG, takeH, putH, ck, idxG_neg P l 0 hn]; exact ⟨.own true 9 (l.map .str), [1000001, 1000002, 1000003], by simp, by simp [initG, isH], by simp [ResG], by simp, by simp [initG, ck]⟩
  · obtain ⟨i, h1, h2, h3, h4⟩ := idxG_pos P l 0 hn; simp only [Nat.zero_add] at h1; have e1 : ¬ ((i : Int) = -1) := (by omega); simp -implicitDefEqProofs [initG, takeH, putH, ck, h1, e1]; refine ⟨by omega, ?_⟩; refine loopK (fun n τ => ∃ j, n = l.length - j ∧ j ≤ l.length ∧ DlI (.slice HA l.length HC) g cs P l p u hq dl V uo A j τ) (l.length - (i + 1)) ⟨i + 1, rfl, by omega, i, l, by simp [initG], by simp [initG], by simp, by simp, by simp, by simp [ck], rfl, by omega, h4.symm, rfl⟩ ?_; rintro n τ ⟨j, rfl, hj, q, m, g0, g1, g5, g6, gH, gC, hm, hq', ht, hd'⟩; simp only [ck, List.map_cons, List.map_nil, List.cons.injEq, and_true] at gC; obtain ⟨gD, gE, gF⟩ := gC; by_cases hlt : j < l.length
    · have hmj : m[j]'(by omega) = l[j] := by
        have := congrArg (fun x : List Str => x[0]?) hd'; simpa [hlt, hm] using this
      have hf := hp _ (gmm hlt); simp only [List.cons_append, List.nil_append] at hf; have hlt' : (j : Int) < l.length := (by omega); have hjm : j < m.length := (by omega); by_cases he : P l[j] = true
      · rw [he] at hf; simp -implicitDefEqProofs [g0, g1, g5, g6, gH, gD, gE, gF, hlt', hlt]; refine rawIx (e' := 9) (l := m.map .str) 1000000 (by simp [gH]) (by omega) rfl (by simpa using hjm) ?_; simp -implicitDefEqProofs [g0, g1, g5, g6, gH, gD, gE, gF, hlt', hlt, hjm, hmj]; refine ⟨by simpa using hcs, ?_⟩; refine givB [1000001, 1000002, 1000003] 1000010 hf (by simp [gD, gE, gF, ck]) rfl (by simp) ?_; rintro r hs' ⟨rfl, rfl⟩; simp -implicitDefEqProofs [g0, g1, g5, g6, gH, gD, gE, gF, takeH, putH, ck]; refine ⟨by omega, _, ?_, j + 1, rfl, by omega, q, m, by simp [g0], by simp [g1], by simp [g5], by simp, by simp [gH], by simp [ck], hm, by omega, ?_, ?_⟩
        · omega
        · rw [take_s hlt, List.filter_append, ht]; simp [he]
        · rw [← List.drop_drop, hd', List.drop_drop]
      · have hq2 : q < m.length := (by omega); have hqq : m[q]? = some m[q] := List.getElem?_eq_getElem hq2; have he' : P l[j] = false := (by simpa using he); rw [he'] at hf; simp -implicitDefEqProofs [g0, g1, g5, g6, gH, gD, gE, gF, hlt', hlt]; refine rawIx (e' := 9) (l := m.map .str) 1000000 (by simp [gH]) (by omega) rfl (by simpa using hjm) ?_; simp -implicitDefEqProofs [g0, g1, g5, g6, gH, gD, gE, gF, hlt', hlt, hjm, hmj]; refine ⟨by simpa using hcs, ?_⟩; refine givB [1000001, 1000002, 1000003] 1000010 hf (by simp [gD, gE, gF, ck]) rfl (by simp) ?_; rintro r hs' ⟨rfl, rfl⟩; simp -implicitDefEqProofs [g0, g1, g5, g6, gH, gD, gE, gF, takeH, putH, ck]; refine rawIx (e' := 9) (l := m.map .str) 1000000 (by simp [gH]) (by omega) rfl (by simpa using hq2) ?_; simp -implicitDefEqProofs [g0, g1, g5, g6, gH, gD, gE, gF, hqq]; refine ⟨by omega, by omega, _, ?_, j + 1, rfl, by omega, q + 1, m.set q l[j], by simp [g0], by simp [g1], by simp, by simp, by simp [List.map_set], by simp [ck], by simpa using hm, by omega, ?_, ?_⟩
        · omega
        · rw [List.take_set, take_s hq2, List.set_append_right _ _ (by simp; omega)]; simp only [List.length_take, Nat.min_eq_left (Nat.le_of_lt hq2), Nat.sub_self, List.set_cons_zero]; rw [take_s hlt, List.filter_append, ht]; simp [he]
        · rw [List.drop_set_of_lt (by omega), ← List.drop_drop, hd', List.drop_drop]
    · have hlt' : ¬ (j : Int) < l.length := (by omega); have hjl : j = l.length := (by omega); subst hjl; simp -implicitDefEqProofs [g0, g1, g5, g6, gH, gD, gE, gF, hlt', hlt]; refine unK (u := .slice HA l.length HC) (e := 9) (l := m.map .str) 1000000 (by omega) (by simp [g0]) (by simp [gH]) ?_; simp -implicitDefEqProofs [g0, g1, g5, g6, gH, gD, gE, gF]; refine ⟨by omega, by omega, ?_⟩; have e : List.take q (List.take q (List.map D.str m) ++ List.replicate (m.length - q) (D.str [])) = (l.filter fun x => !P x).map .str := by
        rw [List.take_append_of_le_length (by simp; omega), List.take_take, Nat.min_self, ← List.map_take, ht, List.take_length]
      exact ⟨.own true 9 ((l.filter fun x => !P x).map .str), [1000001, 1000002, 1000003], by simp, by simp [gD, gE, gF, isH], by simp [ResG, e], by simp, by simp [gD, gE, gF, ck]⟩
end
theorem putK_last {α : Type} {k : α → Str} {l : List α} (h : OrdK k l) {j : Nat} (hj : j < l.length) : putK k l[j] (l.take j) = l.take (j + 1) := by
  have hlt : ∀ x ∈ l.take j, k x < k l[j] := fun x hx => by
    obtain ⟨i, hi, rfl⟩ := List.getElem_of_mem hx; simp only [List.length_take] at hi; rw [List.getElem_take]; exact List.pairwise_iff_getElem.1 h i j (by omega) hj (by omega)
  unfold putK lowL highL; rw [take_s hj, List.filter_eq_self.2 (fun x hx => by simpa using hlt x hx), List.filter_eq_nil_iff.2 (fun x hx => by
    simp only [decide_eq_true_eq]; exact fun h2 => s_irr _ (s_trans h2 (hlt x hx)))]
theorem oddS_eq {A : List Acc} {V : List Wsh} (h : OrdK wK V) : (V.map wK).filter (oddB A V) = oddS A V := by
  unfold oddS; rw [List.filter_map]; congr 1
  refine List.filter_congr fun w hw => ?_
  simp only [Function.comp_apply]; unfold oddB; rw [getK_mem h hw]; rfl
def ChI (p u : Nat) (hq : Value) (dl : Int) (V : List Wsh) (q : List Str) (p2 u1 u2 : Nat) (F : List Int) (t : TSt) (uo : Nat) (A : List Acc) (k : Nat) (τ : St) : Prop :=
  τ 1000011 = .undef ∧ τ 1000012 = .undef ∧ τ 2 = .box (.raw (va p)) ∧ τ 29 = .d (.sl (A.map accD)) ∧ τ 30 = .d (.int .i64 A.length) ∧ τ 31 = .d (.int .i64 k) ∧ τ 8 = .box (.raw (.map (some uo))) ∧ [1000000, 1000001, 1000002, 1000003, 1000004, 1000005].map τ = sy p u hq dl (V, q) ++ tg p2 u1 u2 F t ∧ τ 1000010 = .hm (.map (some uo)) 9 (mapK aK accD (A.take k)) none
theorem scheck_fn (p u : Nat) (hq : Value) (dl : Int) (V : List Wsh) (q : List Str) (hs : SI4 (V, q)) (hV : V.length < 100000) (p2 u1 u2 : Nat) (F : List Int) (t : TSt) (hn : 0 ≤ t.2 ∧ t.2 < 1000000) (ht : TI4 t.1) (hl : t.1.length < 1000000) :
    CtrG prog 30 [.d (.raw (va p)), .d (.raw (va p2))] (sy p u hq dl (V, q) ++ tg p2 u1 u2 F t)
      (fun r hs' => r = .tup [.d (strs (chkS F t V).2.1), .d (.int .i64 (chkS F t V).2.2)] ∧ hs' = sy p u hq dl (V, q) ++ tg p2 u1 u2 F (chkS F t V).1) := by
  refine fn_of_vwpGN (rs := [.tmp 4, .tmp 5]) (fun i => i == 5000013 || i == 5000017 || i == 5000022 || i == 5000045 || i == 5000046 || i == 5000048) (by kernel_rfl) func30 (by kernel_rfl) rfl rfl (by simp) (nbl rfl) (by kernel_rfl) rfl ?_; have c1 := sready_fn p u hq dl (V, q); have c2 := tready_fn p2 u1 u2 F t; have c3 := tlist_fn p2 u1 u2 F t hn ht hl; obtain ⟨R, hR⟩ : ∃ R, chkS F t V = R := ⟨_, rfl⟩; rw [hR]; unfold chkS at hR; unfold lstT at c3; obtain ⟨A, n⟩ := t; simp only at hn ht hl hR c3; by_cases h1 : n ∈ F
  · rw [if_pos h1] at hR c3; subst hR; simp -implicitDefEqProofs [initG, takeH, putH, sy, tg]; refine givB [1000000, 1000001, 1000002] 1000013 c1 (by simp [initG, sy]) rfl (by simp) ?_; rintro r hs' ⟨rfl, rfl⟩; simp -implicitDefEqProofs [initG, takeH, putH, sy, tg]; refine givB [1000003, 1000004, 1000005] 1000013 c2 (by simp [initG, tg]) rfl (by simp) ?_; rintro r hs' ⟨rfl, rfl⟩; simp -implicitDefEqProofs [initG, takeH, putH, sy, tg]; refine givB [1000003, 1000004, 1000005] 1000013 c3 (by simp [initG, tg]) rfl (by simp) ?_; rintro r hs' ⟨rfl, rfl⟩; simp -implicitDefEqProofs [initG, takeH, putH, sy, tg]; exact ⟨[.d (strs []), .d (.int .i64 30)], [1000000, 1000001, 1000002, 1000003, 1000004, 1000005], by simp, by simp [initG, sy, tg, isH], by simp [resDs, resD, strs], by simp, by simp [initG, sy, tg]⟩
  · rw [if_neg h1] at hR c3; subst hR; simp -implicitDefEqProofs [initG, takeH, putH, sy, tg]; refine givB [1000000, 1000001, 1000002] 1000013 c1 (by simp [initG, sy]) rfl (by simp) ?_; rintro r hs' ⟨rfl, rfl⟩; simp -implicitDefEqProofs [initG, takeH, putH, sy, tg]; refine givB [1000003, 1000004, 1000005] 1000013 c2 (by simp [initG, tg]) rfl (by simp) ?_; rintro r hs' ⟨rfl, rfl⟩; simp -implicitDefEqProofs [initG, takeH, putH, sy, tg]; refine givB [1000003, 1000004, 1000005] 1000013 c3 (by simp [initG, tg]) rfl (by simp) ?_; rintro r hs' ⟨rfl, rfl⟩; simp -implicitDefEqProofs [initG, takeH, putH, sy, tg]; refine makeK 9 1000010 (by simp [initG]) (fun uo => ?_); simp -implicitDefEqProofs [initG, ]; refine loopN A.length (ChI p u hq dl V q p2 u1 u2 F (A, n + 1) uo A) ⟨by simp [initG], by simp [initG], by simp [initG], by simp [initG], by simp [initG], by simp [initG], by simp [initG], by simp [initG, sy, tg], by simp [initG, mapK]⟩ ?_; rintro k τ hk ⟨gU, gW, g2, g29, g30, g31, g8, gH, gO⟩; simp only [sy, tg, List.map_cons, List.map_nil, List.cons_append, List.nil_append, List.cons.injEq, and_true] at gH; obtain ⟨gA, gB, gC, gD, gE, gF⟩ := gH; by_cases hlt : k < A.length
    · have hlt' : (k : Int) < A.length := (by omega); have hp := mset_K (v := accD) (l := A.take k) (List.Pairwise.sublist (List.take_sublist k A) ht.ord) A[k]; rw [putK_last ht.ord hlt] at hp; have hqk : (A.map accD)[k]? = some (accD A[k]) := (by simp [hlt]); generalize hx : A[k] = x at *; have hA : accD x = .agg [.str x.1, .bool x.2.1, atts x.2.2] := rfl; simp -implicitDefEqProofs [gU, gW, g2, g29, g30, g31, g8, gA, gB, gC, gD, gE, gF, gO, hlt, hlt', hx, hA]; refine updK (E := none) (m := mapK aK accD (A.take k)) 1000010 map71 (by simp [gO]) (fit_str9 _) _ hp ?_; simp -implicitDefEqProofs [gU, gW, g2, g29, g30, g31, g8, gA, gB, gC, gD, gE, gF, gO]; (repeat refine ai (by omega) ?_); exact again hlt ⟨by simp [gU], by simp [gW], by simp [g2], by simp [g29], by simp [g30], by simp, by simp [g8], by simp [gA, gB, gC, gD, gE, gF, sy, tg], by simp⟩
    · have hlt' : ¬ (k : Int) < A.length := (by omega); obtain rfl : k = A.length := by omega
      rw [ttl (by omega)] at gO; simp -implicitDefEqProofs [gU, gW, g2, g29, g30, g31, g8, gA, gB, gC, gD, gE, gF, gO, hlt, hlt']; have hkl : ∀ x ∈ mapK wK wshD V, (keyS x.1).length ≤ maxLen := fun x hx => Nat.le_trans (keyS_K (n := 64) (fun w hw => word_len (hs.acc w hw).word) x hx) (by decide)
      have hks := keysS_K (v := wshD) hs.ord; have hhas : ∀ x ∈ V.map wK, hasK wK x V = true := fun x hx => hasK_iff.2 hx
      have hodd := oddS_eq (A := A) hs.ord; simp -implicitDefEqProofs [gU, gW, g2, g29, g30, g31, g8, gA, gB, gC, gD, gE, gF, gO, hlt, hlt']; refine rawFd (e := 78) (ds := [.int .i64 dl, .raw (.map (some u)), .raw hq]) 1000000 (by simp [gA]) (by omega) (by simp) (by kernel_rfl) ?_; simp -implicitDefEqProofs [gU, gW, gA, gB, gC, gD, gE, gF, gO]; refine givB [] 1000011 (keysW_fn (some u)) (by simp) rfl (by simp) ?_; rintro r hs' ⟨qb, rfl, rfl⟩; simp -implicitDefEqProofs [gU, gW, gA, gB, gC, gD, gE, gF, gO, takeH, putH]; have c4 := sortedW_fn u qb 76 (mapK wK wshD V) none (by rw [mapK_len]; omega) hkl; rw [hks] at c4; have c5 := c4.nameR (Post' := fun r hs' => ∃ A c, r = .d (.raw (.slice A V.length c)) ∧ hs' = [.hs (.slice A V.length c) 9 ((V.map wK).map .str), .hm (.map (some u)) 9 (mapK wK wshD V) none, .hb (va qb) 76 (.raw (.map (some u)))]) (by
        rintro r hs' ⟨rfl, rfl⟩; refine ⟨_, _, rfl, fun A c => ⟨A, c, by simp, by simp⟩⟩)
      refine givB [1000001, 1000011] 1000012 c5 (by simp [gB]) rfl (by simp) ?_; rintro r hs' ⟨SA, SC, rfl, rfl⟩; simp -implicitDefEqProofs [gU, gW, gA, gB, gC, gD, gE, gF, gO, takeH, putH]; have c6 := deleteN_fn 67 [D.ref (.clo 62 [.ref (.raw (.map (some uo))), .ref (.raw (va p))])] (by simp [D.isAgg]) (fun x => !oddB A V x) (V.map wK) (by simp; omega) p u hq dl V uo A (fun x hx => keep_fn p u hq dl V uo A hs.acc ht.acc x (hhas x hx)) (.slice SA V.length SC); have c7 := c6.asData (Post' := fun r hs' => r = .d (strs (oddS A V)) ∧ hs' = ck p u hq dl V uo A) (by
        rintro r hs' ⟨rfl, rfl⟩; refine ⟨_, _, rfl, ?_, rfl⟩; rw [← hodd]; simp [strs])
      refine givB [1000001, 1000000, 1000011, 1000010] 1000020 c7 (by simp [gA, gO, ck]) rfl (by simp) ?_; rintro r hs' ⟨rfl, rfl⟩; simp -implicitDefEqProofs [gU, gW, gA, gB, gC, gD, gE, gF, gO, takeH, putH, ck]; exact ⟨[.d (strs (oddS A V)), .d (.int .i64 0)], [1000001, 1000000, 1000002, 1000003, 1000004, 1000005], by simp, by simp [gA, gB, gC, gD, gE, gF, isH], by simp [resDs, resD], by simp, by simp [gA, gB, gC, gD, gE, gF, sy, tg]⟩
theorem lists07_fn (l m : List Str) (hl : l.length < 1000000) (hm : m.length < 1000000) : Ctr prog 32 [.d (strs l), .d (strs m)] (.d (.bool (decide (l = m)))) := by
  refine fv (fun _ => false) func32 (by kernel_rfl) rfl rfl rfl rfl rfl ?_; by_cases hlm : l.length = m.length
  · simp -implicitDefEqProofs [strs, hlm]; refine loopN m.length (fun k τ => τ 0 = .d (strs l) ∧ τ 1 = .d (strs m) ∧ τ 5 = .d (.int .i64 k) ∧ l.take k = m.take k) (by simp [strs, hlm]) ?_; rintro k τ hk ⟨h0, h1, h5, ht⟩; by_cases hlt : k < m.length
    · have hlt' : k < l.length := (by omega); by_cases he : l[k] = m[k]
      · simp -implicitDefEqProofs [h0, h1, h5, strs, hlm, hlt, hlt', he]; refine ⟨by omega, again hlt ⟨by simp [h0, strs], by simp [h1, strs], by simp, ?_⟩⟩; rw [take_s hlt, take_s hlt', ht, he]
      · simp -implicitDefEqProofs [h0, h1, h5, strs, hlm, hlt, hlt', he]; rintro rfl; exact he rfl
    · rw [ttl (by omega), ttl (by omega)] at ht; simp -implicitDefEqProofs [h0, h1, h5, strs, hlm, hlt, ht]; try omega
  · have hlm' : ¬ (l.length : Int) = m.length := (by omega); simp -implicitDefEqProofs [strs, hlm']; rintro rfl; exact hlm rfl
def accs (l : List Acc) : D := .sl (l.map accD)
def SmI (a b : List Acc) (k : Nat) (τ : St) : Prop := τ 0 = .d (accs a) ∧ τ 1 = .d (accs b) ∧ τ 5 = .d (.int .i64 k) ∧ a.take k = b.take k
theorem same48_fn (a b : List Acc) (ha : ∀ x ∈ a, AccB x) (hb : ∀ x ∈ b, AccB x) (hal : a.length < 1000000) (hbl : b.length < 1000000) : Ctr prog 23 [.d (accs a), .d (accs b)] (.d (.bool (decide (a = b)))) := by
  refine fv (fun _ => false) func23 (by kernel_rfl) rfl rfl rfl rfl rfl ?_; by_cases hlm : a.length = b.length
  · simp -implicitDefEqProofs [accs, hlm]; refine loopN b.length (SmI a b) ⟨by simp [accs, hlm], by simp [accs], by simp, by simp⟩ ?_; rintro k τ hk ⟨h0, h1, h5, ht⟩; by_cases hlt : k < b.length
    · have hlt' : k < a.length := (by omega); have hB1 := ha _ (gmm hlt'); have hB2 := hb _ (gmm hlt); have hN : ∀ {l : List Att}, sortedL l = l → Fit2 l → Fits (sortedL l) := fun h1 h2 => by rw [h1]; exact h2.1
      have c1 := equalR_fn (a[k]).2.2 (b[k]).2.2 hB1.fit hB2.fit (hN hB1.normal hB1.fit) (hN hB2.normal hB2.fit); rw [hB1.normal, hB2.normal] at c1; have hne : a[k] ≠ b[k] → a ≠ b := fun h e => h (by subst e; rfl)
      have ht2 : a[k] = b[k] → a.take (k + 1) = b.take (k + 1) := fun h => by rw [take_s hlt, take_s hlt', ht, h]
      have e1 : (a.map accD)[k]? = some (accD a[k]) := (by simp [hlt']); have e2 : (b.map accD)[k]? = some (accD b[k]) := (by simp [hlt]); generalize hx : a[k] = x at *; generalize hy : b[k] = y at *; obtain ⟨xi, xb, xl⟩ := x; obtain ⟨yi, yb, yl⟩ := y; have hA : ∀ (i : Str) (b : Bool) (l : List Att), accD (i, b, l) = .agg [.str i, .bool b, atts l] := fun _ _ _ => rfl
      simp only at c1; by_cases q1 : xi = yi
      · subst q1; by_cases q2 : xb = yb
        · subst q2; by_cases q3 : xl = yl
          · subst q3; simp only [decide_true] at c1; simp -implicitDefEqProofs [h0, h1, h5, accs, hlm, hlt, hlt', hx, hy, hA]; (repeat refine ai (by first | omega | rfl) ?_); refine callP c1 ?_; simp -implicitDefEqProofs [h0, h1, h5, accs, hlm, hlt, hlt', hx, hy, hA]; refine ⟨by omega, again hlt ⟨by simp [h0, accs], by simp [h1, accs], by simp, ht2 rfl⟩⟩
          · have hab : a ≠ b := hne (fun e => q3 (by simpa using e)); simp only [q3, decide_false] at c1; simp -implicitDefEqProofs [h0, h1, h5, accs, hlm, hlt, hlt', hx, hy, hA]; (repeat refine ai (by first | omega | rfl) ?_); refine callP c1 ?_; simp -implicitDefEqProofs [h0, h1, h5, accs, hlm, hlt, hlt', hx, hy, hA, hab]
        · have hab : a ≠ b := hne (fun e => q2 (by simp at e; exact e.1)); simp -implicitDefEqProofs [h0, h1, h5, accs, hlm, hlt, hlt', hx, hy, hA, hab, q2]
      · have hab : a ≠ b := hne (fun e => q1 (by simp at e; exact e.1)); simp -implicitDefEqProofs [h0, h1, h5, accs, hlm, hlt, hlt', hx, hy, hA, hab, q1]
    · rw [ttl (by omega), ttl (by omega)] at ht; simp -implicitDefEqProofs [h0, h1, h5, accs, hlm, hlt, ht]
  · have hne : a ≠ b := fun e => hlm (by rw [e])
    have hlm' : ¬ (a.length : Int) = b.length := (by omega); simp -implicitDefEqProofs [accs, hlm, hlm', hne]
def shB (s : Str) : Bool := decide (List.length s ≤ 300)
def attB (t : Att) : Bool := shB t.1 && (decide (t.2.length ≤ 10) && t.2.all shB)
def accB (a : Acc) : Bool := a.2.2.all attB && (shB a.1 && decide (a.2.2.length ≤ 10))
def RchA (a : Acc) : Prop := a.2.2.length ≤ 140737488351232 ∧ ∀ t ∈ a.2.2, t.2.length ≤ 140737488351232
theorem all_false {α : Type} {f : α → Bool} {l : List α} {k : Nat} (h : k < l.length) (hx : f l[k] = false) : l.all f = false := by
  rw [List.all_eq_false]; exact ⟨l[k], gmm h, by rw [hx]; simp⟩
theorem take_all {α : Type} {f : α → Bool} {l : List α} {k : Nat} (h : k < l.length) : (l.take (k + 1)).all f = ((l.take k).all f && f l[k]) := by
  rw [take_s h, List.all_append]; simp
def LgA (a : Acc) (k : Nat) (τ : St) : Prop := τ 1 = .box (accD a) ∧ τ 3 = .d (.int .i64 k) ∧ (a.2.2.take k).all attB = true
def LgB (a : Acc) (i : Nat) (V : List Str) (k : Nat) (τ : St) : Prop := τ 1 = .box (accD a) ∧ τ 3 = .d (.int .i64 i) ∧ τ 4 = .d (.int .i64 k) ∧ (V.take k).all shB = true
theorem light_fn (a : Acc) (hr : RchA a) : Ctr prog 41 [.d (accD a)] (.d (.bool (accB a))) := by
  refine fv (fun _ => false) func41 (by kernel_rfl) rfl rfl rfl rfl rfl ?_; obtain ⟨n, b, A⟩ := a; obtain ⟨hr1, hr2⟩ := hr; simp only at hr1 hr2; have hed : accD (n, b, A) = .agg [.str n, .bool b, .sl (A.map att)] := rfl; obtain ⟨V, hV⟩ : ∃ V, accB (n, b, A) = V := ⟨_, rfl⟩; rw [hV, hed]; unfold accB at hV; simp only at hV; simp -implicitDefEqProofs; refine loopN A.length (LgA (n, b, A)) ⟨by simp [hed], by simp, by simp⟩ ?_; rintro k τ hk ⟨g1, g3, hI⟩; rw [hed] at g1; by_cases hlt : k < A.length
  · have hlt' : (k : Int) < A.length := (by omega); have hts := take_all (f := attB) hlt; have hbad : attB A[k] = false → V = false := fun h => by rw [← hV, all_false hlt h]; simp
    have hvl := hr2 _ (gmm hlt); generalize hx : A[k] = y at *; obtain ⟨an, vs⟩ := y; have hta : att (an, vs) = .agg [.str an, .sl (vs.map .str)] := rfl; have haw : ∀ a : Att, width (att a) = 2 := fun _ => rfl
    simp only at hvl; by_cases m1 : List.length an ≤ 300
    case neg =>
      have m1' : (300 : Int) < List.length an := (by omega); have hV0 := hbad (by simp [attB, shB]; omega); simp -implicitDefEqProofs [g1, g3, hlt, hlt', hx, hta, m1', hV0]
    have m1' : ¬ (300 : Int) < List.length an := (by omega); by_cases m2 : vs.length ≤ 10
    case neg =>
      have m2' : (10 : Int) < vs.length := (by omega); have hV0 := hbad (by simp [attB, shB]; omega); simp -implicitDefEqProofs [g1, g3, hlt, hlt', hx, hta, m1', m2', hV0]
    have m2' : ¬ (10 : Int) < vs.length := (by omega); have hat : attB (an, vs) = vs.all shB := (by simp [attB, shB, m1, m2]); rw [hat] at hts hbad; simp -implicitDefEqProofs [g1, g3, hlt, hlt', hx, hta, m1', m2']; (repeat refine ai (by first | omega | rfl) ?_); refine loopN vs.length (LgB (n, b, A) k vs) ⟨by simp [g1, hed], by simp [g3], by simp, by simp⟩ ?_; rintro j τ2 hj ⟨q1, q3, q4, hJ⟩; rw [hed] at q1; by_cases hjt : j < vs.length
    · have hjt' : (j : Int) < vs.length := (by omega); have hts2 := take_all (f := shB) hjt; have hbad2 : shB vs[j] = false → V = false := fun h => hbad (all_false hjt h)
      generalize hy : vs[j] = s at *; by_cases hs : List.length s ≤ 300
      · have hs' : ¬ (300 : Int) < List.length s := (by omega); simp -implicitDefEqProofs [q1, q3, q4, hlt, hlt', hx, hta, hjt, hjt', hy, hs']; (repeat refine ai (by first | omega | rfl) ?_); exact again hjt ⟨by simp [q1, hed], by simp [q3], by simp, by rw [hts2, hJ]; simp [shB, hs]⟩
      · have hs' : (300 : Int) < List.length s := (by omega); have hV0 := hbad2 (by simp [shB]; omega); simp -implicitDefEqProofs [q1, q3, q4, hlt, hlt', hx, hta, hjt, hjt', hy, hs', hV0]
    · have hjt' : ¬ (j : Int) < vs.length := (by omega); have : vs.take j = vs := ttl (by omega); rw [this] at hJ; simp -implicitDefEqProofs [q1, q3, q4, hlt, hlt', hx, hta, hjt, hjt']; (repeat refine ai (by first | omega | rfl) ?_); exact again hlt ⟨by simp [q1, hed], by simp, by rw [hts, hI, hJ]; rfl⟩
  · have hlt' : ¬ (k : Int) < A.length := (by omega); have : A.take k = A := ttl (by omega); rw [this] at hI; rw [hI, Bool.true_and] at hV; subst hV; by_cases n1 : List.length n ≤ 300
    · have n1' : (List.length n : Int) ≤ 300 := (by omega); by_cases n2 : A.length ≤ 10
      · have n2' : (A.length : Int) ≤ 10 := (by omega); simp -implicitDefEqProofs [g1, g3, hlt, hlt', n1, n1', n2, n2', shB]
      · have n2' : ¬ (A.length : Int) ≤ 10 := (by omega); simp -implicitDefEqProofs [g1, g3, hlt, hlt', n1, n1', n2, n2', shB]
    · have n1' : ¬ (List.length n : Int) ≤ 300 := (by omega); simp -implicitDefEqProofs [g1, g3, hlt, hlt', n1, n1', shB]
abbrev OpR := Int × Acc × Int
def oprD (o : OpR) : D := .agg [.int .i64 o.1, accD o.2.1, .int .i64 o.2.2]
def oprs (l : List OpR) : D := .sl (l.map oprD)
@[simp] theorem width_oprD (o : OpR) : width (oprD o) = 5 := rfl
@[simp] theorem isAgg_oprD (o : OpR) : (oprD o).isAgg = true := rfl
def fewO (l : List OpR) : Bool := l.all (fun o => accB o.2.1) && decide (l.length ≤ 20)
def FwI (l : List OpR) (k : Nat) (τ : St) : Prop := τ 0 = .d (oprs l) ∧ τ 3 = .d (.int .i64 k) ∧ (l.take k).all (fun o => accB o.2.1) = true
theorem few_fn (l : List OpR) (hl : l.length ≤ 140737488351232) (hr : ∀ o ∈ l, RchA o.2.1) : Ctr prog 9 [.d (oprs l)] (.d (.bool (fewO l))) := by
  refine fv (fun _ => false) func9 (by kernel_rfl) rfl rfl rfl rfl rfl ?_; obtain ⟨V, hV⟩ : ∃ V, fewO l = V := ⟨_, rfl⟩; rw [hV]; unfold fewO at hV; simp -implicitDefEqProofs [oprs]; refine loopN l.length (FwI l) ⟨by simp [oprs], by simp, by simp⟩ ?_; rintro k τ hk ⟨g0, g3, hI⟩; by_cases hlt : k < l.length
  · have hlt' : (k : Int) < l.length := (by omega); have hts := take_all (f := fun o : OpR => accB o.2.1) hlt; have hbad : accB (l[k]).2.1 = false → V = false := fun h => by rw [← hV, all_false (f := fun o : OpR => accB o.2.1) hlt h]; simp
    have c1 := light_fn (l[k]).2.1 (hr _ (gmm hlt)); have e1 : (l.map oprD)[k]? = some (oprD l[k]) := (by simp [hlt]); generalize hx : l[k] = x at *; obtain ⟨xk, xa, xn⟩ := x; have hA : oprD (xk, xa, xn) = .agg [.int .i64 xk, accD xa, .int .i64 xn] := rfl; simp only at c1 hbad hts; cases hb : accB xa with
    | true =>
      rw [hb] at c1 hts; simp -implicitDefEqProofs [g0, g3, oprs, hlt, hlt', hx, hA]; (repeat refine ai (by first | omega | rfl) ?_); refine callK c1 ?_; simp -implicitDefEqProofs [g0, g3, oprs, hlt, hlt', hx, hA]; refine ⟨by omega, again hlt ⟨by simp [g0, oprs], by simp, by rw [hts, hI]; rfl⟩⟩
    | false =>
      rw [hb] at c1; have hV0 := hbad hb; simp -implicitDefEqProofs [g0, g3, oprs, hlt, hlt', hx, hA]; (repeat refine ai (by first | omega | rfl) ?_); refine callK c1 ?_; simp -implicitDefEqProofs [g0, g3, oprs, hlt, hlt', hx, hA, hV0]
  · have hlt' : ¬ (k : Int) < l.length := (by omega); have : l.take k = l := ttl (by omega); rw [this] at hI; rw [hI, Bool.true_and] at hV; subst hV; by_cases n1 : l.length ≤ 20
    · have n1' : (l.length : Int) ≤ 20 := (by omega); simp -implicitDefEqProofs [g0, g3, oprs, hlt, hlt', n1, n1']
    · have n1' : ¬ (l.length : Int) ≤ 20 := (by omega); simp -implicitDefEqProofs [g0, g3, oprs, hlt, hlt', n1, n1']
def annA : Acc := ([97, 110, 110], true, [([109, 97, 105, 108], [[97]])])
theorem ann_fn : Ctr prog 43 [] (.d (accD annA)) := by
  refine fn_of_vwpN (rv := .cell 0 39) (rs := []) (r := .d (accD annA)) (ys := []) (fun _ => false) (by kernel_rfl) func43 (by kernel_rfl) rfl rfl (by simp) (nbl rfl) (by kernel_rfl) rfl rfl ?_; simp -implicitDefEqProofs; simp [resD, resDs, resO, annA, accD, atts, att, strs]
end Go.Proofs.Tz
namespace Go.Proofs.Tz
open Go.Vw Go.Lib
theorem accB_spec {a : Acc} (h : accB a = true) : List.length a.1 ≤ 300 ∧ a.2.2.length ≤ 10 ∧ ∀ x ∈ a.2.2, List.length x.1 ≤ 300 ∧ x.2.length ≤ 10 ∧ ∀ v ∈ x.2, List.length v ≤ 300 := by
  unfold accB shB at h; simp only [Bool.and_eq_true, decide_eq_true_eq, List.all_eq_true] at h; refine ⟨h.2.1, h.2.2, fun x hx => ?_⟩; have := h.1 x hx; unfold attB shB at this; simp only [Bool.and_eq_true, decide_eq_true_eq, List.all_eq_true] at this; exact ⟨this.1, this.2.1, this.2.2⟩
theorem total_le4 {l : List Att} {n : Nat} (h : ∀ x ∈ l, x.2.length ≤ n) : total l ≤ n * l.length := by
  unfold total
  induction l with
  | nil => simp
  | cons x l ih =>
    have h1 := h x (by simp); have h2 := ih fun y hy => h y (by simp [hy])
    simp only [List.map_cons, List.sum_cons, List.length_cons, Nat.mul_succ]; omega
theorem accB_f {a : Acc} (h : accB a = true) : AccF a := by
  obtain ⟨h1, h2, h3⟩ := accB_spec h; refine ⟨by omega, ⟨⟨by omega, fun x hx => ?_⟩, ?_⟩, fun x hx v hv => ?_⟩
  · have := h3 x hx; omega
  · have := total_le4 (fun x hx => (h3 x hx).2.1); omega
  · have := (h3 x hx).2.2 v hv; omega
theorem accF_own {a : Acc} (h : AccF a) (hw : wordB a.1 = true) : AccB (ownA a) := ⟨hw, sorted_idem _, sorted_fit2 h.fit, sorted_fitV h.fitV⟩
theorem formE_word {a : Acc} (h : formE a = 0) : wordB a.1 = true := by
  unfold formE at h; cases hw : wordB a.1 with
  | true => rfl
  | false => rw [hw] at h; simp at h
theorem accB_nil {i : Str} (h : wordB i = true) : AccB (i, false, []) := ⟨h, rfl, by constructor <;> simp [Fits, total], by simp [FitV]⟩
structure GT (m : Nat) (t : TSt) : Prop where
  ti : TI4 t.1
  len : t.1.length ≤ m
  n : 0 ≤ t.2 ∧ t.2 ≤ m
structure GS (k : Nat) (s : SSt) : Prop where
  si : SI4 s
  len : s.1.length ≤ k
  q : s.2.length ≤ k
theorem GT.zero : GT 0 ([], 0) := ⟨⟨List.Pairwise.nil, by simp⟩, by simp, by simp⟩
theorem GS.zero : GS 0 ([], []) := ⟨⟨List.Pairwise.nil, by simp, by simp, List.nodup_nil, by simp⟩, by simp, by simp⟩
theorem GT.mono {m m' : Nat} {t : TSt} (h : GT m t) (hm : m ≤ m') : GT m' t := ⟨h.ti, Nat.le_trans h.len hm, by have := h.n; omega⟩
theorem GS.mono {k k' : Nat} {s : SSt} (h : GS k s) (hk : k ≤ k') : GS k' s := ⟨h.si, Nat.le_trans h.len hk, Nat.le_trans h.q hk⟩
theorem GT.put {m : Nat} {t : TSt} (h : GT m t) (F : List Int) {a : Acc} (ha : AccF a) : GT (m + 1) (putT F t a).1 := by
  refine ⟨putT_ok h.ti fun hw => accF_own ha hw, ?_, ?_⟩
  · have := putT_len (F := F) h.ti a; have := h.len; omega
  · rw [putT_n]; have := h.n; omega
theorem GT.dis {m : Nat} {t : TSt} (h : GT m t) (F : List Int) (s : Str) : GT (m + 1) (disT F t s).1 := by
  refine ⟨disT_ok h.ti s, ?_, ?_⟩
  · have := disT_len (F := F) h.ti s; have := h.len; omega
  · rw [disT_n]; have := h.n; omega
theorem GT.rem {m : Nat} {t : TSt} (h : GT m t) (F : List Int) (s : Str) : GT (m + 1) (remT F t s).1 := by
  refine ⟨remT_ok h.ti s, ?_, ?_⟩
  · have h2 : (remT F t s).1.1.length ≤ t.1.length := by
      unfold remT; split
      · exact Nat.le_refl _
      · split
        · exact Nat.le_refl _
        · exact delK_le
    have := h.len; omega
  · rw [remT_n]; have := h.n; omega
theorem GT.lst {m : Nat} {t : TSt} (h : GT m t) : GT (m + 1) (t.1, t.2 + 1) := ⟨h.ti, by have := h.len; simp only; omega, by have := h.n; simp only; omega⟩
theorem GS.set {k : Nat} {s : SSt} (h : GS k s) {a : Acc} {due : Int} (ha : AccB a) (hd : 0 ≤ due ∧ due ≤ 1099511627776) : GS (k + 1) (setS s a due).1 := by
  refine ⟨setS_ok h.si ha hd, ?_, ?_⟩
  · unfold setS; split
    · exact Nat.le_succ_of_le h.len
    · exact Nat.le_trans (putK_le h.si.ord) (Nat.succ_le_succ h.len)
  · unfold setS; split
    · exact Nat.le_succ_of_le h.q
    · simp only; split
      · exact Nat.le_succ_of_le h.q
      · have := h.q; simp; omega
theorem GS.want {k : Nat} {s : SSt} (h : GS k s) {a : Acc} (ha : AccF a) : GS (k + 1) (wantS s a).1 := by
  unfold wantS; split
  · exact h.mono (Nat.le_succ _)
  · rename_i hf
    exact h.set (accF_own ha (formE_word (by simpa using hf))) (by omega)
theorem GS.leave {k : Nat} {s : SSt} (h : GS k s) (i : Str) (now : Int) : GS (k + 1) (leaveS s i now).1 := by
  unfold leaveS; split
  · exact h.mono (Nat.le_succ _)
  · rename_i hw
    exact h.set (accB_nil (by simpa using hw)) (addC_b _ _)
theorem stepK_left {F : List Int} {now delay : Int} {t : TSt} {V : List Wsh} {q : List Str} : ∀ k, k ≤ q.length → (stepK F now delay t V q k).left.Sublist (q.take k)
  | 0, _ => by rw [stepK_zero]; simp
  | k + 1, hk => by
    have ih := stepK_left (F := F) (now := now) (delay := delay) (t := t) (V := V) (q := q) k (by omega); rw [stepK_succ (by omega), take_s (by omega)]; generalize stepK F now delay t V q k = r at *; have e1 : (r.left ++ [q[k]]).Sublist (q.take k ++ [q[k]]) := ih.append (List.Sublist.refl _); have e2 : r.left.Sublist (q.take k ++ [q[k]]) := ih.trans (List.sublist_append_left _ _); unfold stepO; split
    · exact e1
    · split
      · exact e1
      · split
        · exact e2
        · exact e1
theorem stepL_left {F : List Int} {now delay : Int} {t : TSt} {V : List Wsh} {q : List Str} : (stepL F now delay t V q).left.Sublist q := by
  have := stepK_left (F := F) (now := now) (delay := delay) (t := t) (V := V) (q := q) q.length (Nat.le_refl _)
  rwa [stepK_all, ttl (Nat.le_refl _)] at this
theorem stepO_len {F : List Int} {now delay : Int} {r : StK} (h : OrdK wK r.V) {id : Str} (hid : hasK wK id r.V = true) : (stepO F now delay r id).V.length = r.V.length := by
  unfold stepO; split
  · rfl
  · rename_i w hw
    split
    · rfl
    · split
      · rfl
      · simp only; rw [putK_len h]; have : hasK wK (wK (w.1, addC now delay)) r.V = true := by
          rw [show wK (w.1, addC now delay) = id from (getK_some hw).2]; exact hid
        rw [this]; simp
theorem stepK_len {F : List Int} {now delay : Int} {t : TSt} {V : List Wsh} {q : List Str} (hs : SI4 (V, q)) (ht : TI4 t.1) : ∀ k, k ≤ q.length → (stepK F now delay t V q k).V.length = V.length
  | 0, _ => by rw [stepK_zero]
  | k + 1, hk => by
    rw [stepK_succ (by omega), stepO_len (stepK_ok hs ht k (by omega)).ord ((stepK_ok hs ht k (by omega)).sub _ (gmm _))]; exact stepK_len hs ht k (by omega)
theorem step_ok {F : List Int} {now delay : Int} {t : TSt} {s : SSt} {k m : Nat} (hs : GS k s) (ht : GT m t) : GS k ((stepL F now delay t s.1 s.2).V, (stepL F now delay t s.1 s.2).left) ∧ GT (m + k) (stepL F now delay t s.1 s.2).t ∧ 0 ≤ (stepL F now delay t s.1 s.2).n ∧ (stepL F now delay t s.1 s.2).n ≤ s.2.length := by
  have hB := stepK_ok (F := F) (now := now) (delay := delay) hs.si ht.ti s.2.length (Nat.le_refl _); have hL := stepK_len (F := F) (now := now) (delay := delay) hs.si ht.ti s.2.length (Nat.le_refl _); rw [stepK_all] at hB hL; have hsub := stepL_left (F := F) (now := now) (delay := delay) (t := t) (V := s.1) (q := s.2); refine ⟨⟨⟨hB.ord, hB.acc, hB.due, hsub.nodup hs.si.nodup, fun id hid => hB.sub id (hsub.subset hid)⟩, by simp only; rw [hL]; exact hs.len, Nat.le_trans hsub.length_le hs.q⟩, ⟨hB.ti, ?_, ?_⟩, hB.n0.1, hB.n0.2⟩
  · have := hB.len; have := ht.len; have := hs.q; omega
  · have := hB.calls; have := ht.n; have := hB.n0; have := hs.q; omega
end Go.Proofs.Tz
namespace Go.Proofs.Tz
open Go.Vw Go.RowKit Go.Proofs Go.Sort
theorem sleftD_fn (p u : Nat) (hd : Value) (dl : Int) (s : SSt) (hq : s.2.length < 1000000) : CtrG prog 37 [.d (.raw (va p))] (sy p u hd dl s) (fun r hs' => r = .d (strs s.2) ∧ hs' = sy p u hd dl s) :=
  (sleft_fn p u hd dl s hq).asData (by rintro r hs' ⟨rfl, rfl⟩; exact ⟨_, _, rfl, rfl, rfl⟩)
theorem taccD_fn (p u1 u2 : Nat) (F : List Int) (t : TSt) (hI : TI4 t.1) (hl : t.1.length < 1000000) : CtrG prog 33 [.d (.raw (va p))] (tg p u1 u2 F t) (fun r hs' => r = .d (accs t.1) ∧ hs' = tg p u1 u2 F t) :=
  (tacc_fn p u1 u2 F t hI hl).asData (by rintro r hs' ⟨rfl, rfl⟩; exact ⟨_, _, rfl, rfl, rfl⟩)
theorem step_fn {k m : Nat} {s : SSt} {t : TSt} (hs : GS k s) (ht : GT m t) (hk : k ≤ 1000) (hm : m ≤ 100000) (p u : Nat) (hd : Value) (dl : Int) (hdl : -9223372036854775808 ≤ dl ∧ dl < 9223372036854775808) (p2 u1 u2 : Nat) (F : List Int) (now : Int) (hnow : -9223372036854775808 ≤ now ∧ now < 9223372036854775808) :
    CtrG prog 28 [.d (.raw (va p)), .d (.raw (va p2)), .d (.int .i64 now)] (sy p u hd dl s ++ tg p2 u1 u2 F t)
      (fun r hs' => r = .d (.int .i64 (stepL F now dl t s.1 s.2).n) ∧ ∃ hd2, hs' = sy p u hd2 dl ((stepL F now dl t s.1 s.2).V, (stepL F now dl t s.1 s.2).left) ++ tg p2 u1 u2 F (stepL F now dl t s.1 s.2).t) := by
  have := hs.q; have := ht.n; exact sstep_fn p u hd dl hdl s.1 s.2 hs.si (by omega) p2 u1 u2 F t (by omega) ht.ti now hnow
section
variable {k m : Nat} {s : SSt} {t : TSt} (hk : k ≤ 1000) (hm : m ≤ 100000) (p u : Nat) (hd : Value) (dl : Int) (p2 u1 u2 : Nat) (F : List Int)
theorem wantG (hs : GS k s) (hk : k ≤ 1000) {a : Acc} (ha : AccF a) : CtrG prog 24 [.d (.raw (va p)), .d (accD a)] (sy p u hd dl s) (fun r hs' => r = .d (.int .i64 (wantS s a).2) ∧ SYP p u dl (wantS s a).1 hs') := by
  have := hs.q; exact swant_fn p u hd dl s hs.si.ord (by omega) a ha
theorem leaveG (hs : GS k s) (hk : k ≤ 1000) {i : Str} (hi : List.length i < 1000000) {now : Int} (hn : -9223372036854775808 ≤ now ∧ now < 9223372036854775808) : CtrG prog 26 [.d (.raw (va p)), .d (.str i), .d (.int .i64 now)] (sy p u hd dl s) (fun r hs' => r = .d (.int .i64 (leaveS s i now).2) ∧ SYP p u dl (leaveS s i now).1 hs') := by
  have := hs.q; exact sleave_fn p u hd dl s hs.si.ord (by omega) i hi now hn
theorem leftG (hs : GS k s) (hk : k ≤ 1000) : CtrG prog 37 [.d (.raw (va p))] (sy p u hd dl s) (fun r hs' => r = .d (strs s.2) ∧ hs' = sy p u hd dl s) := by
  have := hs.q; exact sleftD_fn p u hd dl s (by omega)
theorem checkG (hs : GS k s) (hk : k ≤ 1000) (ht : GT m t) (hm : m ≤ 100000) : CtrG prog 30 [.d (.raw (va p)), .d (.raw (va p2))] (sy p u hd dl s ++ tg p2 u1 u2 F t)
    (fun r hs' => r = .tup [.d (strs (chkS F t s.1).2.1), .d (.int .i64 (chkS F t s.1).2.2)] ∧ hs' = sy p u hd dl s ++ tg p2 u1 u2 F (chkS F t s.1).1) := by
  have := hs.len; have := ht.n; have := ht.len; exact scheck_fn p u hd dl s.1 s.2 hs.si (by omega) p2 u1 u2 F t (by omega) ht.ti (by omega)
theorem putG (ht : GT m t) (hm : m ≤ 100000) {a : Acc} (ha : AccF a) : CtrG prog 15 [.d (.raw (va p2)), .d (accD a)] (tg p2 u1 u2 F t) (fun r hs' => r = .d (.int .i64 (putT F t a).2) ∧ hs' = tg p2 u1 u2 F (putT F t a).1) := by
  have := ht.n; exact tput_fn p2 u1 u2 F t (by omega) ht.ti.ord a ha
theorem disG (ht : GT m t) (hm : m ≤ 100000) (i : Str) : CtrG prog 17 [.d (.raw (va p2)), .d (.str i)] (tg p2 u1 u2 F t) (fun r hs' => r = .d (.int .i64 (disT F t i).2) ∧ hs' = tg p2 u1 u2 F (disT F t i).1) := by
  have := ht.n; exact tdis_fn p2 u1 u2 F t (by omega) ht.ti.ord i
theorem remG (ht : GT m t) (hm : m ≤ 100000) (i : Str) : CtrG prog 19 [.d (.raw (va p2)), .d (.str i)] (tg p2 u1 u2 F t) (fun r hs' => r = .d (.int .i64 (remT F t i).2) ∧ hs' = tg p2 u1 u2 F (remT F t i).1) := by
  have := ht.n; exact trem_fn p2 u1 u2 F t (by omega) i
theorem listG (ht : GT m t) (hm : m ≤ 100000) : CtrG prog 21 [.d (.raw (va p2))] (tg p2 u1 u2 F t) (fun r hs' => r = .tup [.d (accs (lstT F t).2.1), .d (.int .i64 (lstT F t).2.2)] ∧ hs' = tg p2 u1 u2 F (lstT F t).1) := by
  have := ht.n; have := ht.len; exact tlist_fn p2 u1 u2 F t (by omega) ht.ti (by omega)
theorem accG (ht : GT m t) (hm : m ≤ 100000) : CtrG prog 33 [.d (.raw (va p2))] (tg p2 u1 u2 F t) (fun r hs' => r = .d (accs t.1) ∧ hs' = tg p2 u1 u2 F t) := by
  have := ht.len; exact taccD_fn p2 u1 u2 F t ht.ti (by omega)
end
abbrev annS : Str := [97, 110, 110]
abbrev offW : Wsh := ((annS, false, []), 100)
theorem alive_fn : Ctr prog 10 [] (.d (.bool true)) := by
  refine fv (fun i => i == 5000016 || i == 5000018 || i == 5000033 || i == 5000036 || i == 5000038 || i == 5000041 || i == 5000044 || i == 5000046 || i == 5000049 || i == 5000052 || i == 5000054 || i == 5000058 || i == 5000130 || i == 5000135 || i == 5000140 || i == 5000145) func10 (by kernel_rfl) rfl rfl rfl rfl rfl ?_; have hann : AccF annA := accB_f (by decide); have w1 : wantS ([], []) annA = (([(annA, 0)], [annS]), 0) := by kernel_rfl
  have w2 : stepL [0] 5 60 ([], 0) [(annA, 0)] [annS] = ⟨([], 1), [(annA, 65)], [annS], 1⟩ := by kernel_rfl
  have w3 : stepL [0] 64 60 ([], 1) [(annA, 65)] [annS] = ⟨([], 1), [(annA, 65)], [annS], 0⟩ := by kernel_rfl
  have w4 : stepL [0] 65 60 ([], 1) [(annA, 65)] [annS] = ⟨([annA], 2), [(annA, 65)], [], 1⟩ := by kernel_rfl
  have w5 : leaveS ([(annA, 65)], []) annS 100 = (([offW], [annS]), 0) := by kernel_rfl
  have w6 : stepL [0] 99 60 ([annA], 2) [offW] [annS] = ⟨([annA], 2), [offW], [annS], 0⟩ := by kernel_rfl
  have w7 : stepL [0] 100 60 ([annA], 2) [offW] [annS] = ⟨([offA annA], 3), [offW], [], 1⟩ := by kernel_rfl
  have w8 : chkS [0] ([offA annA], 3) [offW] = (([offA annA], 4), ([], 0)) := by kernel_rfl
  have w9 : disT [0] ([offA annA], 4) [120] = (([offA annA], 5), 6) := by kernel_rfl
  have w10 : remT [0] ([offA annA], 5) annS = (([], 6), 0) := by kernel_rfl
  have g1 := (GS.zero.want hann); rw [w1] at g1; have g2 := step_ok (F := [0]) (now := 5) (delay := 60) g1 GT.zero; simp only [w2] at g2; have g4 := step_ok (F := [0]) (now := 65) (delay := 60) g2.1 g2.2.1; simp only [w4] at g4; have g5 := g4.1.leave annS 100; rw [w5] at g5; have g7 := step_ok (F := [0]) (now := 100) (delay := 60) g5 g4.2.1; simp only [w7] at g7; have c0 := newTarget_fn [0] (by simp); simp only [ints, List.map_cons, List.map_nil] at c0; have hwA : accD annA = .agg [.str annS, .bool true, atts annA.2.2] := rfl; simp -implicitDefEqProofs; refine givB [] 1000000 c0 (by simp) rfl (by simp) ?_; rintro r hs' ⟨pt, u1, u2, rfl, rfl⟩; simp -implicitDefEqProofs [takeH, putH, sy, tg, ]; refine givB [] 1000003 (newSync_fn 60) (by simp) rfl (by simp) ?_; rintro r hs' (⟨h, _⟩ | ⟨_, ps, u, rfl, rfl⟩)
  · omega
  simp -implicitDefEqProofs [takeH, putH, sy, tg, ]; refine callK ann_fn ?_; simp -implicitDefEqProofs [takeH, putH, sy, tg, hwA]; have c1 := wantG ps u (.slice none 0 0) 60 GS.zero (by omega) hann; rw [w1, hwA] at c1; refine givB [1000003, 1000004, 1000005] 1000010 c1 (by simp [sy, tg]) rfl (by simp) ?_; rintro r hs' ⟨rfl, h1, rfl⟩; simp -implicitDefEqProofs [takeH, putH, sy, tg, ]; have c2 := step_fn g1 GT.zero (by omega) (by omega) ps u h1 60 (by omega) pt u1 u2 [0] 5 (by omega); rw [w2] at c2; refine givB [1000003, 1000004, 1000005, 1000000, 1000001, 1000002] 1000010 c2 (by simp [sy, tg]) rfl (by simp) ?_; rintro r hs' ⟨rfl, h2, rfl⟩; simp -implicitDefEqProofs [takeH, putH, sy, tg, ]; have c3 := leftG ps u h2 60 g2.1 (by omega); refine givB [1000003, 1000004, 1000005] 1000010 c3 (by simp [sy, tg]) rfl (by simp) ?_; rintro r hs' ⟨rfl, rfl⟩; simp -implicitDefEqProofs [takeH, putH, sy, tg, ]; have c4 := step_fn g2.1 g2.2.1 (by omega) (by omega) ps u h2 60 (by omega) pt u1 u2 [0] 64 (by omega); simp only at c4; rw [w3] at c4; refine givB [1000003, 1000004, 1000005, 1000000, 1000001, 1000002] 1000010 c4 (by simp [sy, tg]) rfl (by simp) ?_; rintro r hs' ⟨rfl, h3, rfl⟩; simp -implicitDefEqProofs [takeH, putH, sy, tg, ]; have c5 := step_fn g2.1 g2.2.1 (by omega) (by omega) ps u h3 60 (by omega) pt u1 u2 [0] 65 (by omega); simp only at c5; rw [w4] at c5; refine givB [1000003, 1000004, 1000005, 1000000, 1000001, 1000002] 1000010 c5 (by simp [sy, tg]) rfl (by simp) ?_; rintro r hs' ⟨rfl, h4, rfl⟩; simp -implicitDefEqProofs [takeH, putH, sy, tg, ]; have c6 := leaveG ps u h4 60 g4.1 (by omega) (i := annS) (by simp) (now := 100) (by omega); rw [w5] at c6; refine givB [1000003, 1000004, 1000005] 1000010 c6 (by simp [sy, tg]) rfl (by simp) ?_; rintro r hs' ⟨rfl, h5, rfl⟩; simp -implicitDefEqProofs [takeH, putH, sy, tg, ]; have c7 := step_fn g5 g4.2.1 (by omega) (by omega) ps u h5 60 (by omega) pt u1 u2 [0] 99 (by omega); simp only at c7; rw [w6] at c7; refine givB [1000003, 1000004, 1000005, 1000000, 1000001, 1000002] 1000010 c7 (by simp [sy, tg]) rfl (by simp) ?_; rintro r hs' ⟨rfl, h6, rfl⟩; simp -implicitDefEqProofs [takeH, putH, sy, tg, ]; have c8 := step_fn g5 g4.2.1 (by omega) (by omega) ps u h6 60 (by omega) pt u1 u2 [0] 100 (by omega); simp only at c8; rw [w7] at c8; refine givB [1000003, 1000004, 1000005, 1000000, 1000001, 1000002] 1000010 c8 (by simp [sy, tg]) rfl (by simp) ?_; rintro r hs' ⟨rfl, h7, rfl⟩; simp -implicitDefEqProofs [takeH, putH, sy, tg, ]; have c9 := accG pt u1 u2 [0] g7.2.1 (by omega); refine givB [1000000, 1000001, 1000002] 1000010 c9 (by simp [sy, tg]) rfl (by simp) ?_; rintro r hs' ⟨rfl, rfl⟩; simp -implicitDefEqProofs [takeH, putH, sy, tg, ]; have c10 := checkG ps u h7 60 pt u1 u2 [0] g7.1 (by omega) g7.2.1 (by omega); simp only at c10; rw [w8] at c10; refine givB [1000003, 1000004, 1000005, 1000000, 1000001, 1000002] 1000010 c10 (by simp [sy, tg]) rfl (by simp) ?_; rintro r hs' ⟨rfl, rfl⟩; simp -implicitDefEqProofs [takeH, putH, sy, tg, ]; have c11 : Ctr prog 32 [.d (strs [annS]), .d (.sl [.str [97, 110, 110]])] (.d (.bool true)) := lists07_fn [annS] [annS] (by simp) (by simp); refine callK c11 ?_; simp -implicitDefEqProofs [takeH, putH, sy, tg, accs, offA, hwA, accD, atts, annA, strs]; have c12 := tcalls_fn pt u1 u2 [0] ([offA annA], 4); refine givB [1000000, 1000001, 1000002] 1000010 c12 (by simp [sy, tg, offA, annA]) rfl (by simp) ?_; rintro r hs' ⟨rfl, rfl⟩; simp -implicitDefEqProofs [takeH, putH, sy, tg, ]; have g8 : GT 10 ([offA annA], 4) := (g7.2.1.lst).mono (by omega); have c13 := disG pt u1 u2 [0] g8 (by omega) [120]; rw [w9] at c13; refine givB [1000000, 1000001, 1000002] 1000010 c13 (by simp [sy, tg]) rfl (by simp) ?_; rintro r hs' ⟨rfl, rfl⟩; simp -implicitDefEqProofs [takeH, putH, sy, tg, ]; have g9 : GT 11 ([offA annA], 5) := g8.lst; have c14 := remG pt u1 u2 [0] g9 (by omega) annS; rw [w10] at c14; refine givB [1000000, 1000001, 1000002] 1000010 c14 (by simp [sy, tg]) rfl (by simp) ?_; rintro r hs' ⟨rfl, rfl⟩; simp -implicitDefEqProofs [takeH, putH, sy, tg, ]; have c15 := leftG ps u h7 60 g7.1 (by omega); refine givB [1000003, 1000004, 1000005] 1000010 c15 (by simp [sy, tg]) rfl (by simp) ?_; rintro r hs' ⟨rfl, rfl⟩; simp -implicitDefEqProofs [takeH, putH, sy, tg, strs]
def opT (F : List Int) (t : TSt) (o : OpR) : TSt × Int :=
  if o.1 = 0 then putT F t o.2.1 else if o.1 = 1 then disT F t o.2.1.1 else if o.1 = 2 then remT F t o.2.1.1 else ((lstT F t).1, (lstT F t).2.2)
def cntT (F : List Int) (l : List OpR) (k : Nat) : TSt := (l.take k).foldl (fun t o => (opT F t o).1) ([], 0)
theorem cntT_succ {F : List Int} {l : List OpR} {k : Nat} (h : k < l.length) : cntT F l (k + 1) = (opT F (cntT F l k) l[k]).1 := by
  unfold cntT; rw [take_s h, List.foldl_append]; rfl
theorem opT_n (F : List Int) (t : TSt) (o : OpR) : (opT F t o).1.2 = t.2 + 1 := by
  unfold opT; split
  · exact putT_n F t _
  · split
    · exact disT_n F t _
    · split
      · exact remT_n F t _
      · rw [lstT_n]
theorem cntT_n (F : List Int) (l : List OpR) : ∀ k, k ≤ l.length → (cntT F l k).2 = k
  | 0, _ => rfl
  | k + 1, h => by rw [cntT_succ h, opT_n, cntT_n F l k (by omega)]; omega
theorem opT_ok {m : Nat} {t : TSt} (h : GT m t) (F : List Int) {o : OpR} (ha : AccF o.2.1) : GT (m + 1) (opT F t o).1 := by
  unfold opT; split
  · exact h.put F ha
  · split
    · exact h.dis F _
    · split
      · exact h.rem F _
      · rw [lstT_n]; exact h.lst
theorem cntT_ok {F : List Int} {l : List OpR} (ha : ∀ o ∈ l, AccF o.2.1) : ∀ k, k ≤ l.length → GT k (cntT F l k)
  | 0, _ => GT.zero
  | k + 1, h => by rw [cntT_succ h]; exact opT_ok (cntT_ok ha k (by omega)) F (ha _ (gmm _))
theorem chkV_30 : ∀ (l b : List Str), chkV [] b l ≠ 30
  | [], b => by simp [chkV]
  | v :: l, b => by
    rw [chkV]; split
    · omega
    · split
      · omega
      · exact chkV_30 l _
theorem chkA_30 : ∀ (l b : List Att), chkA b l ≠ 30
  | [], b => by simp [chkA]
  | a :: l, b => by
    have h1 := chkV_30 a.2 []; have h2 := chkA_30 l (b ++ [a]); rw [chkA]; (repeat' split) <;> first | omega | assumption
theorem formE_30 (a : Acc) : formE a ≠ 30 := by
  unfold formE checkL; have := chkA_30 a.2.2 []
  (repeat' split) <;> first | omega | assumption
theorem opT_30 (F : List Int) (t : TSt) (o : OpR) : (opT F t o).2 = 30 ↔ t.2 ∈ F := by
  have h3 := formE_30 o.2.1; unfold opT putT disT remT lstT; by_cases h : t.2 ∈ F
  · simp only [if_pos h, h, iff_true]
    (repeat' split) <;> first | rfl | (exfalso; simp_all; done)
  · simp only [if_neg h, h, iff_false]
    (repeat' split) <;> first | contradiction | omega | (simp; done) | (simp only; omega) | assumption
theorem opT_same (F : List Int) (t : TSt) (o : OpR) (h : (opT F t o).2 ≠ 0) : (opT F t o).1.1 = t.1 := by
  revert h
  unfold opT putT disT remT lstT
  (repeat' split) <;> first | (intro _; rfl) | (intro h; exact absurd rfl h)
theorem any_take {F : List Int} {i : Int} {k : Nat} (h : k < F.length) : (F.take (k + 1)).any (fun x => decide (x = i)) = ((F.take k).any (fun x => decide (x = i)) || decide (F[k] = i)) := by
  rw [take_s h, List.any_append]; simp
theorem any_mem {F : List Int} {i : Int} : F.any (fun x => decide (x = i)) = decide (i ∈ F) := by
  rw [Bool.eq_iff_iff]; simp
def CtI (F : List Int) (l : List OpR) (p u1 u2 k : Nat) (τ : St) : Prop :=
  τ 0 = .d (ints F) ∧ τ 1 = .d (oprs l) ∧ τ 5 = .d (.raw (va p)) ∧ τ 6 = .d (.int .i64 k) ∧ [1000000, 1000001, 1000002].map τ = tg p u1 u2 F (cntT F l k)
def CfI (F : List Int) (l : List OpR) (p u1 u2 i : Nat) (t : TSt) (A : List Acc) (e : Int) (k : Nat) (τ : St) : Prop :=
  τ 0 = .d (ints F) ∧ τ 1 = .d (oprs l) ∧ τ 5 = .d (.raw (va p)) ∧ τ 6 = .d (.int .i64 i) ∧ τ 7 = .d (accs A) ∧ τ 8 = .d (.int .i64 e) ∧ τ 9 = .d (.bool ((F.take k).any fun x => decide (x = (i : Int)))) ∧ τ 10 = .d (.int .i64 k) ∧ [1000000, 1000001, 1000002].map τ = tg p u1 u2 F t
theorem counts_fn (F : List Int) (hF : F.length ≤ 140737488351232) (l : List OpR) (hl : l.length ≤ 140737488351232) (hr : ∀ o ∈ l, RchA o.2.1) : Ctr prog 4 [.d (ints F), .d (oprs l)] (.d (.bool true)) := by
  refine fv (fun i => i == 5000021 || i == 5000031 || i == 5000050 || i == 5000060 || i == 5000070 || i == 5000039 || i == 5000087 || i == 5000103) func4 (by kernel_rfl) rfl rfl rfl rfl rfl ?_; by_cases h30 : F.length ≤ 30
  case neg =>
    have h30' : (30 : Int) < F.length := (by omega); simp -implicitDefEqProofs [ints, h30']; refine callK alive_fn ?_; simp -implicitDefEqProofs
  have h30' : ¬ (30 : Int) < F.length := (by omega); have cf := few_fn l hl hr; cases hfw : fewO l with
  | false =>
    rw [hfw] at cf; simp -implicitDefEqProofs [ints, h30']; refine callK cf ?_; simp -implicitDefEqProofs [ints, h30']; refine callK alive_fn ?_; simp -implicitDefEqProofs
  | true =>
    rw [hfw] at cf; have hfw2 := hfw; simp only [fewO, Bool.and_eq_true, List.all_eq_true, decide_eq_true_eq] at hfw2; obtain ⟨hac, hl20⟩ := hfw2; have hacc : ∀ o ∈ l, AccF o.2.1 := fun o ho => accB_f (hac o ho)
    have c1 := newTarget_fn F (by omega); simp -implicitDefEqProofs [ints, h30']; refine callK cf ?_; simp -implicitDefEqProofs [ints, h30']; refine givB [] 1000000 c1 (by simp) rfl (by simp) ?_; rintro r hs' ⟨p, u1, u2, rfl, rfl⟩; simp -implicitDefEqProofs [takeH, putH, tg, ints]; refine loopN l.length (CtI F l p u1 u2) ⟨by simp [ints], by simp [oprs], by simp, by simp, by simp [tg, cntT]⟩ ?_; rintro k τ hk ⟨g0, g1, g5, g6, gT⟩; simp only [tg, List.map_cons, List.map_nil, List.cons.injEq, and_true] at gT; obtain ⟨qA, qB, qC⟩ := gT; by_cases hlt : k < l.length
    · have hlt' : (k : Int) < l.length := (by omega); have e1 : (l.map oprD)[k]? = some (oprD l[k]) := (by simp [hlt]); have ht := cntT_ok (F := F) hacc k hk; have htn := cntT_n F l k hk; have hs := cntT_succ (F := F) hlt; have ha := hacc _ (gmm hlt); have o30 := opT_30 F (cntT F l k) l[k]; have osm := opT_same F (cntT F l k) l[k]; have ot := opT_ok ht F ha; have on := opT_n F (cntT F l k) l[k]; generalize cntT F l k = t at *; generalize hx : l[k] = x at *; obtain ⟨xk, xa, xn⟩ := x; have hA : oprD (xk, xa, xn) = .agg [.int .i64 xk, accD xa, .int .i64 xn] := rfl; simp only at ha; have haD : accD xa = .agg [.str xa.1, .bool xa.2.1, atts xa.2.2] := rfl; have c2 := accG p u1 u2 F ht (by omega); simp -implicitDefEqProofs [takeH, putH, g0, g1, g5, g6, qA, qB, qC, oprs, tg, hlt, hlt']; refine givB [1000000, 1000001, 1000002] 1000010 c2 (by simp [qA, qB, qC, g5, tg, hlt]) rfl (by simp) ?_; rintro r hs' ⟨rfl, rfl⟩; simp -implicitDefEqProofs [takeH, putH, g0, g1, g5, g6, qA, qB, qC, oprs, tg, hlt, hlt', hx, hA]; by_cases m0 : xk = 0
      · have hop : opT F t (xk, xa, xn) = putT F t xa := (by simp [opT, m0]); have c3 := putG p u1 u2 F ht (by omega) ha; rw [← hop] at c3; generalize opT F t (xk, xa, xn) = R at *; simp -implicitDefEqProofs [takeH, putH, g0, g1, g5, g6, qA, qB, qC, oprs, tg, hlt, hlt', hx, hA, m0]; refine ⟨rfl, ?_⟩; refine givB [1000000, 1000001, 1000002] 1000010 c3 (by simp [qA, qB, qC, g5, tg, hlt]) rfl (by simp) ?_; rintro r hs' ⟨rfl, rfl⟩; simp -implicitDefEqProofs [takeH, putH, g0, g1, g5, g6, qA, qB, qC, oprs, tg, hlt, hlt', hx, hA]; refine loopN F.length (CfI F l p u1 u2 k R.1 t.1 R.2) ⟨by simp [g0, ints], by simp [g1, oprs], by simp [g5], by simp [g6], by simp [tg], by simp, by simp, by simp, by simp [tg]⟩ ?_; rintro j τ2 hj ⟨f0, f1, f5, f6, f7, f8, f9, f10, fT⟩; simp only [tg, List.map_cons, List.map_nil, List.cons.injEq, and_true] at fT; obtain ⟨rA, rB, rC⟩ := fT; by_cases hjt : j < F.length
        · have hjt' : (j : Int) < F.length := (by omega); have e2 : (F.map (D.int .i64))[j]? = some (.int .i64 F[j]) := (by simp [hjt]); have hat := any_take (i := (k : Int)) hjt; generalize hy : F[j] = y at *; cases hfl : (F.take j).any (fun x => decide (x = (k : Int))) with
          | true =>
            rw [hfl] at f9 hat; simp -implicitDefEqProofs [takeH, putH, f0, f1, f5, f6, f7, f8, f9, f10, rA, rB, rC, tg, hjt, hjt', hy, ints]; exact ⟨by omega, again hjt ⟨by simp [f0, ints], by simp [f1], by simp [f5], by simp [f6], by simp [f7], by simp [f8], by simp [hat], by simp, by simp [rA, rB, rC, tg]⟩⟩
          | false =>
            rw [hfl] at f9 hat; simp -implicitDefEqProofs [takeH, putH, f0, f1, f5, f6, f7, f8, f9, f10, rA, rB, rC, tg, hjt, hjt', hy, ints]; exact ⟨by omega, again hjt ⟨by simp [f0, ints], by simp [f1], by simp [f5], by simp [f6], by simp [f7], by simp [f8], by simp [hat], by simp, by simp [rA, rB, rC, tg]⟩⟩
        · have hjt' : ¬ (j : Int) < F.length := (by omega); obtain rfl : j = F.length := by omega
          rw [List.take_length, any_mem] at f9; have c4 := tcalls_fn p u1 u2 F R.1; have hn1 : R.1.2 = (k : Int) + 1 := by rw [on, htn]
          have hf30 : decide ((k : Int) ∈ F) = decide (R.2 = 30) := by rw [← htn, decide_eq_decide]; exact o30.symm
          rw [hf30] at f9; simp -implicitDefEqProofs [takeH, putH, f0, f1, f5, f6, f7, f8, f9, f10, rA, rB, rC, tg, hjt, hjt', ints]; refine givB [1000000, 1000001, 1000002] 1000010 c4 (by simp [rA, rB, rC, tg]) rfl (by simp) ?_; rintro r hs' ⟨rfl, rfl⟩; by_cases r0 : R.2 = 0
          · simp -implicitDefEqProofs [takeH, putH, f0, f1, f5, f6, f7, f8, f9, f10, rA, rB, rC, tg, hjt, hjt', ints, hn1, r0]; refine ⟨by omega, again hlt ⟨by simp [f0], by simp [f1], by simp [f5], by simp, ?_⟩⟩; rw [hs]; simp [tg, hn1]
          · have c5 := accG p u1 u2 F ot (by omega); have c6 := same48_fn t.1 R.1.1 ht.ti.acc ot.ti.acc (by have := ht.len; omega) (by have := ot.len; omega); rw [osm r0] at c6; simp -implicitDefEqProofs [takeH, putH, f0, f1, f5, f6, f7, f8, f9, f10, rA, rB, rC, tg, hjt, hjt', ints, hn1, r0]; refine ⟨by omega, givB [1000000, 1000001, 1000002] 1000010 c5 (by simp [tg, hn1]) rfl (by simp) ?_⟩; rintro r hs' ⟨rfl, rfl⟩; rw [osm r0]; simp -implicitDefEqProofs [takeH, putH, f0, f1, f5, f6, f7, f8, f9, f10, rA, rB, rC, tg, hjt, hjt', ints, hn1, r0]; refine callK c6 ?_; simp -implicitDefEqProofs [takeH, putH, f0, f1, f5, f6, f7, f8, f9, f10, rA, rB, rC, tg, hjt, hjt', ints, hn1, r0]; refine ⟨by omega, again hlt ⟨by simp [f0], by simp [f1], by simp [f5], by simp, ?_⟩⟩; rw [hs]; simp [tg, hn1, osm r0]
      by_cases m1 : xk = 1
      · have hop : opT F t (xk, xa, xn) = disT F t xa.1 := (by simp [opT, m0, m1]); have c3 := disG p u1 u2 F ht (by omega) xa.1; rw [← hop] at c3; generalize opT F t (xk, xa, xn) = R at *; simp -implicitDefEqProofs [takeH, putH, g0, g1, g5, g6, qA, qB, qC, oprs, tg, hlt, hlt', hx, hA, m0, m1, haD]; refine givB [1000000, 1000001, 1000002] 1000010 c3 (by simp [qA, qB, qC, g5, tg, hlt]) rfl (by simp) ?_; rintro r hs' ⟨rfl, rfl⟩; simp -implicitDefEqProofs [takeH, putH, g0, g1, g5, g6, qA, qB, qC, oprs, tg, hlt, hlt', hx, hA]; refine loopN F.length (CfI F l p u1 u2 k R.1 t.1 R.2) ⟨by simp [g0, ints], by simp [g1, oprs], by simp [g5], by simp [g6], by simp [tg], by simp, by simp, by simp, by simp [tg]⟩ ?_; rintro j τ2 hj ⟨f0, f1, f5, f6, f7, f8, f9, f10, fT⟩; simp only [tg, List.map_cons, List.map_nil, List.cons.injEq, and_true] at fT; obtain ⟨rA, rB, rC⟩ := fT; by_cases hjt : j < F.length
        · have hjt' : (j : Int) < F.length := (by omega); have e2 : (F.map (D.int .i64))[j]? = some (.int .i64 F[j]) := (by simp [hjt]); have hat := any_take (i := (k : Int)) hjt; generalize hy : F[j] = y at *; cases hfl : (F.take j).any (fun x => decide (x = (k : Int))) with
          | true =>
            rw [hfl] at f9 hat; simp -implicitDefEqProofs [takeH, putH, f0, f1, f5, f6, f7, f8, f9, f10, rA, rB, rC, tg, hjt, hjt', hy, ints]; exact ⟨by omega, again hjt ⟨by simp [f0, ints], by simp [f1], by simp [f5], by simp [f6], by simp [f7], by simp [f8], by simp [hat], by simp, by simp [rA, rB, rC, tg]⟩⟩
          | false =>
            rw [hfl] at f9 hat; simp -implicitDefEqProofs [takeH, putH, f0, f1, f5, f6, f7, f8, f9, f10, rA, rB, rC, tg, hjt, hjt', hy, ints]; exact ⟨by omega, again hjt ⟨by simp [f0, ints], by simp [f1], by simp [f5], by simp [f6], by simp [f7], by simp [f8], by simp [hat], by simp, by simp [rA, rB, rC, tg]⟩⟩
        · have hjt' : ¬ (j : Int) < F.length := (by omega); obtain rfl : j = F.length := by omega
          rw [List.take_length, any_mem] at f9; have c4 := tcalls_fn p u1 u2 F R.1; have hn1 : R.1.2 = (k : Int) + 1 := by rw [on, htn]
          have hf30 : decide ((k : Int) ∈ F) = decide (R.2 = 30) := by rw [← htn, decide_eq_decide]; exact o30.symm
          rw [hf30] at f9; simp -implicitDefEqProofs [takeH, putH, f0, f1, f5, f6, f7, f8, f9, f10, rA, rB, rC, tg, hjt, hjt', ints]; refine givB [1000000, 1000001, 1000002] 1000010 c4 (by simp [rA, rB, rC, tg]) rfl (by simp) ?_; rintro r hs' ⟨rfl, rfl⟩; by_cases r0 : R.2 = 0
          · simp -implicitDefEqProofs [takeH, putH, f0, f1, f5, f6, f7, f8, f9, f10, rA, rB, rC, tg, hjt, hjt', ints, hn1, r0]; refine ⟨by omega, again hlt ⟨by simp [f0], by simp [f1], by simp [f5], by simp, ?_⟩⟩; rw [hs]; simp [tg, hn1]
          · have c5 := accG p u1 u2 F ot (by omega); have c6 := same48_fn t.1 R.1.1 ht.ti.acc ot.ti.acc (by have := ht.len; omega) (by have := ot.len; omega); rw [osm r0] at c6; simp -implicitDefEqProofs [takeH, putH, f0, f1, f5, f6, f7, f8, f9, f10, rA, rB, rC, tg, hjt, hjt', ints, hn1, r0]; refine ⟨by omega, givB [1000000, 1000001, 1000002] 1000010 c5 (by simp [tg, hn1]) rfl (by simp) ?_⟩; rintro r hs' ⟨rfl, rfl⟩; rw [osm r0]; simp -implicitDefEqProofs [takeH, putH, f0, f1, f5, f6, f7, f8, f9, f10, rA, rB, rC, tg, hjt, hjt', ints, hn1, r0]; refine callK c6 ?_; simp -implicitDefEqProofs [takeH, putH, f0, f1, f5, f6, f7, f8, f9, f10, rA, rB, rC, tg, hjt, hjt', ints, hn1, r0]; refine ⟨by omega, again hlt ⟨by simp [f0], by simp [f1], by simp [f5], by simp, ?_⟩⟩; rw [hs]; simp [tg, hn1, osm r0]
      by_cases m2 : xk = 2
      · have hop : opT F t (xk, xa, xn) = remT F t xa.1 := (by simp [opT, m0, m1, m2]); have c3 := remG p u1 u2 F ht (by omega) xa.1; rw [← hop] at c3; generalize opT F t (xk, xa, xn) = R at *; simp -implicitDefEqProofs [takeH, putH, g0, g1, g5, g6, qA, qB, qC, oprs, tg, hlt, hlt', hx, hA, m0, m1, m2, haD]; refine givB [1000000, 1000001, 1000002] 1000010 c3 (by simp [qA, qB, qC, g5, tg, hlt]) rfl (by simp) ?_; rintro r hs' ⟨rfl, rfl⟩; simp -implicitDefEqProofs [takeH, putH, g0, g1, g5, g6, qA, qB, qC, oprs, tg, hlt, hlt', hx, hA]; refine loopN F.length (CfI F l p u1 u2 k R.1 t.1 R.2) ⟨by simp [g0, ints], by simp [g1, oprs], by simp [g5], by simp [g6], by simp [tg], by simp, by simp, by simp, by simp [tg]⟩ ?_; rintro j τ2 hj ⟨f0, f1, f5, f6, f7, f8, f9, f10, fT⟩; simp only [tg, List.map_cons, List.map_nil, List.cons.injEq, and_true] at fT; obtain ⟨rA, rB, rC⟩ := fT; by_cases hjt : j < F.length
        · have hjt' : (j : Int) < F.length := (by omega); have e2 : (F.map (D.int .i64))[j]? = some (.int .i64 F[j]) := (by simp [hjt]); have hat := any_take (i := (k : Int)) hjt; generalize hy : F[j] = y at *; cases hfl : (F.take j).any (fun x => decide (x = (k : Int))) with
          | true =>
            rw [hfl] at f9 hat; simp -implicitDefEqProofs [takeH, putH, f0, f1, f5, f6, f7, f8, f9, f10, rA, rB, rC, tg, hjt, hjt', hy, ints]; exact ⟨by omega, again hjt ⟨by simp [f0, ints], by simp [f1], by simp [f5], by simp [f6], by simp [f7], by simp [f8], by simp [hat], by simp, by simp [rA, rB, rC, tg]⟩⟩
          | false =>
            rw [hfl] at f9 hat; simp -implicitDefEqProofs [takeH, putH, f0, f1, f5, f6, f7, f8, f9, f10, rA, rB, rC, tg, hjt, hjt', hy, ints]; exact ⟨by omega, again hjt ⟨by simp [f0, ints], by simp [f1], by simp [f5], by simp [f6], by simp [f7], by simp [f8], by simp [hat], by simp, by simp [rA, rB, rC, tg]⟩⟩
        · have hjt' : ¬ (j : Int) < F.length := (by omega); obtain rfl : j = F.length := by omega
          rw [List.take_length, any_mem] at f9; have c4 := tcalls_fn p u1 u2 F R.1; have hn1 : R.1.2 = (k : Int) + 1 := by rw [on, htn]
          have hf30 : decide ((k : Int) ∈ F) = decide (R.2 = 30) := by rw [← htn, decide_eq_decide]; exact o30.symm
          rw [hf30] at f9; simp -implicitDefEqProofs [takeH, putH, f0, f1, f5, f6, f7, f8, f9, f10, rA, rB, rC, tg, hjt, hjt', ints]; refine givB [1000000, 1000001, 1000002] 1000010 c4 (by simp [rA, rB, rC, tg]) rfl (by simp) ?_; rintro r hs' ⟨rfl, rfl⟩; by_cases r0 : R.2 = 0
          · simp -implicitDefEqProofs [takeH, putH, f0, f1, f5, f6, f7, f8, f9, f10, rA, rB, rC, tg, hjt, hjt', ints, hn1, r0]; refine ⟨by omega, again hlt ⟨by simp [f0], by simp [f1], by simp [f5], by simp, ?_⟩⟩; rw [hs]; simp [tg, hn1]
          · have c5 := accG p u1 u2 F ot (by omega); have c6 := same48_fn t.1 R.1.1 ht.ti.acc ot.ti.acc (by have := ht.len; omega) (by have := ot.len; omega); rw [osm r0] at c6; simp -implicitDefEqProofs [takeH, putH, f0, f1, f5, f6, f7, f8, f9, f10, rA, rB, rC, tg, hjt, hjt', ints, hn1, r0]; refine ⟨by omega, givB [1000000, 1000001, 1000002] 1000010 c5 (by simp [tg, hn1]) rfl (by simp) ?_⟩; rintro r hs' ⟨rfl, rfl⟩; rw [osm r0]; simp -implicitDefEqProofs [takeH, putH, f0, f1, f5, f6, f7, f8, f9, f10, rA, rB, rC, tg, hjt, hjt', ints, hn1, r0]; refine callK c6 ?_; simp -implicitDefEqProofs [takeH, putH, f0, f1, f5, f6, f7, f8, f9, f10, rA, rB, rC, tg, hjt, hjt', ints, hn1, r0]; refine ⟨by omega, again hlt ⟨by simp [f0], by simp [f1], by simp [f5], by simp, ?_⟩⟩; rw [hs]; simp [tg, hn1, osm r0]
      · have hop : opT F t (xk, xa, xn) = ((lstT F t).1, (lstT F t).2.2) := (by simp [opT, m0, m1, m2]); have c3 : CtrG prog 21 [.d (.raw (va p))] (tg p u1 u2 F t) (fun r hs' => r = .tup [.d (accs (lstT F t).2.1), .d (.int .i64 (opT F t (xk, xa, xn)).2)] ∧ hs' = tg p u1 u2 F (opT F t (xk, xa, xn)).1) := by rw [hop]; exact listG p u1 u2 F ht (by omega)
        generalize opT F t (xk, xa, xn) = R at *; simp -implicitDefEqProofs [takeH, putH, g0, g1, g5, g6, qA, qB, qC, oprs, tg, hlt, hlt', hx, hA, m0, m1, m2]; refine givB [1000000, 1000001, 1000002] 1000010 c3 (by simp [qA, qB, qC, g5, tg, hlt]) rfl (by simp) ?_; rintro r hs' ⟨rfl, rfl⟩; simp -implicitDefEqProofs [takeH, putH, g0, g1, g5, g6, qA, qB, qC, oprs, tg, hlt, hlt', hx, hA]; refine loopN F.length (CfI F l p u1 u2 k R.1 t.1 R.2) ⟨by simp [g0, ints], by simp [g1, oprs], by simp [g5], by simp [g6], by simp [tg], by simp, by simp, by simp, by simp [tg]⟩ ?_; rintro j τ2 hj ⟨f0, f1, f5, f6, f7, f8, f9, f10, fT⟩; simp only [tg, List.map_cons, List.map_nil, List.cons.injEq, and_true] at fT; obtain ⟨rA, rB, rC⟩ := fT; by_cases hjt : j < F.length
        · have hjt' : (j : Int) < F.length := (by omega); have e2 : (F.map (D.int .i64))[j]? = some (.int .i64 F[j]) := (by simp [hjt]); have hat := any_take (i := (k : Int)) hjt; generalize hy : F[j] = y at *; cases hfl : (F.take j).any (fun x => decide (x = (k : Int))) with
          | true =>
            rw [hfl] at f9 hat; simp -implicitDefEqProofs [takeH, putH, f0, f1, f5, f6, f7, f8, f9, f10, rA, rB, rC, tg, hjt, hjt', hy, ints]; exact ⟨by omega, again hjt ⟨by simp [f0, ints], by simp [f1], by simp [f5], by simp [f6], by simp [f7], by simp [f8], by simp [hat], by simp, by simp [rA, rB, rC, tg]⟩⟩
          | false =>
            rw [hfl] at f9 hat; simp -implicitDefEqProofs [takeH, putH, f0, f1, f5, f6, f7, f8, f9, f10, rA, rB, rC, tg, hjt, hjt', hy, ints]; exact ⟨by omega, again hjt ⟨by simp [f0, ints], by simp [f1], by simp [f5], by simp [f6], by simp [f7], by simp [f8], by simp [hat], by simp, by simp [rA, rB, rC, tg]⟩⟩
        · have hjt' : ¬ (j : Int) < F.length := (by omega); obtain rfl : j = F.length := by omega
          rw [List.take_length, any_mem] at f9; have c4 := tcalls_fn p u1 u2 F R.1; have hn1 : R.1.2 = (k : Int) + 1 := by rw [on, htn]
          have hf30 : decide ((k : Int) ∈ F) = decide (R.2 = 30) := by rw [← htn, decide_eq_decide]; exact o30.symm
          rw [hf30] at f9; simp -implicitDefEqProofs [takeH, putH, f0, f1, f5, f6, f7, f8, f9, f10, rA, rB, rC, tg, hjt, hjt', ints]; refine givB [1000000, 1000001, 1000002] 1000010 c4 (by simp [rA, rB, rC, tg]) rfl (by simp) ?_; rintro r hs' ⟨rfl, rfl⟩; by_cases r0 : R.2 = 0
          · simp -implicitDefEqProofs [takeH, putH, f0, f1, f5, f6, f7, f8, f9, f10, rA, rB, rC, tg, hjt, hjt', ints, hn1, r0]; refine ⟨by omega, again hlt ⟨by simp [f0], by simp [f1], by simp [f5], by simp, ?_⟩⟩; rw [hs]; simp [tg, hn1]
          · have c5 := accG p u1 u2 F ot (by omega); have c6 := same48_fn t.1 R.1.1 ht.ti.acc ot.ti.acc (by have := ht.len; omega) (by have := ot.len; omega); rw [osm r0] at c6; simp -implicitDefEqProofs [takeH, putH, f0, f1, f5, f6, f7, f8, f9, f10, rA, rB, rC, tg, hjt, hjt', ints, hn1, r0]; refine ⟨by omega, givB [1000000, 1000001, 1000002] 1000010 c5 (by simp [tg, hn1]) rfl (by simp) ?_⟩; rintro r hs' ⟨rfl, rfl⟩; rw [osm r0]; simp -implicitDefEqProofs [takeH, putH, f0, f1, f5, f6, f7, f8, f9, f10, rA, rB, rC, tg, hjt, hjt', ints, hn1, r0]; refine callK c6 ?_; simp -implicitDefEqProofs [takeH, putH, f0, f1, f5, f6, f7, f8, f9, f10, rA, rB, rC, tg, hjt, hjt', ints, hn1, r0]; refine ⟨by omega, again hlt ⟨by simp [f0], by simp [f1], by simp [f5], by simp, ?_⟩⟩; rw [hs]; simp [tg, hn1, osm r0]
    · have hlt' : ¬ (k : Int) < l.length := (by omega); simp -implicitDefEqProofs [takeH, putH, g0, g1, g5, g6, qA, qB, qC, oprs, tg, hlt, hlt']; refine callK alive_fn ?_; simp -implicitDefEqProofs [takeH, putH, g0, g1, g5, g6, qA, qB, qC, oprs, tg, hlt, hlt']
end Go.Proofs.Tz
namespace Go.Proofs.Tz
open Go.Vw
theorem fits_str {d : D} (h : Sh.Fits .str d) : ∃ s : Str, d = .str s := by
  simp only [Sh.Fits] at h; obtain ⟨s, rfl, _⟩ := h; exact ⟨s, rfl⟩
theorem fits_list {α : Type} {s : Sh} (g : α → D) (hs : ∀ d, Sh.Fits s d → ∃ a, d = g a) {d : D} (h : Sh.Fits (.sl s) d) : ∃ l : List α, d = .sl (l.map g) := by
  simp only [Sh.Fits] at h; obtain ⟨ds, rfl, _, h⟩ := h; have : ∀ ds : List D, (∀ x ∈ ds, Sh.Fits s x) → ∃ l : List α, ds = l.map g := by
    intro ds
    induction ds with
    | nil => intro _; exact ⟨[], rfl⟩
    | cons x ds ih =>
      intro h; obtain ⟨a, rfl⟩ := hs x (h x (by simp)); obtain ⟨l, rfl⟩ := ih fun y hy => h y (by simp [hy])
      exact ⟨a :: l, rfl⟩
  obtain ⟨l, rfl⟩ := this ds h; exact ⟨l, rfl⟩
theorem fits_strs {d : D} (h : Sh.Fits (.sl .str) d) : ∃ l : List Str, d = strs l := fits_list _ (fun _ h => fits_str h) h
theorem fits_att {d : D} (h : Sh.Fits (.agg [.str, .sl .str]) d) : ∃ a : Att, d = att a := by
  simp only [Sh.Fits, Sh.FitsL] at h; obtain ⟨ds, rfl, x, xs, rfl, ⟨s, rfl, _⟩, y, ys, rfl, hy, rfl⟩ := h; obtain ⟨l, rfl⟩ := fits_strs (d := y) (by simp only [Sh.Fits]; exact hy); exact ⟨(s, l), rfl⟩
theorem fits_atts {d : D} (h : Sh.Fits (.sl (.agg [.str, .sl .str])) d) : ∃ l : List Att, d = atts l := fits_list _ (fun _ h => fits_att h) h
end Go.Proofs.Tz
namespace Go.Proofs.Tz
open Go.Vw Go.RowKit Go.Proofs
def I64 : Type := { n : Int // -9223372036854775808 ≤ n ∧ n < 9223372036854775808 }
def i64D (n : I64) : D := .int .i64 n.1
def OpB : Type := { o : OpR // -9223372036854775808 ≤ o.2.2 ∧ o.2.2 < 9223372036854775808 }
def opbD (o : OpB) : D := oprD o.1
def opbs (l : List OpB) : D := .sl (l.map opbD)
theorem opbs_eq (l : List OpB) : opbs l = oprs (l.map (·.1)) := by unfold opbs oprs; rw [List.map_map]; rfl
theorem wf_i64 {n : Int} (h : (Lit.int .i64 n).wf = true) : -9223372036854775808 ≤ n ∧ n < 9223372036854775808 := by
  simp only [Lit.wf, IntKind.min, IntKind.max, IntKind.signed, IntKind.bits, Bool.and_eq_true, decide_eq_true_eq, if_true] at h; omega
theorem fits_i64 {d : D} (h : Sh.Fits (.int .i64) d) : ∃ x : I64, d = i64D x := by
  obtain ⟨n, rfl, hw⟩ := h; exact ⟨⟨n, wf_i64 hw⟩, rfl⟩
theorem fits_ints48 {d : D} (h : Sh.Fits (.sl (.int .i64)) d) : ∃ l : List Int, d = ints l :=
  fits_list (s := .int .i64) (.int .i64) (fun d h => by obtain ⟨n, rfl, hw⟩ := h; exact ⟨n, rfl⟩) h
theorem fits_acc {d : D} (h : Sh.Fits (.agg [.str, .bool, .sl (.agg [.str, .sl .str])]) d) : ∃ x : Acc, d = accD x := by
  simp only [Sh.Fits, Sh.FitsL] at h; obtain ⟨ds, rfl, x, xs, rfl, ⟨s, rfl, _⟩, y, ys, rfl, ⟨b, rfl⟩, z, zs, rfl, hz, rfl⟩ := h; obtain ⟨l, rfl⟩ := fits_atts (by simpa only [Sh.Fits, Sh.FitsL] using hz); exact ⟨(s, b, l), rfl⟩
theorem fits_opb {d : D} (h : Sh.Fits (.agg [.int .i64, .agg [.str, .bool, .sl (.agg [.str, .sl .str])], .int .i64]) d) : ∃ x : OpB, d = opbD x := by
  rw [Sh.Fits] at h; obtain ⟨ds, rfl, h⟩ := h; rw [Sh.FitsL] at h; obtain ⟨x, xs, rfl, h1, h⟩ := h; rw [Sh.FitsL] at h; obtain ⟨y, ys, rfl, h2, h⟩ := h; rw [Sh.FitsL] at h; obtain ⟨z, zs, rfl, h3, h⟩ := h; rw [Sh.FitsL] at h; subst h; rw [Sh.Fits] at h1 h3; obtain ⟨n, rfl, hn⟩ := h1; obtain ⟨m, rfl, hm⟩ := h3; obtain ⟨a, rfl⟩ := fits_acc h2; exact ⟨⟨(n, a, m), wf_i64 hm⟩, rfl⟩
theorem fits_opbs {d : D} (h : Sh.Fits (.sl (.agg [.int .i64, .agg [.str, .bool, .sl (.agg [.str, .sl .str])], .int .i64])) d) : ∃ l : List OpB, d = opbs l := fits_list _ (fun _ h => fits_opb h) h
theorem rch_acc {a : Acc} (h : D.lim 140737488351232 (accD a)) : RchA a := by
  simp only [accD, atts, D.lim, D.lims] at h; obtain ⟨_, _, ⟨h1, h2⟩, _⟩ := h; rw [D.lims_mem] at h2; simp only [List.length_map] at h1; refine ⟨h1, fun t ht => ?_⟩; have := h2 _ (List.mem_map.2 ⟨t, ht, rfl⟩); simp only [att, D.lim, D.lims] at this; simpa using this.2.1.1
theorem rch_opb {o : OpB} (h : D.lim 140737488351232 (opbD o)) : RchA o.1.2.1 := by
  simp only [opbD, oprD, D.lim, D.lims] at h; exact rch_acc h.2.1
theorem rch_opbs {l : List OpB} (h : D.lim 140737488351232 (opbs l)) : (l.map (·.1)).length ≤ 140737488351232 ∧ ∀ o ∈ l.map (·.1), RchA o.2.1 := by
  simp only [opbs, D.lim, D.lims_mem, List.length_map] at h; refine ⟨by simpa using h.1, fun o ho => ?_⟩; obtain ⟨x, hx, rfl⟩ := List.mem_map.1 ho; exact rch_opb (h.2 _ (List.mem_map.2 ⟨x, hx, rfl⟩))
theorem rch_ints {l : List Int} (h : D.lim 140737488351232 (ints l)) : l.length ≤ 140737488351232 := by
  simpa [ints, D.lim] using h.1
theorem ReconcileCounts_ok (F : List Int) (l : List OpB) (hb : D.lims 140737488351232 [ints F, opbs l]) : Ctr prog 4 [.d (ints F), .d (opbs l)] (.d (.bool true)) := by
  obtain ⟨h1, h2, _⟩ := hb; rw [opbs_eq]; exact counts_fn F (rch_ints h1) _ (rch_opbs h2).1 (rch_opbs h2).2
end Go.Proofs.Tz
namespace Go.Proofs.Tz
open Go.Vw Go.RowKit Go.Proofs Go.Sort
def zt (p : Nat) : List AV := [.hb (va p) 74 (.agg [.raw (.map none), .raw (.map none), .int .i64 0])]
def zs (p : Nat) : List AV := [.hb (va p) 78 (.agg [.int .i64 0, .raw (.map none), .sl []])]
theorem tready1_fn (p : Nat) : CtrG prog 59 [.d (.raw (va p))] (zt p) (fun r hs' => r = .d (.bool false) ∧ hs' = zt p) := by
  refine fn_of_vwpG (fun _ => false) (by kernel_rfl) func59 (by kernel_rfl) rfl rfl (nbl rfl) (by kernel_rfl) rfl ?_; simp -implicitDefEqProofs [initG, zt]; refine rawFd (e := 74) (ds := [.raw (.map none), .raw (.map none), .int .i64 0]) 1000000 (by simp [initG]) (by omega) (by simp) (by kernel_rfl) ?_; simp -implicitDefEqProofs [initG]; exact ⟨.d (.bool false), [1000000], by simp, by simp [initG, isH], by simp [ResG], rfl, by simp [initG]⟩
theorem sready1_fn (p : Nat) : CtrG prog 53 [.d (.raw (va p))] (zs p) (fun r hs' => r = .d (.bool false) ∧ hs' = zs p) := by
  refine fn_of_vwpG (fun _ => false) (by kernel_rfl) func53 (by kernel_rfl) rfl rfl (nbl rfl) (by kernel_rfl) rfl ?_; simp -implicitDefEqProofs [initG, zs]; refine rawFd (e := 78) (ds := [.int .i64 0, .raw (.map none), .sl []]) 1000000 (by simp [initG]) (by omega) (by simp) (by kernel_rfl) ?_; simp -implicitDefEqProofs [initG]; exact ⟨.d (.bool false), [1000000], by simp, by simp [initG, isH], by simp [ResG], rfl, by simp [initG]⟩
theorem tcall0_fn  : Ctr prog 45 [.d .nilp] (.d (.int .i64 1)) := by
  refine fv (fun _ => false) func45 (by kernel_rfl) rfl rfl rfl rfl rfl ?_; have hA (a : Acc) : accD a = .agg [.str a.1, .bool a.2.1, atts a.2.2] := rfl; simp -implicitDefEqProofs [hA]; refine callK tready0_fn ?_; simp -implicitDefEqProofs
theorem tcall1_fn (p : Nat)  : CtrG prog 45 [.d (.raw (va p))] (zt p) (fun r hs' => r = .d (.int .i64 1) ∧ hs' = zt p) := by
  refine fn_of_vwpG (fun i => i == 5000004) (by kernel_rfl) func45 (by kernel_rfl) rfl rfl (nbl rfl) (by kernel_rfl) rfl ?_; have hA (a : Acc) : accD a = .agg [.str a.1, .bool a.2.1, atts a.2.2] := rfl; simp -implicitDefEqProofs [initG, zt, hA]; refine givB [1000000] 1000000 (tready1_fn p) (by simp [initG, zt]) rfl (by simp) ?_; rintro r hs' ⟨rfl, rfl⟩; simp -implicitDefEqProofs [initG, takeH, putH, zt]; exact ⟨.d (.int .i64 1), [1000000], by simp, by simp [initG, isH], by simp [ResG], rfl, by simp [initG]⟩
theorem tput0_fn (a : Acc) : Ctr prog 15 [.d .nilp, .d (accD a)] (.d (.int .i64 1)) := by
  refine fv (fun i => i == 9000007) func15 (by kernel_rfl) rfl rfl rfl rfl rfl ?_; have hA (a : Acc) : accD a = .agg [.str a.1, .bool a.2.1, atts a.2.2] := rfl; simp -implicitDefEqProofs [hA]; refine callK tcall0_fn ?_; simp -implicitDefEqProofs
theorem tput1_fn (p : Nat) (a : Acc) : CtrG prog 15 [.d (.raw (va p)), .d (accD a)] (zt p) (fun r hs' => r = .d (.int .i64 1) ∧ hs' = zt p) := by
  refine fn_of_vwpG (fun i => i == 5000010 || i == 9000007) (by kernel_rfl) func15 (by kernel_rfl) rfl rfl (nbl rfl) (by kernel_rfl) rfl ?_; have hA (a : Acc) : accD a = .agg [.str a.1, .bool a.2.1, atts a.2.2] := rfl; simp -implicitDefEqProofs [initG, zt, hA]; refine givB [1000000] 1000000 (tcall1_fn p) (by simp [initG, zt]) rfl (by simp) ?_; rintro r hs' ⟨rfl, rfl⟩; simp -implicitDefEqProofs [initG, takeH, putH, zt]; exact ⟨.d (.int .i64 1), [1000000], by simp, by simp [initG, isH], by simp [ResG], rfl, by simp [initG]⟩
theorem tdis0_fn (s : Str) : Ctr prog 17 [.d .nilp, .d (.str s)] (.d (.int .i64 1)) := by
  refine fv (fun _ => false) func17 (by kernel_rfl) rfl rfl rfl rfl rfl ?_; have hA (a : Acc) : accD a = .agg [.str a.1, .bool a.2.1, atts a.2.2] := rfl; simp -implicitDefEqProofs [hA]; refine callK tcall0_fn ?_; simp -implicitDefEqProofs
theorem tdis1_fn (p : Nat) (s : Str) : CtrG prog 17 [.d (.raw (va p)), .d (.str s)] (zt p) (fun r hs' => r = .d (.int .i64 1) ∧ hs' = zt p) := by
  refine fn_of_vwpG (fun i => i == 5000009) (by kernel_rfl) func17 (by kernel_rfl) rfl rfl (nbl rfl) (by kernel_rfl) rfl ?_; have hA (a : Acc) : accD a = .agg [.str a.1, .bool a.2.1, atts a.2.2] := rfl; simp -implicitDefEqProofs [initG, zt, hA]; refine givB [1000000] 1000000 (tcall1_fn p) (by simp [initG, zt]) rfl (by simp) ?_; rintro r hs' ⟨rfl, rfl⟩; simp -implicitDefEqProofs [initG, takeH, putH, zt]; exact ⟨.d (.int .i64 1), [1000000], by simp, by simp [initG, isH], by simp [ResG], rfl, by simp [initG]⟩
theorem trem0_fn (s : Str) : Ctr prog 19 [.d .nilp, .d (.str s)] (.d (.int .i64 1)) := by
  refine fv (fun _ => false) func19 (by kernel_rfl) rfl rfl rfl rfl rfl ?_; have hA (a : Acc) : accD a = .agg [.str a.1, .bool a.2.1, atts a.2.2] := rfl; simp -implicitDefEqProofs [hA]; refine callK tcall0_fn ?_; simp -implicitDefEqProofs
theorem trem1_fn (p : Nat) (s : Str) : CtrG prog 19 [.d (.raw (va p)), .d (.str s)] (zt p) (fun r hs' => r = .d (.int .i64 1) ∧ hs' = zt p) := by
  refine fn_of_vwpG (fun i => i == 5000009) (by kernel_rfl) func19 (by kernel_rfl) rfl rfl (nbl rfl) (by kernel_rfl) rfl ?_; have hA (a : Acc) : accD a = .agg [.str a.1, .bool a.2.1, atts a.2.2] := rfl; simp -implicitDefEqProofs [initG, zt, hA]; refine givB [1000000] 1000000 (tcall1_fn p) (by simp [initG, zt]) rfl (by simp) ?_; rintro r hs' ⟨rfl, rfl⟩; simp -implicitDefEqProofs [initG, takeH, putH, zt]; exact ⟨.d (.int .i64 1), [1000000], by simp, by simp [initG, isH], by simp [ResG], rfl, by simp [initG]⟩
theorem tacc1_fn (p : Nat)  : CtrG prog 33 [.d (.raw (va p))] (zt p) (fun r hs' => r = .own true 39 [] ∧ hs' = zt p) := by
  refine fn_of_vwpG (fun i => i == 5000007 || i == 2) (by kernel_rfl) func33 (by kernel_rfl) rfl rfl (nbl rfl) (by kernel_rfl) rfl ?_; have hA (a : Acc) : accD a = .agg [.str a.1, .bool a.2.1, atts a.2.2] := rfl; simp -implicitDefEqProofs [initG, zt, hA]; refine givB [1000000] 1000000 (tready1_fn p) (by simp [initG, zt]) rfl (by simp) ?_; rintro r hs' ⟨rfl, rfl⟩; simp -implicitDefEqProofs [initG, takeH, putH, zt]; exact ⟨.own true 39 [], [1000000], by simp, by simp [initG, isH], by simp [ResG], rfl, by simp [initG]⟩
theorem tcalls0_fn  : Ctr prog 35 [.d .nilp] (.d (.int .i64 0)) := by
  refine fv (fun _ => false) func35 (by kernel_rfl) rfl rfl rfl rfl rfl ?_; have hA (a : Acc) : accD a = .agg [.str a.1, .bool a.2.1, atts a.2.2] := rfl; simp -implicitDefEqProofs [hA]; refine callK tready0_fn ?_; simp -implicitDefEqProofs
theorem tcalls1_fn (p : Nat)  : CtrG prog 35 [.d (.raw (va p))] (zt p) (fun r hs' => r = .d (.int .i64 0) ∧ hs' = zt p) := by
  refine fn_of_vwpG (fun i => i == 5000004) (by kernel_rfl) func35 (by kernel_rfl) rfl rfl (nbl rfl) (by kernel_rfl) rfl ?_; have hA (a : Acc) : accD a = .agg [.str a.1, .bool a.2.1, atts a.2.2] := rfl; simp -implicitDefEqProofs [initG, zt, hA]; refine givB [1000000] 1000000 (tready1_fn p) (by simp [initG, zt]) rfl (by simp) ?_; rintro r hs' ⟨rfl, rfl⟩; simp -implicitDefEqProofs [initG, takeH, putH, zt]; exact ⟨.d (.int .i64 0), [1000000], by simp, by simp [initG, isH], by simp [ResG], rfl, by simp [initG]⟩
theorem swant0_fn (a : Acc) : Ctr prog 24 [.d .nilp, .d (accD a)] (.d (.int .i64 1)) := by
  refine fv (fun _ => false) func24 (by kernel_rfl) rfl rfl rfl rfl rfl ?_; have hA (a : Acc) : accD a = .agg [.str a.1, .bool a.2.1, atts a.2.2] := rfl; simp -implicitDefEqProofs [hA]; refine callK sready0_fn ?_; simp -implicitDefEqProofs
theorem swant1_fn (p : Nat) (a : Acc) : CtrG prog 24 [.d (.raw (va p)), .d (accD a)] (zs p) (fun r hs' => r = .d (.int .i64 1) ∧ hs' = zs p) := by
  refine fn_of_vwpG (fun i => i == 5000008) (by kernel_rfl) func24 (by kernel_rfl) rfl rfl (nbl rfl) (by kernel_rfl) rfl ?_; have hA (a : Acc) : accD a = .agg [.str a.1, .bool a.2.1, atts a.2.2] := rfl; simp -implicitDefEqProofs [initG, zs, hA]; refine givB [1000000] 1000000 (sready1_fn p) (by simp [initG, zs]) rfl (by simp) ?_; rintro r hs' ⟨rfl, rfl⟩; simp -implicitDefEqProofs [initG, takeH, putH, zs]; exact ⟨.d (.int .i64 1), [1000000], by simp, by simp [initG, isH], by simp [ResG], rfl, by simp [initG]⟩
theorem sleave0_fn (s : Str) (n : Int) : Ctr prog 26 [.d .nilp, .d (.str s), .d (.int .i64 n)] (.d (.int .i64 1)) := by
  refine fv (fun _ => false) func26 (by kernel_rfl) rfl rfl rfl rfl rfl ?_; have hA (a : Acc) : accD a = .agg [.str a.1, .bool a.2.1, atts a.2.2] := rfl; simp -implicitDefEqProofs [hA]; refine callK sready0_fn ?_; simp -implicitDefEqProofs
theorem sleave1_fn (p : Nat) (s : Str) (n : Int) : CtrG prog 26 [.d (.raw (va p)), .d (.str s), .d (.int .i64 n)] (zs p) (fun r hs' => r = .d (.int .i64 1) ∧ hs' = zs p) := by
  refine fn_of_vwpG (fun i => i == 5000009) (by kernel_rfl) func26 (by kernel_rfl) rfl rfl (nbl rfl) (by kernel_rfl) rfl ?_; have hA (a : Acc) : accD a = .agg [.str a.1, .bool a.2.1, atts a.2.2] := rfl; simp -implicitDefEqProofs [initG, zs, hA]; refine givB [1000000] 1000000 (sready1_fn p) (by simp [initG, zs]) rfl (by simp) ?_; rintro r hs' ⟨rfl, rfl⟩; simp -implicitDefEqProofs [initG, takeH, putH, zs]; exact ⟨.d (.int .i64 1), [1000000], by simp, by simp [initG, isH], by simp [ResG], rfl, by simp [initG]⟩
theorem sleft0_fn  : Ctr prog 37 [.d .nilp] (.own true 9 []) := by
  refine fv (fun i => i == 2) func37 (by kernel_rfl) rfl rfl rfl rfl rfl ?_; have hA (a : Acc) : accD a = .agg [.str a.1, .bool a.2.1, atts a.2.2] := rfl; simp -implicitDefEqProofs [hA]; refine callK sready0_fn ?_; simp -implicitDefEqProofs
theorem sleft1_fn (p : Nat)  : CtrG prog 37 [.d (.raw (va p))] (zs p) (fun r hs' => r = .own true 9 [] ∧ hs' = zs p) := by
  refine fn_of_vwpG (fun i => i == 5000004 || i == 2) (by kernel_rfl) func37 (by kernel_rfl) rfl rfl (nbl rfl) (by kernel_rfl) rfl ?_; have hA (a : Acc) : accD a = .agg [.str a.1, .bool a.2.1, atts a.2.2] := rfl; simp -implicitDefEqProofs [initG, zs, hA]; refine givB [1000000] 1000000 (sready1_fn p) (by simp [initG, zs]) rfl (by simp) ?_; rintro r hs' ⟨rfl, rfl⟩; simp -implicitDefEqProofs [initG, takeH, putH, zs]; exact ⟨.own true 9 [], [1000000], by simp, by simp [initG, isH], by simp [ResG], rfl, by simp [initG]⟩
theorem tlist0_fn : Ctr prog 21 [.d .nilp] (.tup [.own true 39 [], .d (.int .i64 1)]) := by
  refine fn_of_vwpN (rv := .tmp 2) (rs := [.tmp 3]) (r := .own true 39 []) (ys := [.d (.int .i64 1)]) (fun i => i == 2) (by kernel_rfl) func21 (by kernel_rfl) rfl rfl (by simp) (nbl rfl) (by kernel_rfl) rfl rfl ?_; simp -implicitDefEqProofs; refine callK tcall0_fn ?_; simp -implicitDefEqProofs
theorem Ctr.giv {P : Program} {f : FuncId} {args : List AV} {r : AV} (h : Ctr P f args r) : CtrG P f args [] (fun r' hs' => r' = r ∧ hs' = []) := by
  refine ⟨h.1, fun w L vals hl hg hr _ _ => (h.2 w L none vals hl hg (by simp) hr).mono ?_⟩; rintro x w' ⟨v, L', og', rfl, h1, h2, h3, h4, h5⟩; refine ⟨v, L', og', r, [], rfl, h1.sub (fun b hb => by simp [optB] at hb), h2, fun b q hb _ => h3 b q hb (by simp [optB]), fun g hg => ?_, ⟨by simp, trivial⟩, h5, by simp, rfl, rfl⟩; simp only [List.map_nil, List.mem_cons, List.not_mem_nil, or_false] at hg; have := h4 g hg.symm; refine ⟨this.1, .inl ?_⟩; rcases this.2 with h | h
  · exact h
  · simp at h
theorem scheck0_fn (p2 : Nat) : Ctr prog 30 [.d .nilp, .d (.raw (va p2))] (.tup [.d (.sl []), .d (.int .i64 1)]) := by
  refine fn_of_vwpN (rv := .tmp 4) (rs := [.tmp 5]) (r := .d (.sl [])) (ys := [.d (.int .i64 1)]) (fun _ => false) (by kernel_rfl) func30 (by kernel_rfl) rfl rfl (by simp) (nbl rfl) (by kernel_rfl) rfl rfl ?_; simp -implicitDefEqProofs; refine callK sready0_fn ?_; simp -implicitDefEqProofs
theorem sstep0_fn (p2 : Nat) (n : Int) : Ctr prog 28 [.d .nilp, .d (.raw (va p2)), .d (.int .i64 n)] (.d (.int .i64 0)) := by
  refine fv (fun _ => false) func28 (by kernel_rfl) rfl rfl rfl rfl rfl ?_; simp -implicitDefEqProofs; refine callK sready0_fn ?_; simp -implicitDefEqProofs
theorem sstepX_fn (p u : Nat) (hd : Value) (dl : Int) (s : SSt) (n : Int) : CtrG prog 28 [.d (.raw (va p)), .d .nilp, .d (.int .i64 n)] (sy p u hd dl s) (fun r hs' => r = .d (.int .i64 0) ∧ hs' = sy p u hd dl s) := by
  refine fn_of_vwpG (fun i => i == 5000013) (by kernel_rfl) func28 (by kernel_rfl) rfl rfl (nbl rfl) (by kernel_rfl) rfl ?_; have c1 := sready_fn p u hd dl s; simp -implicitDefEqProofs [initG, takeH, putH, sy, ]; refine givB [1000000, 1000001, 1000002] 1000010 c1 (by simp [initG, sy]) rfl (by simp) ?_; rintro r hs' ⟨rfl, rfl⟩; simp -implicitDefEqProofs [initG, takeH, putH, sy, ]; refine callK tready0_fn ?_; simp -implicitDefEqProofs [initG, takeH, putH, sy, ]; exact ⟨.d (.int .i64 0), [1000000, 1000001, 1000002], by simp, by simp [initG, isH], by simp [ResG], rfl, by simp [initG]⟩
theorem scheckX_fn (p u : Nat) (hd : Value) (dl : Int) (s : SSt) : CtrG prog 30 [.d (.raw (va p)), .d .nilp] (sy p u hd dl s) (fun r hs' => r = .tup [.d (.sl []), .d (.int .i64 1)] ∧ hs' = sy p u hd dl s) := by
  refine fn_of_vwpGN (rs := [.tmp 4, .tmp 5]) (fun i => i == 5000013) (by kernel_rfl) func30 (by kernel_rfl) rfl rfl (by simp) (nbl rfl) (by kernel_rfl) rfl ?_; have c1 := sready_fn p u hd dl s; simp -implicitDefEqProofs [initG, takeH, putH, sy, ]; refine givB [1000000, 1000001, 1000002] 1000010 c1 (by simp [initG, sy]) rfl (by simp) ?_; rintro r hs' ⟨rfl, rfl⟩; simp -implicitDefEqProofs [initG, takeH, putH, sy, ]; refine callK tready0_fn ?_; simp -implicitDefEqProofs [initG, takeH, putH, sy, ]; exact ⟨[.d (.sl []), .d (.int .i64 1)], [1000000, 1000001, 1000002], by simp, by simp [initG, isH], by simp [resDs, resD], by simp, by simp [initG]⟩
def NlI (o : OpR) (p : Nat) (k : Nat) (τ : St) : Prop := τ 1 = .box (oprD o) ∧ τ 4 = .d .nilp ∧ τ 88 = .own false 26 [.nilp, .raw (va p)] ∧ τ 89 = .d (.int .i64 2) ∧ τ 90 = .d (.int .i64 k) ∧ τ 1000006 = .hb (va p) 74 (.agg [.raw (.map none), .raw (.map none), .int .i64 0]) ∧ τ 1000007 = .undef
def NlJ (o : OpR) (p : Nat) (k : Nat) (τ : St) : Prop := τ 1 = .box (oprD o) ∧ τ 130 = .own false 30 [.nilp, .raw (va p)] ∧ τ 131 = .d (.int .i64 2) ∧ τ 132 = .d (.int .i64 k) ∧ τ 1000007 = .hb (va p) 78 (.agg [.int .i64 0, .raw (.map none), .sl []])
theorem nil_fn (o : OpR) (hr : RchA o.2.1) (hn : -9223372036854775808 ≤ o.2.2 ∧ o.2.2 < 9223372036854775808) : Ctr prog 8 [.d (oprD o)] (.d (.bool true)) := by
  refine fv (fun i => i == 5000023 || i == 5000025 || i == 5000041 || i == 5000056 || i == 5000063 || i == 1000087 || i == 5000097 || i == 5000104 || i == 5000112 || i == 5000117 || i == 5000123 || i == 1000129 || i == 5000139 || i == 5000148 || i == 5000153) func8 (by kernel_rfl) rfl rfl rfl rfl rfl ?_; have cl := light_fn o.2.1 hr; obtain ⟨xk, xa, xn⟩ := o; have hO : oprD (xk, xa, xn) = .agg [.int .i64 xk, accD xa, .int .i64 xn] := rfl; have hA (a : Acc) : accD a = .agg [.str a.1, .bool a.2.1, atts a.2.2] := rfl; simp only at cl hn; cases hb : accB xa with
  | false =>
    rw [hb, hA] at cl; simp -implicitDefEqProofs [takeH, putH, sy, tg, hO, hA, ]; refine callK cl ?_; simp -implicitDefEqProofs [takeH, putH, sy, tg, hO, hA, ]; refine callK alive_fn ?_; simp -implicitDefEqProofs [takeH, putH, sy, tg, hO, hA, ]
  | true =>
    have hann : AccF xa := accB_f hb; rw [hb, hA] at cl; simp -implicitDefEqProofs [takeH, putH, sy, tg, hO, hA, ]; refine callK cl ?_; simp -implicitDefEqProofs [takeH, putH, sy, tg, hO, hA, ]; have c0 := newTarget_fn [] (by simp); simp only [ints, List.map_nil] at c0; refine givB [] 1000000 c0 (by simp) rfl (by simp) ?_; rintro r hs' ⟨pt, u1, u2, rfl, rfl⟩; simp -implicitDefEqProofs [takeH, putH, sy, tg, hO, hA, ]; refine givB [] 1000003 (newSync_fn 1) (by simp) rfl (by simp) ?_; rintro r hs' (⟨h, _⟩ | ⟨_, ps, u, rfl, rfl⟩)
    · omega
    simp -implicitDefEqProofs [takeH, putH, sy, tg, hO, hA, ]; have c1 := wantG ps u (.slice none 0 0) 1 GS.zero (by omega) hann; rw [hA] at c1; refine givB [1000003, 1000004, 1000005] 1000010 c1 (by simp [sy, tg]) rfl (by simp) ?_; rintro r hs' ⟨rfl, h1, rfl⟩; generalize (wantS ([], []) xa).1 = s1; simp -implicitDefEqProofs [takeH, putH, sy, tg, hO, hA, ]; refine callK tlist0_fn ?_; simp -implicitDefEqProofs [takeH, putH, sy, tg, hO, hA, ]; refine callK (scheck0_fn pt) ?_; simp -implicitDefEqProofs [takeH, putH, sy, tg, hO, hA, ]; have c2 := scheckX_fn ps u h1 1 s1; refine givB [1000003, 1000004, 1000005] 1000010 c2 (by simp [sy, tg]) rfl (by simp) ?_; rintro r hs' ⟨rfl, rfl⟩; simp -implicitDefEqProofs [takeH, putH, sy, tg, hO, hA, ]; have c3 := sstepX_fn ps u h1 1 s1 xn; refine givB [1000003, 1000004, 1000005] 1000010 c3 (by simp [sy, tg]) rfl (by simp) ?_; rintro r hs' ⟨rfl, rfl⟩; simp -implicitDefEqProofs [takeH, putH, sy, tg, hO, hA, ]; refine callK (sstep0_fn pt xn) ?_; simp -implicitDefEqProofs [takeH, putH, sy, tg, hO, hA, ]; refine ⟨1000006, by simp, fun q => ?_⟩; simp -implicitDefEqProofs [takeH, putH, sy, tg, hO, hA, ]; refine ⟨by decide, ?_⟩; refine loopN 2 (NlI (xk, xa, xn) q) ⟨by simp [hO, hA], by simp, by simp, by simp, by simp, by simp, by simp⟩ ?_; rintro k τ hk ⟨g1, g4, g88, g89, g90, gZ, gY⟩; rw [hO, hA] at g1; have p0 := tput0_fn xa; have p1 (p) := tput1_fn p xa; simp only [hA] at p0 p1; rcases k with _ | _ | k
    · simp -implicitDefEqProofs [takeH, putH, zt, g1, g4, g88, g89, g90, gZ, gY, hO, hA, ]; refine givB [] 1000010 (Ctr.giv (p0)) (by simp) rfl (by simp) ?_; rintro r hs' ⟨rfl, rfl⟩; simp -implicitDefEqProofs [takeH, putH, zt, g1, g4, g88, g89, g90, gZ, gY, hO, hA, ]; refine givB [] 1000010 (Ctr.giv (tdis0_fn xa.1)) (by simp) rfl (by simp) ?_; rintro r hs' ⟨rfl, rfl⟩; simp -implicitDefEqProofs [takeH, putH, zt, g1, g4, g88, g89, g90, gZ, gY, hO, hA, ]; refine givB [] 1000010 (Ctr.giv (trem0_fn xa.1)) (by simp) rfl (by simp) ?_; rintro r hs' ⟨rfl, rfl⟩; simp -implicitDefEqProofs [takeH, putH, zt, g1, g4, g88, g89, g90, gZ, gY, hO, hA, ]; refine givB [] 1000010 (Ctr.giv (tacc0_fn)) (by simp) rfl (by simp) ?_; rintro r hs' ⟨rfl, rfl⟩; simp -implicitDefEqProofs [takeH, putH, zt, g1, g4, g88, g89, g90, gZ, gY, hO, hA, ]; refine givB [] 1000010 (Ctr.giv (tcalls0_fn)) (by simp) rfl (by simp) ?_; rintro r hs' ⟨rfl, rfl⟩; simp -implicitDefEqProofs [takeH, putH, zt, g1, g4, g88, g89, g90, gZ, gY, hO, hA, ]; exact again (by omega) ⟨by simp [g1, hO, hA], by simp [g4], by simp [g88], by simp [g89], by simp, by simp [gZ], by simp [gY]⟩
    · simp -implicitDefEqProofs [takeH, putH, zt, g1, g4, g88, g89, g90, gZ, gY, hO, hA, ]; refine givB [1000006] 1000010 (p1 q) (by simp [zt, gZ]) rfl (by simp) ?_; rintro r hs' ⟨rfl, rfl⟩; simp -implicitDefEqProofs [takeH, putH, zt, g1, g4, g88, g89, g90, gZ, gY, hO, hA, ]; refine givB [1000006] 1000010 (tdis1_fn q xa.1) (by simp [zt, gZ]) rfl (by simp) ?_; rintro r hs' ⟨rfl, rfl⟩; simp -implicitDefEqProofs [takeH, putH, zt, g1, g4, g88, g89, g90, gZ, gY, hO, hA, ]; refine givB [1000006] 1000010 (trem1_fn q xa.1) (by simp [zt, gZ]) rfl (by simp) ?_; rintro r hs' ⟨rfl, rfl⟩; simp -implicitDefEqProofs [takeH, putH, zt, g1, g4, g88, g89, g90, gZ, gY, hO, hA, ]; refine givB [1000006] 1000010 (tacc1_fn q) (by simp [zt, gZ]) rfl (by simp) ?_; rintro r hs' ⟨rfl, rfl⟩; simp -implicitDefEqProofs [takeH, putH, zt, g1, g4, g88, g89, g90, gZ, gY, hO, hA, ]; refine givB [1000006] 1000010 (tcalls1_fn q) (by simp [zt, gZ]) rfl (by simp) ?_; rintro r hs' ⟨rfl, rfl⟩; simp -implicitDefEqProofs [takeH, putH, zt, g1, g4, g88, g89, g90, gZ, gY, hO, hA, ]; exact again (by omega) ⟨by simp [g1, hO, hA], by simp [g4], by simp [g88], by simp [g89], by simp, by simp [gZ], by simp [gY]⟩
    obtain rfl : k = 0 := by omega
    simp -implicitDefEqProofs [takeH, putH, zt, g1, g4, g88, g89, g90, gZ, gY, hO, hA, ]; refine ⟨1000007, by simp [gY], fun q2 => ?_⟩; simp -implicitDefEqProofs [takeH, putH, zt, g1, g4, g88, g89, g90, gZ, gY, hO, hA, ]; refine ⟨by decide, ?_⟩; refine loopN 2 (NlJ (xk, xa, xn) q2) ⟨by simp [g1, hO, hA], by simp, by simp, by simp, by simp⟩ ?_; clear g1; rintro k τ2 hk ⟨g1, g130, g131, g132, gS⟩; rw [hO, hA] at g1; have p0 := swant0_fn xa; have p1 (p) := swant1_fn p xa; simp only [hA] at p0 p1; rcases k with _ | _ | k
    · simp -implicitDefEqProofs [takeH, putH, zs, g1, g130, g131, g132, gS, hO, hA, ]; refine givB [] 1000010 (Ctr.giv (p0)) (by simp) rfl (by simp) ?_; rintro r hs' ⟨rfl, rfl⟩; simp -implicitDefEqProofs [takeH, putH, zs, g1, g130, g131, g132, gS, hO, hA, ]; refine givB [] 1000010 (Ctr.giv (sleave0_fn xa.1 xn)) (by simp) rfl (by simp) ?_; rintro r hs' ⟨rfl, rfl⟩; simp -implicitDefEqProofs [takeH, putH, zs, g1, g130, g131, g132, gS, hO, hA, ]; refine givB [] 1000010 (Ctr.giv (sleft0_fn)) (by simp) rfl (by simp) ?_; rintro r hs' ⟨rfl, rfl⟩; simp -implicitDefEqProofs [takeH, putH, zs, g1, g130, g131, g132, gS, hO, hA, ]; exact again (by omega) ⟨by simp [g1, hO, hA], by simp [g130], by simp [g131], by simp, by simp [gS]⟩
    · simp -implicitDefEqProofs [takeH, putH, zs, g1, g130, g131, g132, gS, hO, hA, ]; refine givB [1000007] 1000010 (p1 q2) (by simp [zs, gS]) rfl (by simp) ?_; rintro r hs' ⟨rfl, rfl⟩; simp -implicitDefEqProofs [takeH, putH, zs, g1, g130, g131, g132, gS, hO, hA, ]; refine givB [1000007] 1000010 (sleave1_fn q2 xa.1 xn) (by simp [zs, gS]) rfl (by simp) ?_; rintro r hs' ⟨rfl, rfl⟩; simp -implicitDefEqProofs [takeH, putH, zs, g1, g130, g131, g132, gS, hO, hA, ]; refine givB [1000007] 1000010 (sleft1_fn q2) (by simp [zs, gS]) rfl (by simp) ?_; rintro r hs' ⟨rfl, rfl⟩; simp -implicitDefEqProofs [takeH, putH, zs, g1, g130, g131, g132, gS, hO, hA, ]; exact again (by omega) ⟨by simp [g1, hO, hA], by simp [g130], by simp [g131], by simp, by simp [gS]⟩
    obtain rfl : k = 0 := by omega
    simp -implicitDefEqProofs [takeH, putH, zs, g1, g130, g131, g132, gS, hO, hA, ]; refine callK alive_fn ?_; simp -implicitDefEqProofs [takeH, putH, zs, g1, g130, g131, g132, gS, hO, hA, ]
end Go.Proofs.Tz
namespace Go.Proofs.Tz
open Go.Vw Go.RowKit Go.Proofs
theorem ReconcileNil_ok (o : OpB) (hb : D.lims 140737488351232 [opbD o]) : Ctr prog 8 [.d (opbD o)] (.d (.bool true)) :=
  nil_fn o.1 (rch_opb hb.1) o.2
end Go.Proofs.Tz
namespace Go.Proofs.Tz
open Go.Vw Go.Lib
def ActW (w : Acc) : Prop := w.2.1 = true → formE w = 0
def ActV (V : List Wsh) : Prop := ∀ w ∈ V, ActW w.1
theorem formE_own {a : Acc} (h : formE a = 0) : formE (ownA a) = 0 := by
  unfold formE at h ⊢; cases hw : wordB a.1 with
  | false => rw [hw] at h; simp at h
  | true =>
    rw [hw, if_pos rfl] at h; simp only [ownA, hw, if_true]; exact (check_iff _).2 ((check_iff _).1 h).sorted
theorem ActV.put {V : List Wsh} (h : ActV V) {w : Wsh} (hw : ActW w.1) : ActV (putK wK w V) := fun x hx => by
  rcases mem_putK.1 hx with rfl | ⟨h1, _⟩
  · exact hw
  · exact h x h1
theorem ActV.set {s : SSt} (h : ActV s.1) {a : Acc} {due : Int} (ha : ActW a) : ActV (setS s a due).1.1 := by
  unfold setS; split
  · exact h
  · exact h.put ha
theorem ActV.want {s : SSt} (h : ActV s.1) (a : Acc) : ActV (wantS s a).1.1 := by
  unfold wantS; split
  · exact h
  · rename_i hf
    exact h.set fun _ => formE_own (by omega)
theorem ActV.leave {s : SSt} (h : ActV s.1) (i : Str) (now : Int) : ActV (leaveS s i now).1.1 := by
  unfold leaveS; split
  · exact h
  · exact h.set fun h => by simp at h
theorem callW_zero {F : List Int} {t : TSt} {w : Acc} (hw : ActW w) (hF : t.2 ∉ F) (hl : t.1.length < 256) : (callW F t w).2 = 0 := by
  unfold callW; split
  · rename_i ha
    unfold putT; rw [if_neg hF, if_neg (by have := hw ha; omega), if_neg (by rintro ⟨_, h⟩; omega)]
  · unfold disT; rw [if_neg hF]; cases getK aK w.1 t.1 <;> simp
theorem callW_le {F : List Int} {t : TSt} {w : Acc} (hI : OrdK aK t.1) : (callW F t w).1.1.length ≤ t.1.length + 1 := by
  unfold callW putT disT
  (repeat' split) <;> first | exact Nat.le_succ _ | exact putK_le hI
theorem callW_ord {F : List Int} {t : TSt} {w : Acc} (hI : OrdK aK t.1) : OrdK aK (callW F t w).1.1 := by
  unfold callW putT disT
  (repeat' split) <;> first | exact hI | exact putK_OrdK hI
def DueQ (now : Int) (V : List Wsh) (q : List Str) : Prop := ∀ id ∈ q, ∃ w, getK wK id V = some w ∧ w.2 ≤ addC now 0
theorem DueQ.put {now : Int} {V : List Wsh} {id : Str} {q : List Str} (hO : OrdK wK V) (hd : DueQ now V (id :: q)) (hn : (id :: q).Nodup) {w : Wsh} (hw : wK w = id) : DueQ now (putK wK w V) q := fun i hi => by
  obtain ⟨x, hx, hx2⟩ := hd i (List.mem_cons_of_mem _ hi); refine ⟨x, ?_, hx2⟩; rw [getK_put hO, if_neg (fun e => (List.nodup_cons.1 hn).1 (by rw [← hw, e]; exact hi)), hx]
theorem fold_due {F : List Int} {now delay : Int} : ∀ (q : List Str) (r : StK), OrdK wK r.V → q.Nodup → DueQ now r.V q →
    (q.foldl (stepO F now delay) r).n = r.n + q.length ∧ (q.foldl (stepO F now delay) r).t.2 = r.t.2 + q.length
  | [], r, _, _, _ => by simp
  | id :: q, r, hO, hn, hd => by
    obtain ⟨w, hw, hdw⟩ := hd id List.mem_cons_self; have hk := (getK_some hw).2; have hn2 := (List.nodup_cons.1 hn).2; rw [List.foldl_cons]; have hb : ∀ r' : StK, stepO F now delay r id = r' → OrdK wK r'.V → DueQ now r'.V q → r'.n = r.n + 1 → r'.t.2 = r.t.2 + 1 →
        (q.foldl (stepO F now delay) (stepO F now delay r id)).n = r.n + ((id :: q).length : Nat) ∧ (q.foldl (stepO F now delay) (stepO F now delay r id)).t.2 = r.t.2 + ((id :: q).length : Nat) := by
      rintro r' e h1 h2 h3 h4; rw [e]; obtain ⟨g1, g2⟩ := fold_due (F := F) (delay := delay) q r' h1 hn2 h2; simp only [List.length_cons]; omega
    by_cases hc : (callW F r.t w.1).2 = 0
    · exact hb { r with t := (callW F r.t w.1).1, n := r.n + 1 } (by simp only [stepO, hw]; rw [if_neg (by omega), if_pos hc]) hO (fun i hi => hd i (List.mem_cons_of_mem _ hi)) rfl (callW_n F r.t w.1)
    · exact hb { t := (callW F r.t w.1).1, V := putK wK (w.1, addC now delay) r.V, left := r.left ++ [id], n := r.n + 1 } (by simp only [stepO, hw]; rw [if_neg (by omega), if_neg hc]) (putK_OrdK hO) (hd.put hO hn hk) rfl (callW_n F r.t w.1)
theorem fold_clear {F : List Int} {now delay : Int} : ∀ (q : List Str) (r : StK), OrdK wK r.V → OrdK aK r.t.1 → q.Nodup → DueQ now r.V q → ActV r.V → r.t.1.length + q.length ≤ 256 →
    (∀ c ∈ F, ¬ (r.t.2 ≤ c ∧ c < r.t.2 + q.length)) → (q.foldl (stepO F now delay) r).left = r.left
  | [], r, _, _, _, _, _, _, _ => rfl
  | id :: q, r, hO, hA, hn, hd, hv, hl, hF => by
    obtain ⟨w, hw, hdw⟩ := hd id List.mem_cons_self; simp only [List.length_cons] at hl hF; have hc : (callW F r.t w.1).2 = 0 := callW_zero (hv w (getK_some hw).1) (fun h => hF _ h ⟨Int.le_refl _, by omega⟩) (by omega); have hlen := callW_le (F := F) (w := w.1) hA; have hnn := callW_n F r.t w.1; rw [List.foldl_cons, show stepO F now delay r id = { r with t := (callW F r.t w.1).1, n := r.n + 1 } by simp only [stepO, hw]; rw [if_neg (by omega), if_pos hc]]; have := fold_clear (F := F) (delay := delay) q { r with t := (callW F r.t w.1).1, n := r.n + 1 } hO (callW_ord hA) (List.nodup_cons.1 hn).2 (fun i hi => hd i (List.mem_cons_of_mem _ hi)) hv (by simp only; omega) (fun c hc h => hF c hc (by simp only [hnn] at h; omega)); exact this
end Go.Proofs.Tz
namespace Go.Proofs.Tz
open Go.Vw Go.RowKit Go.Proofs Go.Sort
def opQ (s : SSt) (o : OpR) : SSt × Int := if o.1 = 5 then leaveS s o.2.1.1 0 else wantS s o.2.1
def qS (l : List OpR) (k : Nat) : SSt := (l.take k).foldl (fun s o => (opQ s o).1) ([], [])
theorem qS_succ {l : List OpR} {k : Nat} (h : k < l.length) : qS l (k + 1) = (opQ (qS l k) l[k]).1 := by
  unfold qS; rw [take_s h, List.foldl_append]; rfl
theorem opQ_ok {k : Nat} {s : SSt} (h : GS k s) {o : OpR} (ha : AccF o.2.1) : GS (k + 1) (opQ s o).1 := by
  unfold opQ; split
  · exact h.leave _ _
  · exact h.want ha
theorem qS_ok {l : List OpR} (ha : ∀ o ∈ l, AccF o.2.1) : ∀ k, k ≤ l.length → GS k (qS l k)
  | 0, _ => GS.zero
  | k + 1, h => by rw [qS_succ h]; exact opQ_ok (qS_ok ha k (by omega)) (ha _ (gmm _))
theorem qS_act (l : List OpR) : ∀ k, k ≤ l.length → ActV (qS l k).1
  | 0, _ => fun w hw => by simp [qS] at hw
  | k + 1, h => by
    rw [qS_succ h]; have := qS_act l k (by omega); unfold opQ; split
    · exact this.leave _ _
    · exact this.want _
def Due0 (V : List Wsh) : Prop := ∀ w ∈ V, w.2 = 0
theorem Due0.set {s : SSt} (h : Due0 s.1) (a : Acc) : Due0 (setS s a 0).1.1 := by
  unfold setS; split
  · exact h
  · intro w hw; rcases mem_putK.1 hw with rfl | ⟨h1, _⟩
    · rfl
    · exact h w h1
theorem qS_due (l : List OpR) : ∀ k, k ≤ l.length → Due0 (qS l k).1
  | 0, _ => fun w hw => by simp [qS] at hw
  | k + 1, h => by
    rw [qS_succ h]; have := qS_due l k (by omega); unfold opQ leaveS wantS
    (repeat' split) <;> first | exact this | exact this.set _
theorem setS_q (s : SSt) (a : Acc) (due : Int) : (setS s a due).1.2 = if (setS s a due).2 ≠ 0 ∨ a.1 ∈ s.2 then s.2 else s.2 ++ [a.1] := by
  unfold setS; split
  · simp
  · simp only [ne_eq, not_true, false_or]
theorem opQ_q (s : SSt) (o : OpR) : (opQ s o).1.2 = if (opQ s o).2 ≠ 0 ∨ o.2.1.1 ∈ s.2 then s.2 else s.2 ++ [o.2.1.1] := by
  unfold opQ; split
  · unfold leaveS; split
    · simp
    · exact setS_q s _ _
  · unfold wantS; split
    · rename_i h; simp [h]
    · exact setS_q s (ownA o.2.1) 0
theorem addC_low (now : Int) : 0 ≤ addC now 0 := by unfold addC limC; omega
theorem due0_q {now : Int} {k : Nat} {s : SSt} (h : GS k s) (hd : Due0 s.1) : DueQ now s.1 s.2 := fun id hi => by
  have h1 := h.si.sub id hi; rw [hasK_get] at h1; obtain ⟨w, hw⟩ := Option.isSome_iff_exists.1 h1; exact ⟨w, hw, by rw [hd w (getK_some hw).1]; exact addC_low now⟩
theorem any_memS {l : List Str} {i : Str} : l.any (fun x => decide (x = i)) = decide (i ∈ l) := by
  rw [Bool.eq_iff_iff]; simp
theorem any_takeS {l : List Str} {i : Str} {k : Nat} (h : k < l.length) : (l.take (k + 1)).any (fun x => decide (x = i)) = ((l.take k).any (fun x => decide (x = i)) || decide (l[k] = i)) := by
  rw [take_s h, List.any_append]; simp
def QuI (F : List Int) (l : List OpR) (now : Int) (pt u1 u2 ps u : Nat) (k : Nat) (τ : St) : Prop := ∃ hd,
  τ 0 = .d (ints F) ∧ τ 1 = .d (oprs l) ∧ τ 2 = .d (.int .i64 now) ∧ τ 7 = .d (.raw (va pt)) ∧ τ 8 = .d (.raw (va ps)) ∧ τ 10 = .own true 9 ((qS l k).2.map .str) ∧ τ 11 = .d (.int .i64 k) ∧ [1000003, 1000004, 1000005, 1000000, 1000001, 1000002].map τ = sy ps u hd 1000 (qS l k) ++ tg pt u1 u2 F ([], 0) ∧ τ 1000010 = .undef
def QuJ (F : List Int) (l : List OpR) (now : Int) (pt u1 u2 ps u : Nat) (k : Nat) (W : List Str) (i : Str) (e : Int) (s : SSt) (j : Nat) (τ : St) : Prop := ∃ hd,
  τ 0 = .d (ints F) ∧ τ 1 = .d (oprs l) ∧ τ 2 = .d (.int .i64 now) ∧ τ 7 = .d (.raw (va pt)) ∧ τ 8 = .d (.raw (va ps)) ∧ τ 10 = .own true 9 (W.map .str) ∧ τ 11 = .d (.int .i64 k) ∧ τ 12 = .d (.str i) ∧ τ 14 = .d (.bool (decide (e ≠ 0) || (W.take j).any fun x => decide (x = i))) ∧ τ 15 = .d (.int .i64 j) ∧ [1000003, 1000004, 1000005, 1000000, 1000001, 1000002].map τ = sy ps u hd 1000 s ++ tg pt u1 u2 F ([], 0) ∧ τ 1000010 = .undef
def QvI (F : List Int) (W X : List Str) (i : Nat) (τ : St) : Prop := ∃ k : Nat, τ 0 = .d (ints F) ∧ τ 10 = .own true 9 (W.map .str) ∧ τ 17 = .d (strs X) ∧ τ 18 = .d (.int .i64 k) ∧ τ 19 = .d (.int .i64 i) ∧ k ≤ W.length ∧ (X.drop i).Sublist (W.drop k)
def QvJ (F : List Int) (W X : List Str) (i k0 j : Nat) (τ : St) : Prop := τ 0 = .d (ints F) ∧ τ 10 = .own true 9 (W.map .str) ∧ τ 17 = .d (strs X) ∧ τ 18 = .d (.int .i64 (k0 + j : Nat)) ∧ τ 19 = .d (.int .i64 i) ∧ (X.drop i).Sublist (W.drop (k0 + j))
theorem sub_ne {x y : Str} {l m : List Str} (h : (x :: l).Sublist (y :: m)) (hne : ¬ y = x) : (x :: l).Sublist m := by
  cases h with
  | cons _ h => exact h
  | cons_cons _ h => exact absurd rfl hne
theorem queue_fn (F : List Int) (hF : F.length ≤ 140737488351232) (l : List OpR) (hl : l.length ≤ 140737488351232) (hr : ∀ o ∈ l, RchA o.2.1) (now : Int) (hnow : -9223372036854775808 ≤ now ∧ now < 9223372036854775808) : Ctr prog 7 [.d (ints F), .d (oprs l), .d (.int .i64 now)] (.d (.bool true)) := by
  refine fv (fun i => i == 5000030 || i == 5000032 || i == 5000065 || i == 5000072 || i == 10 || i == 5000097 || i == 21000098 || i == 5000099 || i == 5000104 || i == 5000106 || i == 22000108 || i == 5000113) func7 (by kernel_rfl) rfl rfl rfl rfl rfl ?_; by_cases h30 : F.length ≤ 30
  case neg =>
    have h30' : (30 : Int) < F.length := (by omega); simp -implicitDefEqProofs [ints, h30']; refine callK alive_fn ?_; simp -implicitDefEqProofs
  have h30' : ¬ (30 : Int) < F.length := (by omega); have cf := few_fn l hl hr; cases hfw : fewO l with
  | false =>
    rw [hfw] at cf; simp -implicitDefEqProofs [ints, h30']; refine callK cf ?_; simp -implicitDefEqProofs [ints, h30']; refine callK alive_fn ?_; simp -implicitDefEqProofs
  | true =>
    rw [hfw] at cf; have hfw2 := hfw; simp only [fewO, Bool.and_eq_true, List.all_eq_true, decide_eq_true_eq] at hfw2; obtain ⟨hac, hl20⟩ := hfw2; have hacc : ∀ o ∈ l, AccF o.2.1 := fun o ho => accB_f (hac o ho)
    have c1 := newTarget_fn F (by omega); simp -implicitDefEqProofs [ints, h30']; refine callK cf ?_; simp -implicitDefEqProofs [ints, h30']; refine givB [] 1000000 c1 (by simp) rfl (by simp) ?_; rintro r hs' ⟨pt, u1, u2, rfl, rfl⟩; simp -implicitDefEqProofs [takeH, putH, sy, tg, ints]; refine givB [] 1000003 (newSync_fn 1000) (by simp) rfl (by simp) ?_; rintro r hs' (⟨h, _⟩ | ⟨_, ps, u, rfl, rfl⟩)
    · omega
    simp -implicitDefEqProofs [takeH, putH, sy, tg, ints]; refine loopN l.length (QuI F l now pt u1 u2 ps u) ⟨_, by simp [ints], by simp [oprs], by simp, by simp, by simp, by simp [qS], by simp, by simp [tg, sy, qS]; rfl, by simp⟩ ?_; rintro k τ hk ⟨hd, g0, g1, g2, g7, g8, g10, g11, gT, gU⟩; simp only [sy, tg, List.map_cons, List.map_nil, List.cons_append, List.nil_append, List.cons.injEq, and_true] at gT; obtain ⟨qA, qB, qC, qD, qE, qF⟩ := gT; have hsg := qS_ok hacc k hk; by_cases hlt : k < l.length
    · have hlt' : (k : Int) < l.length := (by omega); have e1 : (l.map oprD)[k]? = some (oprD l[k]) := (by simp [hlt]); have hs := qS_succ hlt; have ha := hacc _ (gmm hlt); have hq := opQ_q (qS l k) l[k]; generalize qS l k = s at *; generalize hx : l[k] = x at *; obtain ⟨xk, xa, xn⟩ := x; have hA : oprD (xk, xa, xn) = .agg [.int .i64 xk, accD xa, .int .i64 xn] := rfl; have haD : accD xa = .agg [.str xa.1, .bool xa.2.1, atts xa.2.2] := rfl; simp only at ha hq; simp -implicitDefEqProofs [takeH, putH, g0, g1, g2, g7, g8, g10, g11, qA, qB, qC, qD, qE, qF, oprs, tg, sy, hlt, hlt', hx, hA, haD]; by_cases m5 : xk = 5
      · have hop : opQ s (xk, xa, xn) = leaveS s xa.1 0 := (by simp [opQ, m5]); have c3 := leaveG ps u hd 1000 hsg (by omega) ha.id (now := 0) (by omega); rw [← hop] at c3; generalize opQ s (xk, xa, xn) = R at *; simp -implicitDefEqProofs [takeH, putH, g0, g1, g2, g7, g8, g10, g11, qA, qB, qC, qD, qE, qF, oprs, tg, sy, m5]; refine givB [1000003, 1000004, 1000005] 1000010 c3 (by simp [qA, qB, qC, qD, qE, qF, tg, sy]) rfl (by simp) ?_; rintro r hs' ⟨rfl, h2, rfl⟩; simp -implicitDefEqProofs [takeH, putH, g0, g1, g2, g7, g8, g10, g11, qA, qB, qC, qD, qE, qF, oprs, tg, sy, hlt, hlt', hx, hA]; refine loopN s.2.length (QuJ F l now pt u1 u2 ps u k s.2 xa.1 R.2 R.1) ⟨_, by simp [g0], by simp [g1], by simp [g2], by simp [g7], by simp [g8], by simp [g10], by simp [g11], by simp, by simp, by simp, by simp [qD, qE, qF, tg, sy]; rfl, by simp [gU]⟩ ?_; clear g0 g1 g2 g7 g8 g10 g11 qA qB qC qD qE qF gU; rintro j τ2 hj ⟨hd2, f0, f1, f2, f7, f8, f10, f11, f12, f14, f15, fT, fU⟩; simp only [sy, tg, List.map_cons, List.map_nil, List.cons_append, List.nil_append, List.cons.injEq, and_true] at fT; obtain ⟨rA, rB, rC, rD, rE, rF⟩ := fT; by_cases hjt : j < s.2.length
        · have hjt' : (j : Int) < s.2.length := (by omega); have hsl := hsg.q; have e2 : (s.2.map D.str)[j]? = some (.str s.2[j]) := (by simp [hjt]); have hat := any_takeS (i := xa.1) hjt; generalize hy : s.2[j] = y at *; cases hfl : (decide (R.2 ≠ 0) || (s.2.take j).any (fun x => decide (x = xa.1))) with
          | true =>
            rw [hfl] at f14; simp -implicitDefEqProofs [takeH, putH, f0, f1, f2, f7, f8, f10, f11, f12, f14, f15, rA, rB, rC, rD, rE, rF, fU, tg, sy, hjt, hjt', hy]; exact ⟨by omega, again hjt ⟨_, by simp [f0], by simp [f1], by simp [f2], by simp [f7], by simp [f8], by simp [f10], by simp [f11], by simp [f12], by simp only [hat, ← Bool.or_assoc, hfl]; simp, by simp, by simp [rA, rB, rC, rD, rE, rF, tg, sy]; rfl, by simp [fU]⟩⟩
          | false =>
            rw [hfl] at f14; simp -implicitDefEqProofs [takeH, putH, f0, f1, f2, f7, f8, f10, f11, f12, f14, f15, rA, rB, rC, rD, rE, rF, fU, tg, sy, hjt, hjt', hy]; exact ⟨by omega, again hjt ⟨_, by simp [f0], by simp [f1], by simp [f2], by simp [f7], by simp [f8], by simp [f10], by simp [f11], by simp [f12], by simp only [hat, ← Bool.or_assoc, hfl]; simp, by simp, by simp [rA, rB, rC, rD, rE, rF, tg, sy]; rfl, by simp [fU]⟩⟩
        · have hjt' : ¬ (j : Int) < s.2.length := (by omega); obtain rfl : j = s.2.length := by omega
          rw [List.take_length, any_memS] at f14; by_cases hin : R.2 ≠ 0 ∨ xa.1 ∈ s.2
          · rw [if_pos hin] at hq; rw [show (decide (R.2 ≠ 0) || decide (xa.1 ∈ s.2)) = true by simpa [Bool.or_eq_true] using hin] at f14; simp -implicitDefEqProofs [takeH, putH, f0, f1, f2, f7, f8, f10, f11, f12, f14, f15, rA, rB, rC, rD, rE, rF, fU, tg, sy, hjt, hjt']; exact ⟨by omega, again hlt ⟨_, by simp [f0], by simp [f1], by simp [f2], by simp [f7], by simp [f8], by simp [f10, hs, hq], by simp, by simp [rA, rB, rC, rD, rE, rF, tg, sy, hs]; rfl, by simp [fU]⟩⟩
          · rw [if_neg hin] at hq; rw [show (decide (R.2 ≠ 0) || decide (xa.1 ∈ s.2)) = false by simpa [Bool.or_eq_false_iff, not_or] using hin] at f14; have hsl := hsg.q; simp -implicitDefEqProofs [takeH, putH, f0, f1, f2, f7, f8, f10, f11, f12, f14, f15, rA, rB, rC, rD, rE, rF, fU, tg, sy, hjt, hjt']; exact ⟨by omega, by omega, by omega, again hlt ⟨_, by simp [f0], by simp [f1], by simp [f2], by simp [f7], by simp [f8], by simp [hs, hq], by simp, by simp [rA, rB, rC, rD, rE, rF, tg, sy, hs]; rfl, by simp [fU]⟩⟩
      · have hop : opQ s (xk, xa, xn) = wantS s xa := (by simp [opQ, m5]); have c3 := wantG ps u hd 1000 hsg (by omega) ha; rw [← hop] at c3; rw [haD] at c3; generalize opQ s (xk, xa, xn) = R at *; simp -implicitDefEqProofs [takeH, putH, g0, g1, g2, g7, g8, g10, g11, qA, qB, qC, qD, qE, qF, oprs, tg, sy, m5]; refine givB [1000003, 1000004, 1000005] 1000010 c3 (by simp [qA, qB, qC, qD, qE, qF, tg, sy]) rfl (by simp) ?_; rintro r hs' ⟨rfl, h2, rfl⟩; simp -implicitDefEqProofs [takeH, putH, g0, g1, g2, g7, g8, g10, g11, qA, qB, qC, qD, qE, qF, oprs, tg, sy, hlt, hlt', hx, hA]; refine loopN s.2.length (QuJ F l now pt u1 u2 ps u k s.2 xa.1 R.2 R.1) ⟨_, by simp [g0], by simp [g1], by simp [g2], by simp [g7], by simp [g8], by simp [g10], by simp [g11], by simp, by simp, by simp, by simp [qD, qE, qF, tg, sy]; rfl, by simp [gU]⟩ ?_; clear g0 g1 g2 g7 g8 g10 g11 qA qB qC qD qE qF gU; rintro j τ2 hj ⟨hd2, f0, f1, f2, f7, f8, f10, f11, f12, f14, f15, fT, fU⟩; simp only [sy, tg, List.map_cons, List.map_nil, List.cons_append, List.nil_append, List.cons.injEq, and_true] at fT; obtain ⟨rA, rB, rC, rD, rE, rF⟩ := fT; by_cases hjt : j < s.2.length
        · have hjt' : (j : Int) < s.2.length := (by omega); have hsl := hsg.q; have e2 : (s.2.map D.str)[j]? = some (.str s.2[j]) := (by simp [hjt]); have hat := any_takeS (i := xa.1) hjt; generalize hy : s.2[j] = y at *; cases hfl : (decide (R.2 ≠ 0) || (s.2.take j).any (fun x => decide (x = xa.1))) with
          | true =>
            rw [hfl] at f14; simp -implicitDefEqProofs [takeH, putH, f0, f1, f2, f7, f8, f10, f11, f12, f14, f15, rA, rB, rC, rD, rE, rF, fU, tg, sy, hjt, hjt', hy]; exact ⟨by omega, again hjt ⟨_, by simp [f0], by simp [f1], by simp [f2], by simp [f7], by simp [f8], by simp [f10], by simp [f11], by simp [f12], by simp only [hat, ← Bool.or_assoc, hfl]; simp, by simp, by simp [rA, rB, rC, rD, rE, rF, tg, sy]; rfl, by simp [fU]⟩⟩
          | false =>
            rw [hfl] at f14; simp -implicitDefEqProofs [takeH, putH, f0, f1, f2, f7, f8, f10, f11, f12, f14, f15, rA, rB, rC, rD, rE, rF, fU, tg, sy, hjt, hjt', hy]; exact ⟨by omega, again hjt ⟨_, by simp [f0], by simp [f1], by simp [f2], by simp [f7], by simp [f8], by simp [f10], by simp [f11], by simp [f12], by simp only [hat, ← Bool.or_assoc, hfl]; simp, by simp, by simp [rA, rB, rC, rD, rE, rF, tg, sy]; rfl, by simp [fU]⟩⟩
        · have hjt' : ¬ (j : Int) < s.2.length := (by omega); obtain rfl : j = s.2.length := by omega
          rw [List.take_length, any_memS] at f14; by_cases hin : R.2 ≠ 0 ∨ xa.1 ∈ s.2
          · rw [if_pos hin] at hq; rw [show (decide (R.2 ≠ 0) || decide (xa.1 ∈ s.2)) = true by simpa [Bool.or_eq_true] using hin] at f14; simp -implicitDefEqProofs [takeH, putH, f0, f1, f2, f7, f8, f10, f11, f12, f14, f15, rA, rB, rC, rD, rE, rF, fU, tg, sy, hjt, hjt']; exact ⟨by omega, again hlt ⟨_, by simp [f0], by simp [f1], by simp [f2], by simp [f7], by simp [f8], by simp [f10, hs, hq], by simp, by simp [rA, rB, rC, rD, rE, rF, tg, sy, hs]; rfl, by simp [fU]⟩⟩
          · rw [if_neg hin] at hq; rw [show (decide (R.2 ≠ 0) || decide (xa.1 ∈ s.2)) = false by simpa [Bool.or_eq_false_iff, not_or] using hin] at f14; have hsl := hsg.q; simp -implicitDefEqProofs [takeH, putH, f0, f1, f2, f7, f8, f10, f11, f12, f14, f15, rA, rB, rC, rD, rE, rF, fU, tg, sy, hjt, hjt']; exact ⟨by omega, by omega, by omega, again hlt ⟨_, by simp [f0], by simp [f1], by simp [f2], by simp [f7], by simp [f8], by simp [hs, hq], by simp, by simp [rA, rB, rC, rD, rE, rF, tg, sy, hs]; rfl, by simp [fU]⟩⟩
    · have hlt' : ¬ (k : Int) < l.length := (by omega); obtain rfl : k = l.length := by omega
      have hact := qS_act l l.length (Nat.le_refl _); have hdue := due0_q (now := now) hsg (qS_due l l.length (Nat.le_refl _)); generalize qS l l.length = s at *; obtain ⟨hn1, hn2⟩ := fold_due (F := F) (now := now) (delay := 1000) s.2 ⟨([], 0), s.1, [], 0⟩ hsg.si.ord hsg.si.nodup hdue; have hcl := fold_clear (F := F) (now := now) (delay := 1000) s.2 ⟨([], 0), s.1, [], 0⟩ hsg.si.ord List.Pairwise.nil hsg.si.nodup hdue hact (by have := hsg.q; simp; omega); have hsub := stepL_left (F := F) (now := now) (delay := 1000) (t := ([], 0)) (V := s.1) (q := s.2); have hst := step_ok (F := F) (now := now) (delay := 1000) hsg GT.zero; have c6 := step_fn hsg GT.zero (by omega) (by omega) ps u hd 1000 (by omega) pt u1 u2 F now hnow
      change (stepL F now 1000 ([], 0) s.1 s.2).n = _ at hn1
      change (stepL F now 1000 ([], 0) s.1 s.2).t.2 = _ at hn2
      change _ → (stepL F now 1000 ([], 0) s.1 s.2).left = _ at hcl
      generalize stepL F now 1000 ([], 0) s.1 s.2 = R at *; simp only [Int.zero_add] at hn1 hn2; have c4 := leftG ps u hd 1000 hsg (by omega); simp -implicitDefEqProofs [takeH, putH, g0, g1, g2, g7, g8, g10, g11, qA, qB, qC, qD, qE, qF, oprs, tg, sy, hlt, hlt']; refine givB [1000003, 1000004, 1000005] 1000010 c4 (by simp [qA, qB, qC, qD, qE, qF, tg, sy]) rfl (by simp) ?_; rintro r hs' ⟨rfl, rfl⟩; simp -implicitDefEqProofs [takeH, putH, g0, g1, g2, g7, g8, g10, g11, qA, qB, qC, qD, qE, qF, oprs, tg, sy, hlt, hlt']; refine namK 1000010 (by omega) (by simp [gU]) (fun A c => ?_); simp -implicitDefEqProofs [takeH, putH, g0, g1, g2, g7, g8, g10, g11, qA, qB, qC, qD, qE, qF, oprs, tg, sy, ]; have c5 := CtrG.lend (pre := [.d (strs s.2)]) (post := []) (u := .slice A (s.2.map D.str).length c) (e := 9) (lists07_fn s.2 s.2 (by have := hsg.q; omega) (by have := hsg.q; omega)) (by simp) rfl; simp only [List.length_map] at c5; refine givB [1000010] 1000020 c5 (by simp) rfl (by simp) ?_; rintro r hs' ⟨rfl, rfl⟩; simp -implicitDefEqProofs [takeH, putH, g0, g1, g2, g7, g8, g10, g11, qA, qB, qC, qD, qE, qF, oprs, tg, sy, ]; refine givB [1000003, 1000004, 1000005, 1000000, 1000001, 1000002] 1000010 c6 (by simp [qA, qB, qC, qD, qE, qF, tg, sy]) rfl (by simp) ?_; rintro r hs' ⟨rfl, h6, rfl⟩; simp -implicitDefEqProofs [takeH, putH, g0, g1, g2, g7, g8, g10, g11, qA, qB, qC, qD, qE, qF, oprs, tg, sy, ]; have c7 := leftG ps u h6 1000 hst.1 (by omega); refine givB [1000003, 1000004, 1000005] 1000010 c7 (by simp [qA, qB, qC, qD, qE, qF, tg, sy]) rfl (by simp) ?_; rintro r hs' ⟨rfl, rfl⟩; simp -implicitDefEqProofs [takeH, putH, g0, g1, g2, g7, g8, g10, g11, qA, qB, qC, qD, qE, qF, oprs, tg, sy, ]; refine unK (u := .slice A s.2.length c) (e := 9) (l := s.2.map .str) 1000010 (by omega) (by simp) (by simp) ?_; have c8 := tcalls_fn pt u1 u2 F R.t; simp -implicitDefEqProofs [takeH, putH, g0, g1, g2, g7, g8, g10, g11, qA, qB, qC, qD, qE, qF, oprs, tg, sy, hn1, hn2]; refine givB [1000000, 1000001, 1000002] 1000020 c8 (by simp [tg, hn2]) rfl (by simp) ?_; rintro r hs' ⟨rfl, rfl⟩; have hll := hsub.length_le; have hll' : ¬ (s.2.length : Int) < R.left.length := (by omega); have hle := hst.1.q; simp -implicitDefEqProofs [takeH, putH, g0, g1, g2, g7, g8, g10, g11, qA, qB, qC, qD, qE, qF, oprs, tg, sy, hn1, hn2, hll', strs]; have hend : (0 : Int) < F.length ∨ R.left = [] := by
        rcases F with _ | ⟨f, F⟩
        · exact .inr (hcl (by simp))
        · left; simp only [List.length_cons]; omega
      have hsq := hsg.q; generalize s.2 = W at *; generalize R.left = X at *; refine loopN X.length (QvI F W X) ⟨0, by simp [ints, g0], by simp, by simp [strs], by simp, by simp, by omega, by simpa using hsub⟩ ?_; clear g0 g1 g2 g7 g8 g10 g11 qA qB qC qD qE qF gU; rintro i τ3 hi ⟨k0, g0, g10, g17, g18, g19, hk0, hsub2⟩; by_cases hit : i < X.length
      · have hit' : (i : Int) < X.length := (by omega); have hxd : X.drop i = X[i] :: X.drop (i + 1) := List.drop_eq_getElem_cons hit; have e3 : (X.map D.str)[i]? = some (.str X[i]) := (by simp [hit]); simp -implicitDefEqProofs [g0, g10, g17, g18, g19, strs, hit, hit']; refine loopN (W.length - k0) (QvJ F W X i k0) ⟨by simp [g0], by simp [g10], by simp [g17, strs], by simp [g18], by simp [g19], by simpa using hsub2⟩ ?_; clear g0 g10 g17 g18 g19; rintro j τ4 hj ⟨g0, g10, g17, g18, g19, hsub3⟩; obtain ⟨n, hn⟩ : ∃ n, k0 + j = n := ⟨_, rfl⟩; rw [hn] at g18 hsub3; by_cases hjt : n < W.length
        · have hjt' : (n : Int) < W.length := (by omega); have hwd : W.drop n = W[n] :: W.drop (n + 1) := List.drop_eq_getElem_cons hjt; have e4 : (W.map D.str)[n]? = some (.str W[n]) := (by simp [hjt]); rw [hxd, hwd] at hsub3; have hn1 : (n : Int) + 1 = ((k0 + (j + 1) : Nat) : Int) := (by omega); by_cases hxy : W[n] = X[i]
          · have hne : ¬ (n : Int) = W.length := (by omega); simp -implicitDefEqProofs [g0, g10, g17, g18, g19, strs, hit, hit', hjt, hjt', hxy, hne]; refine ⟨by omega, again hit ⟨n, by simp [g0], by simp [g10], by simp [g17, strs], by simp [g18], by simp, by omega, ?_⟩⟩; rw [hwd]; exact (List.sublist_cons_self _ _).trans hsub3
          · simp -implicitDefEqProofs [g0, g10, g17, g18, g19, strs, hit, hit', hjt, hjt', hxy]; refine ⟨by omega, again (by omega) ⟨by simp [g0], by simp [g10], by simp [g17, strs], by simp [hn1], by simp [g19], ?_⟩⟩; rw [hxd, show k0 + (j + 1) = n + 1 by omega]; exact sub_ne hsub3 hxy
        · exfalso
          have hnil : W.drop n = [] := List.drop_eq_nil_of_le (by omega); rw [hnil, hxd] at hsub3; cases hsub3
      · have hit' : ¬ (i : Int) < X.length := (by omega); rcases F with _ | ⟨f, F⟩
        · have hX : X = [] := hend.resolve_left (by simp); subst hX; simp -implicitDefEqProofs [g0, g10, g17, g18, g19, strs, ints]; refine callK alive_fn ?_; simp -implicitDefEqProofs [g0, g10, g17, g18, g19, strs, ]
        · have hf : (0 : Int) < F.length + 1 := (by omega); simp -implicitDefEqProofs [g0, g10, g17, g18, g19, strs, hit, hit', ints, hf]; refine callK alive_fn ?_; simp -implicitDefEqProofs [g0, g10, g17, g18, g19, strs, ]
end Go.Proofs.Tz
namespace Go.Proofs.Tz
open Go.Vw Go.RowKit Go.Proofs
theorem ReconcileQueue_ok (F : List Int) (l : List OpB) (now : I64) (hb : D.lims 140737488351232 [ints F, opbs l, i64D now]) : Ctr prog 7 [.d (ints F), .d (opbs l), .d (i64D now)] (.d (.bool true)) := by
  obtain ⟨h1, h2, _⟩ := hb; rw [opbs_eq]; exact queue_fn F (rch_ints h1) _ (rch_opbs h2).1 (rch_opbs h2).2 now.1 now.2
end Go.Proofs.Tz