/-
  What the functions that the statements about references reach compute, part 3 of 6, for data of bounded size (each theorem states its bound).
-/import Derived.Test.YtcmocioniaggoaaGreatDoorTb
import Derived.Test.YtcmocioniaggoaaGreatDoorTa
import Derived.Test.YtcmocioniaggoaaGreatDoorWc
open Go.Proofs.Tryz
set_option linter.unusedSimpArgs false
set_option linter.unusedVariables false
namespace Go.Proofs.Tz
open Go.Vw
set_option maxRecDepth 100000
set_option maxHeartbeats 8000000
theorem sortedQ_fn (x : Str × Sl) (n : Str) : Ctr prog 92 [.d (rw2 x), .d (.ref (.str n))] (.d (.bool (decide (x.1 = n)))) := by
  refine fv (fun _ => false) func92 (by kernel_rfl) rfl rfl rfl rfl rfl ?_; simp -implicitDefEqProofs [rw2]
theorem emptyQ_fn (x : Str × Sl) : Ctr prog 94 [.d (rw2 x)] (.d (.bool (decide (x.2.2.1 = 0)))) := by
  refine fv (fun _ => false) func94 (by kernel_rfl) rfl rfl rfl rfl rfl ?_; simp -implicitDefEqProofs [rw2]
abbrev Row := Str × Sl × List Str
def pr (r : Row) : Str × Sl := (r.1, r.2.1)
def nv (r : Row) : Att := (r.1, r.2.2)
def hd (r : Row) : Value := .slice r.2.1.1 r.2.1.2.1 r.2.1.2.2
def rowD (r : Row) : D := rw2 (pr r)
def hnd (r : Row) : AV := .hs (hd r) 9 (r.2.2.map .str)
theorem idxR_map {α β : Type} (f : α → β) (p : β → Bool) : ∀ (l : List α) (k : Nat), idxR p k (l.map f) = idxR (fun x => p (f x)) k l
  | [], _ => rfl
  | x :: l, k => by simp only [List.map_cons, idxR, idxR_map f p l (k + 1)]
def addG (acc : List Att) (a : Att) : List Att :=
  if idxR (fun x : Att => decide (x.1 = lower a.1)) 0 acc = -1 then acc ++ [(lower a.1, a.2)] else acc.modify (idxR (fun x : Att => decide (x.1 = lower a.1)) 0 acc).toNat fun x => (x.1, x.2 ++ a.2)
def grp (l : List Att) : List Att := l.foldl addG []
theorem grp_take {l : List Att} {k : Nat} (h : k < l.length) : grp (l.take (k + 1)) = addG (grp (l.take k)) l[k] := by
  rw [take_s h]; simp only [grp, List.foldl_append, List.foldl_cons, List.foldl_nil]
theorem grp_len (l : List Att) : (grp l).length ≤ l.length := by
  have key : ∀ (l acc : List Att), (l.foldl addG acc).length ≤ acc.length + l.length := by
    intro l
    induction l with
    | nil => intro acc; simp
    | cons a l ih =>
      intro acc; have := ih (addG acc a); have h2 : (addG acc a).length ≤ acc.length + 1 := by
        unfold addG; split <;> simp
      simp only [List.foldl_cons, List.length_cons]; omega
  simpa [grp] using key l []
theorem total_app (a b : List Att) : total (a ++ b) = total a + total b := by simp [total]
theorem total_modify (f : Att → Att) (n : Nat) : ∀ (acc : List Att) (i : Nat), (∀ x, (f x).2.length = x.2.length + n) → i < acc.length → total (acc.modify i f) = total acc + n
  | [], i, _, h => by simp at h
  | x :: acc, 0, hf, _ => by simp [total, List.modify_cons, hf]; omega
  | x :: acc, i + 1, hf, h => by
    have := total_modify f n acc i hf (by simpa using h); simp only [total, List.modify_succ_cons, List.map_cons, List.sum_cons] at this ⊢; omega
theorem total_addG (acc : List Att) (a : Att) : total (addG acc a) = total acc + a.2.length := by
  unfold addG; split
  · rw [total_app]; simp [total]
  · rename_i h
    obtain ⟨i, h1, h2, _⟩ := idxR_pos _ acc 0 h; rw [h1]; exact total_modify _ _ _ _ (fun x => by simp) (by simpa using h2)
theorem total_grp (l : List Att) : total (grp l) = total l := by
  have key : ∀ (l acc : List Att), total (l.foldl addG acc) = total acc + total l := by
    intro l
    induction l with
    | nil => intro acc; simp [total]
    | cons a l ih =>
      intro acc; rw [List.foldl_cons, ih, total_addG]; simp only [total, List.map_cons, List.sum_cons]; omega
  have := key l []; simpa [grp, total] using this
theorem total_mem {l : List Att} {x : Att} (h : x ∈ l) : x.2.length ≤ total l := by
  induction l with
  | nil => simp at h
  | cons y l ih =>
    simp only [total, List.map_cons, List.sum_cons] at ih ⊢; rcases List.mem_cons.1 h with rfl | h
    · omega
    · have := ih h; omega
theorem modify_set {α : Type} (f : α → α) : ∀ (l : List α) (i : Nat) (x : α), l[i]? = some x → l.modify i f = l.set i (f x)
  | [], i, x, h => by simp at h
  | y :: l, 0, x, h => by
    simp only [List.getElem?_cons_zero, Option.some.injEq] at h; subst h; rfl
  | y :: l, i + 1, x, h => by
    simp only [List.getElem?_cons_succ] at h; simp [List.modify_succ_cons, modify_set f l i x h]
theorem hh_ne (i d : Nat) (h : d < 1000000) : (1000000 + i = d) = False := by simp; omega
theorem hh_ne' (i d : Nat) (h : d < 1000000) : (d = 1000000 + i) = False := by simp; omega
theorem sd42 : structDX prog true 89 = some [.str [], .raw (.slice none 0 0)] := by kernel_rfl
def okLen (rs : List Row) : Prop := ∀ r ∈ rs, r.2.1.2.1 = r.2.2.length
def slotsG : Nat → Bool := fun i => i == 3 || i == 44 || i == 1000027 || i == 2000020 || i == 3000055 || i == 4000063 || i == 3000068
abbrev QRow := Row × Nat
def q1 (q : QRow) : D := rowD q.1
def Named (qs : List QRow) (τ : St) : Prop := (qs.map (·.2)).Nodup ∧ ∀ q ∈ qs, τ (1000000 + q.2) = hnd q.1
def normA (a : Att) : Att := (a.1, Go.Lib.compact (sortS a.2))
def nonE (a : Att) : Bool := !decide (a.2 = [])
def ByName (m : List (Str × Sl)) : Prop := ∀ i j (_ : i < j) (hj : j < m.length), Op.bytesLess m[j].1 (m[i]'(by omega)).1 = false
theorem perm_lift {α β : Type} (f : α → β) {m m' : List β} (h : m.Perm m') : ∀ l : List α, l.map f = m' → ∃ l' : List α, l'.Perm l ∧ l'.map f = m := by
  induction h with
  | nil => intro l hl; exact ⟨l, .refl _, hl⟩
  | cons x p ih =>
    intro l hl; cases l with
    | nil => simp at hl
    | cons a t =>
      simp only [List.map_cons, List.cons.injEq] at hl; obtain ⟨t', h1, h2⟩ := ih t hl.2; exact ⟨a :: t', h1.cons a, by simp [hl.1, h2]⟩
  | swap x y l0 =>
    intro l hl
    match l, hl with
    | a :: b :: t, hl =>
      simp only [List.map_cons, List.cons.injEq] at hl; exact ⟨b :: a :: t, .swap _ _ _, by simp [hl.1, hl.2.1, hl.2.2]⟩
  | trans h1 h2 ih1 ih2 =>
    intro l hl; obtain ⟨l2, p2, e2⟩ := ih2 l hl; obtain ⟨l1, p1, e1⟩ := ih1 l2 e2; exact ⟨l1, p1.trans p2, e1⟩
theorem zip_mem {rs : List Row} {q : QRow} (h : q ∈ rs.zipIdx) : ∃ hi : q.2 < rs.length, rs[q.2] = q.1 := by
  obtain ⟨r, i⟩ := q; have := List.mem_zipIdx_iff_getElem?.1 h; exact ⟨(List.getElem?_eq_some_iff.1 this).1, (List.getElem?_eq_some_iff.1 this).2⟩
theorem sortedG_fn (l : List Att) (hl : Fit2 l) : CtrG prog 45 [.d (atts l)] [] (fun r hs => ∃ rs : List Row, r = .own true 89 (rs.map rowD) ∧ hs = rs.map hnd ∧ (rs.map nv).Perm (((grp l).filter nonE).map normA) ∧ ∀ i j (_ : i < j) (hj : j < rs.length), Op.bytesLess rs[j].1 (rs[i]'(by omega)).1 = false) := by
  refine fn_of_vwpG slotsG (by kernel_rfl) func45 (by kernel_rfl) rfl rfl (nbl rfl) (by kernel_rfl) rfl ?_; obtain ⟨⟨hl1, hl2⟩, hl3⟩ := hl; simp -implicitDefEqProofs [slotsG, initG, atts]; refine loopN l.length (fun k τ => τ 9 = .d (.sl (l.map att)) ∧ τ 10 = .d (.int .i64 l.length) ∧ τ 11 = .d (.int .i64 k) ∧ ∃ rs : List Row, τ 3 = .own true 89 (rs.map rowD) ∧ (∀ i (h : i < rs.length), τ (1000000 + i) = hnd rs[i]) ∧ (∀ i, rs.length ≤ i → τ (1000000 + i) = .undef) ∧ rs.map nv = grp (l.take k) ∧ okLen rs) ?_ ?_
  · refine ⟨by simp, by simp, by simp, [], by simp, by simp, fun i _ => ?_, by simp [grp], by simp [okLen]⟩; simp [initG, hh_ne]
  rintro k τ hk ⟨h9, h10, h11, rs, h3, hH, hU, hg, hlen⟩; by_cases hlt : k < l.length
  · simp -implicitDefEqProofs [slotsG, h9, h10, h11, h3, hlt, att, strs]; refine callK (foldLower_fn _ (hl2 _ (gmm hlt)).1) ?_; simp -implicitDefEqProofs [slotsG, h9, h10, h11, h3, hlt, att, strs]; have hrk : rs.length ≤ k := by
      have := grp_len (l.take k); rw [← hg] at this; simpa [Nat.min_eq_left (Nat.le_of_lt hlt)] using this
    have htot := total_take l k hlt; rw [← total_grp (l.take k), ← hg] at htot; have hmr : rs.map rowD = (rs.map pr).map rw2 := (by simp [rowD]); rw [hmr]; refine lendK (indexR_fn 92 [.ref (.str (lower l[k].1))] rfl (fun x => decide (x.1 = lower l[k].1)) (rs.map pr) (by simp; omega) (fun a _ => sortedQ_fn a _)) rfl ?_; rw [← hmr]; have hidx : idxR (fun x : Str × Sl => decide (x.1 = lower l[k].1)) 0 (rs.map pr) = idxR (fun x : Att => decide (x.1 = lower l[k].1)) 0 (grp (l.take k)) := by
      rw [← hg, idxR_map, idxR_map]; rfl
    rw [hidx]; have hnew := grp_take (l := l) hlt; by_cases hn : idxR (fun x : Att => decide (x.1 = lower l[k].1)) 0 (grp (l.take k)) = -1
    · simp -implicitDefEqProofs [slotsG, h9, h10, h11, h3, hlt, att, strs, hn, sd42]; refine ⟨by omega, by omega, appK0 (1000000 + rs.length) (by simp [hh_ne, hU]) (by simp) (by simp; omega) (by simp; omega) (fun A c => ?_)⟩; simp -implicitDefEqProofs [slotsG, h9, h10, h11, h3, hlt, att, strs, hn, sd42, hh_ne, hh_ne']; refine ⟨by omega, again hlt ⟨by simp [h9, hh_ne, hh_ne'], by simp [h10, hh_ne, hh_ne'], by simp [hh_ne, hh_ne'], rs ++ [(lower l[k].1, (A, l[k].2.length, c), l[k].2)], ?_, fun i hi => ?_, fun i hi => ?_, ?_, ?_⟩⟩
      · simp [hh_ne, hh_ne', rowD, rw2, pr, List.set_append]
      · simp only [List.length_append, List.length_cons, List.length_nil] at hi; by_cases hi2 : i < rs.length
        · have hne : ¬ (i = rs.length) := (by omega); simp [hh_ne, hh_ne', hH i hi2, hnd, hne, List.getElem_append_left hi2]
        · have hie : i = rs.length := (by omega); subst hie; simp [hh_ne, hh_ne', hnd, hd]
      · simp only [List.length_append, List.length_cons, List.length_nil] at hi; have hne : ¬ (i = rs.length) := (by omega); simp [hh_ne, hh_ne', hU i (by omega), hne]
      · rw [hnew, addG, if_pos hn, List.map_append, hg]; rfl
      · intro r hr; rcases List.mem_append.1 hr with hr | hr
        · exact hlen r hr
        · rw [List.mem_singleton.1 hr]
    · obtain ⟨i, hi1, hi2, hi3, hi4⟩ := idxR_pos (fun x : Att => decide (x.1 = lower l[k].1)) (grp (l.take k)) 0 hn; simp only [Nat.zero_add] at hi1; have hir : i < rs.length := by rw [← hg] at hi2; simpa using hi2
      have hi0 : ¬ (i : Int) < 0 := (by omega); have hvl : rs[i].2.2.length + l[k].2.length ≤ 1000000 := by
        have := total_mem (l := rs.map nv) (x := nv rs[i]) (List.mem_map.2 ⟨_, gmm hir, rfl⟩); simp only [nv] at this; omega
      rw [hi1]; simp -implicitDefEqProofs [slotsG, h9, h10, h11, h3, hlt, att, strs, hi0, hir, rowD, rw2, pr]; refine appK (1000000 + i) (by simp [hh_ne, hH i hir, hnd, hd]; rfl) (by simp) (by simp; omega) (by simp; omega) (fun A c => ?_); simp -implicitDefEqProofs [slotsG, h9, h10, h11, h3, hlt, att, strs, hi0, hir, rowD, rw2, pr, hh_ne, hh_ne']; have hset : (rs.set i (rs[i].1, (A, rs[i].2.2.length + l[k].2.length, c), rs[i].2.2 ++ l[k].2)).length = rs.length := (by simp); refine ⟨by omega, again hlt ⟨by simp [h9, hh_ne, hh_ne'], by simp [h10, hh_ne, hh_ne'], by simp [hh_ne, hh_ne'], rs.set i (rs[i].1, (A, rs[i].2.2.length + l[k].2.length, c), rs[i].2.2 ++ l[k].2), ?_, fun j hj => ?_, fun j hj => ?_, ?_, ?_⟩⟩
      · simp [hh_ne, hh_ne', rowD, rw2, pr, List.map_set]
      · rw [hset] at hj; by_cases hji : j = i
        · subst hji; simp [hh_ne, hh_ne', hnd, hd]
        · have hij : ¬ i = j := fun e => hji e.symm
          simp [hh_ne, hh_ne', hH j hj, hnd, hji, hij, List.getElem_set_ne]
      · rw [hset] at hj; have hji : ¬ j = i := (by omega); simp [hh_ne, hh_ne', hU j hj, hji]
      · rw [hnew, addG, if_neg hn, hi1, List.map_set, ← hg]; rw [Int.toNat_natCast]; exact (modify_set (fun x : Att => (x.1, x.2 ++ l[k].2)) _ _ (nv rs[i]) (by rw [List.getElem?_map, List.getElem?_eq_getElem hir]; rfl)).symm
      · intro r hr; rcases List.mem_or_eq_of_mem_set hr with hr | hr
        · exact hlen r hr
        · rw [hr]; simp
  · have hkl : k = l.length := (by omega); rw [hkl, List.take_length] at hg; have hrk : rs.length ≤ l.length := by
      have := grp_len l; rw [← hg] at this; simpa using this
    have hmr : rs.map rowD = (rs.map pr).map rw2 := (by simp [rowD]); rw [hmr] at h3; have hf := deleteR_fn 94 [] rfl (fun x => decide (x.2.2.1 = 0)) (rs.map pr) (by simp; omega) (fun a _ => emptyQ_fn a); simp -implicitDefEqProofs [slotsG, h9, h10, h11, h3, hlt, att, strs]; simp only [rw2, List.map_map] at hf; refine callK hf ?_; obtain ⟨q0, hq0⟩ : ∃ q0 : List QRow, q0 = rs.zipIdx.filter fun q => !decide (q.1.2.1.2.1 = 0) := ⟨_, rfl⟩
    have e1 : ((rs.map pr).filter fun x => !decide (x.2.2.1 = 0)).map rw2 = q0.map q1 := by
      rw [hq0]; have : rs = rs.zipIdx.map (·.1) := by simp
      conv => lhs; rw [this]
      rw [List.map_map, List.filter_map, List.map_map]; rfl
    have e2 : q0.map (fun q => nv q.1) = (grp l).filter nonE := by
      rw [← hg, hq0]; have : rs = rs.zipIdx.map (·.1) := by simp
      conv => rhs; rw [this]
      rw [List.map_map, List.filter_map]; congr 1
      refine List.filter_congr (fun q hq => ?_); obtain ⟨hi, hr⟩ := zip_mem hq; have := hlen q.1 (hr ▸ gmm hi); simp [nonE, nv, this, List.length_eq_zero_iff]; exact decide_eq_decide.2 Iff.rfl
    have e3 : (q0.map (·.2)).Nodup := by
      rw [hq0]; have h1 : (rs.zipIdx.map (·.2)).Nodup := by rw [List.zipIdx_map_snd]; exact List.nodup_range'
      exact h1.sublist (List.filter_sublist.map _)
    have e4 : ∀ q ∈ q0, τ (1000000 + q.2) = hnd q.1 := by
      intro q hq; rw [hq0] at hq; obtain ⟨hi, hr⟩ := zip_mem (List.mem_filter.1 hq).1; rw [hH _ hi, hr]
    have e5 : q0.length ≤ rs.length := by rw [hq0]; exact Nat.le_trans (List.length_filter_le _ _) (by simp)
    rw [e1]; simp -implicitDefEqProofs [slotsG, h9, h10, h11, h3, hlt, att, strs]; have e6 : ∀ a ∈ q0.map (fun q => nv q.1), a.2.length < 500000 := by
      intro a ha; rw [e2] at ha; have := total_mem (List.mem_filter.1 ha).1; rw [total_grp] at this; omega
    generalize hn0 : q0.map (fun q => nv q.1) = n0 at *; have hn0l : n0.length = q0.length := by rw [← hn0]; simp
    refine loopN q0.length (fun k τ => τ 46 = .d (.int .i64 q0.length) ∧ τ 47 = .d (.int .i64 k) ∧ ∃ qs : List QRow, τ 3 = .own true 89 (qs.map q1) ∧ Named qs τ ∧ qs.map (fun q => nv q.1) = (n0.take k).map normA ++ n0.drop k) ?_ ?_
    · refine ⟨by simp, by simp, q0, by simp, ⟨e3, fun q hq => ?_⟩, by simp [hn0]⟩; simp [hh_ne, hh_ne', e4 q hq, hnd]
    clear h9 h10 h11 h3 hH hU hk hlt hf e4 τ hkl; rintro j τ hj ⟨h46, h47, qs, h3, ⟨hnd1, hnd2⟩, hqs⟩; have hql : qs.length = q0.length := by
      have := congrArg List.length hqs; simp at this; omega
    by_cases hlt : j < q0.length
    · have hjq : j < qs.length := (by omega); have hjn : j < n0.length := (by omega); have hvj : nv qs[j].1 = n0[j] := by
        have h1 : (qs.map (fun q => nv q.1))[j]? = some (nv qs[j].1) := by simp [hjq]
        rw [hqs, List.getElem?_append_right (by simp; omega)] at h1; simp [Nat.min_eq_left (Nat.le_of_lt hjn), hjn] at h1; exact h1.symm
      have hvl : qs[j].1.2.2.length < 500000 := by
        have := e6 n0[j] (gmm hjn); rw [← hvj] at this; exact this
      have hnm := hnd2 qs[j] (gmm hjq); simp -implicitDefEqProofs [slotsG, h46, h47, h3, hlt, hjq, q1, rowD, rw2, pr]; refine inKr (1000000 + qs[j].2) (e := 9) (l := qs[j].1.2.2.map .str) (by simp [hh_ne, hh_ne', hnm, hnd, hd]) (sort_fn qs[j].1.2.2 (by omega)) ?_; simp -implicitDefEqProofs [slotsG, h46, h47, h3, hlt, hjq, q1, rowD, rw2, pr, hh_ne, hh_ne']; have hsl : (sortS qs[j].1.2.2).length = qs[j].1.2.2.length := (by simp [sortS]); refine nameK (1000000 + qs[j].2) (e := 9) (l := (sortS qs[j].1.2.2).map .str) (by simp [hh_ne, hh_ne']) (compact_fn (sortS qs[j].1.2.2) (by omega)) (fun A c => ?_); simp -implicitDefEqProofs [slotsG, h46, h47, h3, hlt, hjq, q1, rowD, rw2, pr, hh_ne, hh_ne']; refine ⟨by omega, again hlt ⟨by simp [h46, hh_ne, hh_ne'], by simp [hh_ne, hh_ne'], qs.set j ((qs[j].1.1, (A, (Go.Lib.compact (sortS qs[j].1.2.2)).length, c), Go.Lib.compact (sortS qs[j].1.2.2)), qs[j].2), ?_, ⟨?_, fun q hq => ?_⟩, ?_⟩⟩
      · simp [hh_ne, hh_ne', q1, rowD, rw2, pr, List.map_set]
      · rw [List.map_set]; have := List.set_getElem_self (i := j) (show j < (qs.map (·.2)).length by simpa using hjq); rw [List.getElem_map] at this; rw [this]; exact hnd1
      · obtain ⟨i, hi, rfl⟩ := List.mem_iff_getElem.1 hq; have hi' : i < qs.length := (by simpa using hi); by_cases hij : j = i
        · subst hij; simp [hh_ne, hh_ne', hnd, hd]
        · rw [List.getElem_set_ne hij]; have hne : ¬ qs[i].2 = qs[j].2 := fun e => by
            have h1 := List.pairwise_iff_getElem.1 hnd1; rcases Nat.lt_or_gt_of_ne hij with h2 | h2
            · exact h1 j i (by simpa using hjq) (by simpa using hi') h2 (by simpa using e.symm)
            · exact h1 i j (by simpa using hi') (by simpa using hjq) h2 (by simpa using e)
          simp [hh_ne, hh_ne', hnd2 qs[i] (gmm hi'), hne, hnd]
      · have hnn : nv ((qs[j].1.1, (A, (Go.Lib.compact (sortS qs[j].1.2.2)).length, c), Go.Lib.compact (sortS qs[j].1.2.2)) : Row) = normA n0[j] := by
          rw [← hvj]; rfl
        have hl1 : ((n0.take j).map normA).length = j := by simp; omega
        rw [List.map_set, hqs, List.set_append_right _ _ (by omega), hl1, Nat.sub_self, List.drop_eq_getElem_cons hjn, List.set_cons_zero, hnn, ← List.map_take, take_s hjn]; simp only [List.map_append, List.map_cons, List.map_nil, List.append_assoc, List.singleton_append]
    · simp -implicitDefEqProofs [slotsG, h46, h47, h3, hlt]; have hjl : j = n0.length := (by omega); subst hjl; rw [List.take_length, List.drop_length, List.append_nil] at hqs; have hmq : qs.map q1 = (qs.map fun q => pr q.1).map rw2 := by rw [List.map_map]; rfl
      rw [hmq]; refine inKb (sortR_fn (qs.map fun q => pr q.1) (by simp; omega)) ?_; obtain ⟨p1, p2⟩ := sortR_perm (qs.map fun q => pr q.1)
      replace p2 : ByName (sortR (qs.map fun q => pr q.1)) := p2
      generalize sortR (qs.map fun q => pr q.1) = ms at p1 p2 ⊢; obtain ⟨qs', p3, rfl⟩ := perm_lift (fun q : QRow => pr q.1) p1 qs rfl; have hlen' : qs'.length = qs.length := p3.length_eq; have hT : ∀ (qs : List QRow) (τ' : St), (∀ q ∈ qs, τ' (1000000 + q.2) = hnd q.1) → (qs.map fun q => 1000000 + q.2).map τ' = (qs.map (·.1)).map hnd := by
        intro qs τ' h; rw [List.map_map, List.map_map]; exact List.map_congr_left h
      have hrow : (qs'.map fun q => pr q.1).map rw2 = qs'.map q1 := by rw [List.map_map]; rfl
      simp -implicitDefEqProofs [slotsG, h46, h47, h3, hlt]; have hK : ∀ q ∈ qs', τ (1000000 + q.2) = hnd q.1 := fun q hq => hnd2 q (p3.mem_iff.1 hq)
      refine ⟨.own true 89 (qs'.map q1), qs'.map (fun q => 1000000 + q.2), ?_, fun k hk => ?_, ?_, qs'.map (·.1), ?_, ?_, ?_, ?_⟩
      · have h1 : (qs'.map (·.2)).Nodup := (p3.map _).nodup_iff.2 hnd1; have h2 := List.Pairwise.map (R := fun a b : Nat => a ≠ b) (S := fun a b : Nat => a ≠ b) (fun x => 1000000 + x) (fun a b h => by omega) h1; rw [List.map_map] at h2; exact h2
      · obtain ⟨q, hq, rfl⟩ := List.mem_map.1 hk; simp [hh_ne, hh_ne', hK q hq, hnd, isH]
      · simp [ResG, q1, rowD]
      · simp [q1]
      · rw [List.map_map, List.map_map]; refine List.map_congr_left fun q hq => ?_
        simp [hh_ne, hh_ne', hK q hq, hnd]
      · rw [List.map_map]; have h1 := p3.map (fun q : QRow => nv q.1); rw [hqs, e2] at h1; exact h1
      · intro i j hij hj; have := p2 i j hij (by simpa using hj); simpa [pr] using this
end Go.Proofs.Tz
namespace Go.Proofs.Tz
open Go.Vw Go.Lib
def SS (l : List Str) : Prop := l.Pairwise (· < ·)
theorem SS.nodup {l : List Str} (h : SS l) : l.Nodup := List.Pairwise.imp (R := fun a b : Str => a < b) (S := fun a b : Str => a ≠ b) (fun hab e => by subst e; exact s_irr _ hab) h
theorem SS_ext {a b : List Str} (ha : SS a) (hb : SS b) (h : ∀ x, x ∈ a ↔ x ∈ b) : a = b := by
  have hp : a.Perm b := (List.perm_ext_iff_of_nodup ha.nodup hb.nodup).2 h; exact hp.eq_of_pairwise (fun x y _ _ h1 h2 => absurd (s_trans h1 h2) (s_irr x)) ha hb
def insR (s : Str) : List Str → List Str
  | [] => [s]
  | x :: l => if x < s then x :: insR s l else if x = s then x :: l else s :: x :: l
theorem ins_rest (s : Str) : ∀ (l out : List Str), (∀ x ∈ l, s < x) → l.foldl (insS s) (true, out) = (true, out ++ l)
  | [], out, _ => by simp
  | x :: l, out, h => by
    have hx := h x (by simp); have hne : ¬ x = s := fun e => s_irr s (e ▸ hx)
    have : insS s (true, out) x = (true, out ++ [x]) := (by simp [insS, hne]); rw [List.foldl_cons, this, ins_rest s l _ (fun y hy => h y (by simp [hy]))]; simp
theorem ins_go (s : Str) : ∀ (l out : List Str), SS l → (l.foldl (insS s) (false, out)).2 ++ (if (l.foldl (insS s) (false, out)).1 then [] else [s]) = out ++ insR s l
  | [], out, _ => by simp [insR]
  | x :: l, out, h => by
    have hp := List.pairwise_cons.1 h; rw [List.foldl_cons, insR]; by_cases hx : x < s
    · have hne : ¬ x = s := fun e => s_irr s (e ▸ hx)
      have : insS s (false, out) x = (false, out ++ [x]) := (by simp [insS, bl_t.2 hx, hne]); rw [this, ins_go s l _ hp.2, if_pos hx]; simp
    · rw [if_neg hx]; by_cases he : x = s
      · subst he; have : insS x (false, out) x = (true, out ++ [x]) := (by simp [insS, bl_f.2 hx]); rw [this, ins_rest x l _ hp.1, if_pos rfl]; simp
      · have hs : s < x := Classical.byContradiction fun h2 => he (s_tri hx h2)
        have : insS s (false, out) x = (true, out ++ [s] ++ [x]) := (by simp [insS, bl_f.2 hx, he]); rw [this, ins_rest s l _ (fun y hy => s_trans hs (hp.1 y hy)), if_neg he]; simp
theorem ins_eq {l : List Str} (h : SS l) (s : Str) : ins l s = insR s l := by
  have := ins_go s l [] h; rw [List.nil_append] at this; exact this
theorem insR_mem (s : Str) : ∀ (l : List Str) (x : Str), x ∈ insR s l ↔ x = s ∨ x ∈ l
  | [], x => by simp [insR]
  | y :: l, x => by
    rw [insR]; split
    · simp only [List.mem_cons, insR_mem s l x]; constructor
      · rintro (h | h | h) <;> simp [h]
      · rintro (h | h | h) <;> simp [h]
    · split
      · rename_i h; subst h; simp
      · simp
theorem insR_SS (s : Str) : ∀ (l : List Str), SS l → SS (insR s l)
  | [], _ => by simp [insR, SS]
  | y :: l, h => by
    have hp := List.pairwise_cons.1 h; rw [insR]; split
    · rename_i hy
      refine List.pairwise_cons.2 ⟨fun z hz => ?_, insR_SS s l hp.2⟩; rcases (insR_mem s l z).1 hz with rfl | hz
      · exact hy
      · exact hp.1 z hz
    · rename_i hy
      split
      · exact h
      · rename_i he
        have hs : s < y := Classical.byContradiction fun h2 => he (s_tri hy h2)
        refine List.pairwise_cons.2 ⟨fun z hz => ?_, h⟩; rcases List.mem_cons.1 hz with rfl | hz
        · exact hs
        · exact s_trans hs (hp.1 z hz)
theorem ins_mem {l : List Str} (h : SS l) (s x : Str) : x ∈ ins l s ↔ x = s ∨ x ∈ l := by rw [ins_eq h]; exact insR_mem s l x
theorem ins_SS {l : List Str} (h : SS l) (s : Str) : SS (ins l s) := by rw [ins_eq h]; exact insR_SS s l h
theorem insAll_spec : ∀ (vs l : List Str), SS l → SS (vs.foldl ins l) ∧ ∀ x, x ∈ vs.foldl ins l ↔ x ∈ l ∨ x ∈ vs
  | [], l, h => ⟨h, fun x => by simp⟩
  | v :: vs, l, h => by
    have := insAll_spec vs (ins l v) (ins_SS h v); refine ⟨this.1, fun x => ?_⟩; rw [List.foldl_cons, this.2, ins_mem h]; simp only [List.mem_cons]; constructor
    · rintro ((h | h) | h) <;> simp [h]
    · rintro (h | h | h) <;> simp [h]
theorem namesF_spec : ∀ (l : List Att) (ns : List Str), SS ns → SS (l.foldl namesS ns) ∧ ∀ x, x ∈ l.foldl namesS ns ↔ x ∈ ns ∨ ∃ a ∈ l, a.2 ≠ [] ∧ lower a.1 = x
  | [], ns, h => ⟨h, fun x => by simp⟩
  | a :: l, ns, h => by
    rw [List.foldl_cons]; by_cases ha : a.2 = []
    · rw [namesS, if_pos ha]; have := namesF_spec l ns h; refine ⟨this.1, fun x => ?_⟩; rw [this.2]; simp [ha]
    · rw [namesS, if_neg ha]; have := namesF_spec l (ins ns (lower a.1)) (ins_SS h _); refine ⟨this.1, fun x => ?_⟩; rw [this.2, ins_mem h]; simp only [List.mem_cons, exists_eq_or_imp, ne_eq, ha, not_false_eq_true, true_and]; constructor
      · rintro ((h | h) | h)
        · exact .inr (.inl h.symm)
        · exact .inl h
        · exact .inr (.inr h)
      · rintro (h | h | h)
        · exact .inl (.inr h)
        · exact .inl (.inl h.symm)
        · exact .inr h
theorem valsF_spec (n : Str) : ∀ (l : List Att) (vs : List Str), SS vs → SS (l.foldl (valsS n) vs) ∧ ∀ x, x ∈ l.foldl (valsS n) vs ↔ x ∈ vs ∨ ∃ a ∈ l, lower a.1 = n ∧ x ∈ a.2
  | [], vs, h => ⟨h, fun x => by simp⟩
  | a :: l, vs, h => by
    rw [List.foldl_cons]; by_cases ha : lower a.1 = n
    · rw [valsS, if_pos ha]; have h1 := insAll_spec a.2 vs h; have := valsF_spec n l _ h1.1; refine ⟨this.1, fun x => ?_⟩; rw [this.2, h1.2]; simp only [List.mem_cons, exists_eq_or_imp, ha, true_and]; constructor
      · rintro ((h | h) | h) <;> simp [h]
      · rintro (h | h | h) <;> simp [h]
    · rw [valsS, if_neg ha]; have := valsF_spec n l vs h; refine ⟨this.1, fun x => ?_⟩; rw [this.2]; simp [ha]
theorem sortS_asc (l : List Str) : (sortS l).Pairwise fun x y => ¬ y < x := by
  have h := List.pairwise_mergeSort (le := fun x y : Str => decide (x ≤ y)) (fun a b c h1 h2 => by
    simp only [decide_eq_true_eq] at *; exact List.le_trans h1 h2) (fun a b => by
    simp only [Bool.or_eq_true, decide_eq_true_eq]; exact List.le_total a b) l
  exact h.imp fun h => by simpa using h
theorem sortS_mem (l : List Str) (x : Str) : x ∈ sortS l ↔ x ∈ l := by simp [sortS]
theorem compact_spec (zs : List Str) (h : zs.Pairwise fun x y => ¬ y < x) : ∀ m, m ≤ zs.length → SS (compactUpTo zs.toArray m) ∧ ∀ x, x ∈ compactUpTo zs.toArray m ↔ x ∈ zs.take m
  | 0, _ => by simp [compactUpTo, SS]
  | m + 1, hm => by
    obtain ⟨h1, h2⟩ := compact_spec zs h m (by omega); have hlt : m < zs.length := (by omega); have hg : zs.toArray[m]! = zs[m] := by rw [getElem!_pos _ m (by simpa using hlt)]; simp
    have asc : ∀ i (hi : i < m), ¬ zs[m] < zs[i]'(by omega) := fun i hi => List.pairwise_iff_getElem.1 h i m (by omega) hlt hi
    rw [compactUpTo_succ, hg, take_s hlt]; by_cases hk : keeps zs.toArray m = true
    · rw [if_pos hk]; refine ⟨List.pairwise_append.2 ⟨h1, by simp, fun x hx y hy => ?_⟩, fun x => by rw [List.mem_append, List.mem_append, h2 x]⟩; rw [List.mem_singleton.1 hy]; obtain ⟨i, hi, rfl⟩ := List.mem_iff_getElem.1 ((h2 x).1 hx); have him : i < m := by simp at hi; omega
      simp only [List.getElem_take]; have hm0 : m ≠ 0 := (by omega); have hg1 : zs.toArray[m - 1]! = zs[m - 1] := by rw [getElem!_pos _ (m - 1) (by simp; omega)]; simp
      have hne : zs[m] ≠ zs[m - 1] := (by simpa [keeps, hm0, hg, hg1] using hk); have hlt2 : zs[m - 1] < zs[m] := Classical.byContradiction fun hc => hne (s_tri (asc (m - 1) (by omega)) hc)
      by_cases hc : zs[i] < zs[m - 1]
      · exact s_trans hc hlt2
      · by_cases hie : i = m - 1
        · subst hie; exact hlt2
        · have := List.pairwise_iff_getElem.1 h i (m - 1) (by omega) (by omega) (by omega); rw [s_tri hc this]; exact hlt2
    · rw [if_neg hk, List.append_nil]; refine ⟨h1, fun x => ?_⟩; rw [h2 x]; have hk' : keeps zs.toArray m = false := (by simpa using hk); have hm0 : m ≠ 0 := fun e => by subst e; simp [keeps] at hk'
      have hg1 : zs.toArray[m - 1]! = zs[m - 1] := by rw [getElem!_pos _ (m - 1) (by simp; omega)]; simp
      have he : zs[m] = zs[m - 1] := (by simpa [keeps, hm0, hg, hg1] using hk'); have hin : zs[m] ∈ zs.take m := by
        rw [he]; exact List.mem_iff_getElem.2 ⟨m - 1, by simp; omega, by simp⟩
      simp only [List.mem_append, List.mem_singleton]; constructor
      · intro hx; exact .inl hx
      · rintro (hx | rfl)
        · exact hx
        · exact hin
theorem normV (vs : List Str) : SS (compact (sortS vs)) ∧ ∀ x, x ∈ compact (sortS vs) ↔ x ∈ vs := by
  have h := compact_spec (sortS vs) (sortS_asc vs) (sortS vs).length (Nat.le_refl _); refine ⟨h.1, fun x => ?_⟩; rw [← sortS_mem vs x]; have := h.2 x; rw [List.take_length] at this; exact this
theorem idxR_at {α : Type} (p : α → Bool) : ∀ (l : List α) (k : Nat), idxR p k l ≠ -1 → ∃ i : Nat, idxR p k l = ((k + i : Nat) : Int) ∧ ∃ h : i < l.length, p l[i] = true
  | [], k, h => absurd rfl h
  | x :: l, k, h => by
    rw [idxR] at h ⊢; by_cases hx : p x = true
    · rw [if_pos hx]; exact ⟨0, by simp, by simp, hx⟩
    · rw [if_neg hx] at h ⊢; obtain ⟨i, h1, h2, h3⟩ := idxR_at p l (k + 1) h; exact ⟨i + 1, by rw [h1]; omega, by simpa using h2, by simpa using h3⟩
def Has (l : List Att) (n v : Str) : Prop := ∃ x ∈ l, x.1 = n ∧ v ∈ x.2
theorem addG_spec (acc : List Att) (a : Att) (hn : (acc.map (·.1)).Nodup) : ((addG acc a).map (·.1)).Nodup ∧ ∀ n v, Has (addG acc a) n v ↔ Has acc n v ∨ (lower a.1 = n ∧ v ∈ a.2) := by
  unfold addG; split
  · rename_i h
    have hf := idxR_neg _ acc 0 h; have hno : ∀ x ∈ acc, ¬ x.1 = lower a.1 := fun x hx => by
      have := List.filter_eq_self.1 hf x hx; simpa using this
    refine ⟨?_, fun n v => ?_⟩
    · rw [List.map_append, List.nodup_append]; refine ⟨hn, by simp, ?_⟩; intro x hx y hy e; simp at hy; obtain ⟨z, hz, rfl⟩ := List.mem_map.1 hx; exact hno z hz (e.trans hy)
    · simp only [Has, List.mem_append, List.mem_singleton]; constructor
      · rintro ⟨x, hx | rfl, h1, h2⟩
        · exact .inl ⟨x, hx, h1, h2⟩
        · exact .inr ⟨h1, h2⟩
      · rintro (⟨x, hx, h1, h2⟩ | ⟨h1, h2⟩)
        · exact ⟨x, .inl hx, h1, h2⟩
        · exact ⟨_, .inr rfl, h1, h2⟩
  · rename_i h
    obtain ⟨i, h1, hi, h3⟩ := idxR_at _ acc 0 h; simp only [Nat.zero_add] at h1; simp only [decide_eq_true_eq] at h3; rw [h1, Int.toNat_natCast, modify_set (fun x : Att => (x.1, x.2 ++ a.2)) acc i acc[i] (List.getElem?_eq_getElem hi)]; refine ⟨?_, fun n v => ?_⟩
    · rw [List.map_set]; have := List.set_getElem_self (i := i) (show i < (acc.map (·.1)).length by simpa using hi); rw [List.getElem_map] at this; rw [this]; exact hn
    · simp only [Has]; constructor
      · rintro ⟨x, hx, e1, e2⟩; obtain ⟨j, hj, rfl⟩ := List.mem_iff_getElem.1 hx; have hj' : j < acc.length := (by simpa using hj); by_cases hij : i = j
        · subst hij; rw [List.getElem_set_self] at e1 e2; simp only [List.mem_append] at e1 e2; rcases e2 with e2 | e2
          · exact .inl ⟨_, gmm hi, e1, e2⟩
          · exact .inr ⟨h3.symm.trans e1, e2⟩
        · rw [List.getElem_set_ne hij] at e1 e2; exact .inl ⟨_, gmm hj', e1, e2⟩
      · rintro (⟨x, hx, e1, e2⟩ | ⟨e1, e2⟩)
        · obtain ⟨j, hj, rfl⟩ := List.mem_iff_getElem.1 hx; by_cases hij : i = j
          · subst hij; refine ⟨_, List.mem_iff_getElem.2 ⟨i, by simpa using hi, List.getElem_set_self _⟩, e1, by simp [e2]⟩
          · exact ⟨_, List.mem_iff_getElem.2 ⟨j, by simpa using hj, List.getElem_set_ne hij _⟩, e1, e2⟩
        · exact ⟨_, List.mem_iff_getElem.2 ⟨i, by simpa using hi, List.getElem_set_self _⟩, h3.trans e1, by simp [e2]⟩
theorem grp_spec (l : List Att) : ((grp l).map (·.1)).Nodup ∧ ∀ n v, Has (grp l) n v ↔ ∃ a ∈ l, lower a.1 = n ∧ v ∈ a.2 := by
  have key : ∀ (l acc : List Att), (acc.map (·.1)).Nodup → ((l.foldl addG acc).map (·.1)).Nodup ∧ ∀ n v, Has (l.foldl addG acc) n v ↔ Has acc n v ∨ ∃ a ∈ l, lower a.1 = n ∧ v ∈ a.2 := by
    intro l
    induction l with
    | nil => intro acc h; exact ⟨h, fun n v => by simp⟩
    | cons a l ih =>
      intro acc h; have h1 := addG_spec acc a h; have h2 := ih _ h1.1; refine ⟨h2.1, fun n v => ?_⟩; rw [List.foldl_cons, h2.2, h1.2]; simp only [List.mem_cons, exists_eq_or_imp, or_assoc]
  have := key l [] (by simp); exact ⟨this.1, fun n v => by rw [show grp l = l.foldl addG [] from rfl, this.2]; simp [Has]⟩
theorem normal_eq (l out : List Att) (hp : out.Perm (((grp l).filter nonE).map normA)) (hs : ∀ i j (_ : i < j) (hj : j < out.length), Op.bytesLess out[j].1 (out[i]'(by omega)).1 = false) : out = sortedL l := by
  obtain ⟨g1, g2⟩ := grp_spec l; have hnames : (out.map (·.1)).Perm (((grp l).filter nonE).map (·.1)) := by
    have := hp.map (·.1); rw [List.map_map] at this; exact this
  have hnd : (out.map (·.1)).Nodup := hnames.nodup_iff.2 (g1.sublist (List.filter_sublist.map _)); have hSS : SS (out.map (·.1)) := by
    refine List.pairwise_iff_getElem.2 fun i j hi hj hij => ?_
    have hj' : j < out.length := (by simpa using hj); have h1 := hs i j hij hj'; rw [bl_f] at h1; simp only [List.getElem_map]; refine Classical.byContradiction fun hc => ?_
    have he := s_tri hc h1; exact List.pairwise_iff_getElem.1 hnd i j hi hj hij (by simpa using he)
  have hN := namesF_spec l [] (by simp [SS]); have e1 : out.map (·.1) = namesF l := by
    refine SS_ext hSS hN.1 fun n => ?_
    rw [hnames.mem_iff, show namesF l = l.foldl namesS [] from rfl, hN.2]; simp only [List.mem_map, List.mem_filter, List.not_mem_nil, false_or]; constructor
    · rintro ⟨x, ⟨hx, hne⟩, rfl⟩; have hne' : x.2 ≠ [] := (by simpa [nonE] using hne); obtain ⟨v, hv⟩ := List.exists_mem_of_ne_nil _ hne'; obtain ⟨a, ha, e, hav⟩ := (g2 x.1 v).1 ⟨x, hx, rfl, hv⟩; exact ⟨a, ha, List.ne_nil_of_mem hav, e⟩
    · rintro ⟨a, ha, hne, e⟩; obtain ⟨v, hv⟩ := List.exists_mem_of_ne_nil _ hne; obtain ⟨x, hx, e2, hxv⟩ := (g2 n v).2 ⟨a, ha, e, hv⟩; exact ⟨x, ⟨hx, by simp [nonE]; exact List.ne_nil_of_mem hxv⟩, e2⟩
  have e2 : ∀ x ∈ out, x.2 = valsF l x.1 := by
    intro x hx; obtain ⟨y, hy, rfl⟩ := List.mem_map.1 (hp.mem_iff.1 hx); have hyg := (List.mem_filter.1 hy).1; have hv := normV y.2; have hV := valsF_spec y.1 l [] (by simp [SS]); refine SS_ext hv.1 hV.1 fun v => ?_
    rw [show valsF l (normA y).1 = l.foldl (valsS y.1) [] from rfl, hV.2]; refine (hv.2 v).trans ?_; simp only [List.not_mem_nil, false_or]; rw [← g2 y.1 v]; constructor
    · intro h; exact ⟨y, hyg, rfl, h⟩
    · rintro ⟨z, hz, e, h⟩; obtain ⟨i, hi, rfl⟩ := List.mem_iff_getElem.1 hz; obtain ⟨j, hj, rfl⟩ := List.mem_iff_getElem.1 hyg; have hij : i = j := by
        have h1 := List.pairwise_iff_getElem.1 g1; rcases Nat.lt_trichotomy i j with h2 | h2 | h2
        · have h3 := h1 i j (by simpa using hi) (by simpa using hj) h2; simp only [List.getElem_map] at h3; exact absurd e h3
        · exact h2
        · have h3 := h1 j i (by simpa using hj) (by simpa using hi) h2; simp only [List.getElem_map] at h3; exact absurd e.symm h3
      subst hij; exact h
  have e3 : out = out.map fun x => (x.1, valsF l x.1) := by
    conv => lhs; rw [← List.map_id' out]
    refine List.map_congr_left fun x hx => ?_
    rw [← e2 x hx]
  rw [e3, sortedL, ← e1, List.map_map]; rfl
end Go.Proofs.Tz
namespace Go.Proofs.Tz
open Go.Vw
set_option maxRecDepth 100000
theorem fz_rows (H : List AV) : ∀ rs : List Row, (∀ r ∈ rs, hnd r ∈ H) → FzL H (rs.map rowD) ((rs.map nv).map att)
  | [], _ => .nil
  | r :: rs, h => .cons (.agg (.cons (.same _) (.cons (.sl (h r (by simp))) .nil))) (fz_rows H rs fun x hx => h x (by simp [hx]))
theorem sorted_fn (l : List Att) (hl : Fit2 l) : Ctr prog 45 [.d (atts l)] (.own true 89 ((sortedL l).map att)) := by
  refine (sortedG_fn l hl).frozen (by simp) ?_; rintro r hs ⟨rs, rfl, rfl, hp, ha⟩; refine ⟨_, rfl, ?_⟩; have := normal_eq l (rs.map nv) hp (fun i j hij hj => by
    have := ha i j hij (by simpa using hj); simpa [nv] using this)
  rw [← this]; exact fz_rows _ rs fun r hr => List.mem_map.2 ⟨r, hr, rfl⟩
theorem findQ_fn (x : Str × Sl) (n : Str) : Ctr prog 206 [.d (rw2 x), .d (.ref (.str n))] (.d (.bool (decide (x.1 = n)))) := by
  refine fv (fun _ => false) func206 (by kernel_rfl) rfl rfl rfl rfl rfl ?_; simp -implicitDefEqProofs [rw2]
theorem findRows_fn (rows : List (Str × Sl)) (name : Str) (hl : rows.length < 1000000) (hn : List.length name < 1000000) : Ctr prog 167 [.d (.sl (rows.map rw2)), .d (.str name)] (.d (.int .i64 (idxR (fun x => decide (x.1 = lower name)) 0 rows))) := by
  refine fv (fun _ => false) func167 (by kernel_rfl) rfl rfl rfl rfl rfl ?_; simp -implicitDefEqProofs; refine callK (foldLower_fn _ hn) ?_; simp -implicitDefEqProofs; refine callK (indexR_fn 206 [.ref (.str (lower name))] rfl (fun x => decide (x.1 = lower name)) rows hl (fun a _ => findQ_fn a _)) ?_; simp -implicitDefEqProofs
theorem findA_idx (n : Str) : ∀ (l : List Att) (k : Nat), (idxR (fun x : Att => decide (x.1 = n)) k l = -1 ∧ findA n l = []) ∨ ∃ i, ∃ h : i < l.length, idxR (fun x : Att => decide (x.1 = n)) k l = ((k + i : Nat) : Int) ∧ findA n l = l[i].2
  | [], k => .inl ⟨rfl, rfl⟩
  | x :: l, k => by
    rw [idxR, findA]; by_cases hx : x.1 = n
    · exact .inr ⟨0, by simp, by simp [hx]⟩
    · simp only [hx, decide_false, Bool.false_eq_true, if_false]; rcases findA_idx n l (k + 1) with h | ⟨i, h1, h2, h3⟩
      · exact .inl h
      · exact .inr ⟨i + 1, by simpa using h1, by rw [h2]; omega, by simpa using h3⟩
theorem get_fn (l : List Att) (name : Str) (hl : Fit2 l) (hn : List.length name < 1000000) : Ctr prog 117 [.d (atts l), .d (.str name)] (.own true 9 ((getL l name).map .str)) := by
  refine fv (fun i => i == 4 || i == 5000009 || i == 2000012) func117 (by kernel_rfl) rfl rfl rfl rfl rfl ?_; simp -implicitDefEqProofs; refine givK0 (sortedG_fn l hl).shaped ?_ ?_
  · rintro r hs ⟨⟨rs, rfl, rfl, _⟩, _⟩ x hx; obtain ⟨r, _, rfl⟩ := List.mem_map.1 hx; rfl
  rintro r hs τ ⟨⟨rs, rfl, rfl, hp, ha⟩, hsh⟩ hhi hlo; have h1 : τ 1 = .d (.str name) := (hlo 1 (by decide) (by simp [initG])).trans (by simp [initG]); have h9 : τ 9 = .own true 89 (rs.map rowD) := (hlo 9 (by decide) (by simp)).trans (by simp); have hn2 : rs.map nv = sortedL l := normal_eq l (rs.map nv) hp (fun i j hij hj => by
    have := ha i j hij (by simpa using hj); simpa [nv] using this)
  have hrl : rs.length ≤ l.length := by
    have := sorted_len l; rw [← hn2] at this; simpa using this
  have hl1 := hl.1.1; have hH : ∀ i (h : i < rs.length), τ (1000000 + i) = hnd rs[i] := fun i h => by rw [hhi i (by simpa using h)]; simp
  clear hhi hlo hp ha; simp -implicitDefEqProofs [h1, h9]; have hmr : rs.map rowD = (rs.map pr).map rw2 := (by simp [rowD]); rw [hmr]; refine lendK (findRows_fn (rs.map pr) name (by simp; omega) hn) rfl ?_; rw [← hmr]; have hidx : idxR (fun x : Str × Sl => decide (x.1 = lower name)) 0 (rs.map pr) = idxR (fun x : Att => decide (x.1 = lower name)) 0 (sortedL l) := by
    rw [← hn2, idxR_map, idxR_map]; rfl
  rw [hidx]; rcases findA_idx (lower name) (sortedL l) 0 with ⟨e1, e2⟩ | ⟨i, hi, e1, e2⟩
  · simp -implicitDefEqProofs [h1, h9, e1, getL, e2]
  · have hir : i < rs.length := by rw [← hn2] at hi; simpa using hi
    have hi0 : ¬ (i : Int) < 0 := (by omega); simp only [Nat.zero_add] at e1; have e3 : (sortedL l)[i].2 = rs[i].2.2 := by
      have : (rs.map nv)[i]'(by simpa using hir) = nv rs[i] := (by simp); have h2 : (sortedL l)[i] = nv rs[i] := by rw [← this]; congr 1; exact hn2.symm
      rw [h2]; rfl
    obtain ⟨A, c, he⟩ := hsh (hd rs[i]) 9 (rs[i].2.2.map .str) (List.mem_map.2 ⟨rs[i], gmm hir, rfl⟩); simp only [hd, Value.slice.injEq, List.length_map] at he; simp -implicitDefEqProofs [h1, h9, e1, hi0, hir, rowD, rw2, pr, he.2.1]; refine ⟨1000000 + i, 9, rs[i].2.2.map .str, ?_, rfl, by simp, ?_⟩
    · simp [hh_ne, hh_ne', hH i hir, hnd, hd, he.2.1]
    have e4 : (rs[i].2.2.map D.str).take rs[i].2.2.length = rs[i].2.2.map .str := ttl (by simp); simp -implicitDefEqProofs [getL, e2, e3, e4]
theorem setQ_fn (a : Att) (n : Str) : Ctr prog 181 [.d (att a), .d (.ref (.str n))] (.d (.bool (decide (a.1 = n)))) := by
  refine fv (fun _ => false) func181 (by kernel_rfl) rfl rfl rfl rfl rfl ?_; simp -implicitDefEqProofs [att, strs]
theorem idxG_neg {α : Type} (p : α → Bool) : ∀ (l : List α) (k : Nat), idxG p k l = -1 → l.filter (fun x => !p x) = l
  | [], k, _ => rfl
  | x :: l, k, h => by
    rw [idxG] at h; by_cases hx : p x = true
    · rw [if_pos hx] at h; omega
    · rw [if_neg hx] at h; simp -implicitDefEqProofs [hx, idxG_neg p l (k + 1) h]
theorem idxG_pos {α : Type} (p : α → Bool) : ∀ (l : List α) (k : Nat), idxG p k l ≠ -1 → ∃ i : Nat, idxG p k l = ((k + i : Nat) : Int) ∧ i < l.length ∧ (l.take i).filter (fun x => !p x) = l.take i ∧ (l.take (i + 1)).filter (fun x => !p x) = l.take i
  | [], k, h => absurd rfl h
  | x :: l, k, h => by
    rw [idxG] at h ⊢; by_cases hx : p x = true
    · rw [if_pos hx]; exact ⟨0, by simp, by simp, by simp, by simp [hx]⟩
    · rw [if_neg hx] at h ⊢; obtain ⟨i, h1, h2, h3, h4⟩ := idxG_pos p l (k + 1) h; refine ⟨i + 1, by rw [h1]; omega, by simpa using h2, ?_, ?_⟩
      · simp -implicitDefEqProofs [hx, h3]
      · rw [List.take_succ_cons, List.filter_cons, if_pos (by simp [hx]), h4, List.take_succ_cons]
theorem deleteA_fn (g : FuncId) (cs : List D) (hcs : (cs.all fun c => !c.isAgg) = true) (p : Att → Bool) (l : List Att) (hl : l.length < 1000000) (hp : ∀ a ∈ l, Ctr prog g ([.d (att a)] ++ cs.map .d) (.d (.bool (p a)))) :
    Ctr prog 93 [.own true 89 (l.map att), .d (.clo g cs)] (.own true 89 ((l.filter fun x => !p x).map att)) := by
  refine fv (fun i => i == 2000010) func93 (by kernel_rfl) rfl rfl rfl rfl rfl ?_; simp -implicitDefEqProofs; refine lendK (indexA_fn g cs hcs p l hl hp) rfl ?_; by_cases hn : idxG p 0 l = -1
  · simp -implicitDefEqProofs [hn, idxG_neg p l 0 hn]
  · obtain ⟨i, h1, h2, h3, h4⟩ := idxG_pos p l 0 hn; simp only [Nat.zero_add] at h1; have e1 : ¬ ((i : Int) = -1) := (by omega); simp -implicitDefEqProofs [h1, e1]; refine ⟨by omega, ?_⟩; refine loopK (fun n τ => ∃ (j q : Nat) (m : List Att), n = l.length - j ∧ j ≤ l.length ∧ τ 0 = .own true 89 (m.map att) ∧ τ 1 = .d (.clo g cs) ∧ τ 5 = .d (.int .i64 q) ∧ τ 6 = .d (.int .i64 j) ∧ m.length = l.length ∧ q < j ∧ m.take q = (l.take j).filter (fun x => !p x) ∧ m.drop j = l.drop j)
      (l.length - (i + 1)) ⟨i + 1, i, l, rfl, by omega, by simp, by simp, by simp, by simp, rfl, by omega, h4.symm, rfl⟩ ?_
    rintro n τ ⟨j, q, m, rfl, hj, g0, g1, g5, g6, hm, hq, ht, hd⟩; by_cases hlt : j < l.length
    · have hmj : m[j]'(by omega) = l[j] := by
        have := congrArg (fun x : List Att => x[0]?) hd; simpa [hlt, hm] using this
      have hf := hp _ (gmm hlt); simp only [att, strs, List.cons_append, List.nil_append] at hf; have hlt' : (j : Int) < l.length := (by omega); simp -implicitDefEqProofs [g0, g1, g5, g6, hm, hlt', hlt, att, strs, hmj]; refine ⟨by simpa using hcs, callK hf ?_⟩; by_cases he : p l[j] = true
      · simp -implicitDefEqProofs [g0, g1, g5, g6, hm, hlt', hlt, att, strs, hmj, he]; refine ⟨by omega, _, ?_, j + 1, rfl, by omega, q, m, rfl, rfl, by omega, hm, by omega, ?_, ?_⟩
        · omega
        · rw [take_s hlt, List.filter_append, ht]; simp [he]
        · rw [← List.drop_drop, hd, List.drop_drop]
      · have hq2 : q < m.length := (by omega); have hqq : m[q]? = some m[q] := List.getElem?_eq_getElem hq2; simp -implicitDefEqProofs [g0, g1, g5, g6, hm, hlt', hlt, att, strs, hmj, he, hqq]; refine ⟨by omega, by omega, by omega, _, ?_, j + 1, rfl, by omega, q + 1, m.set q l[j], ?_, by simp, by simp, by simpa using hm, by omega, ?_, ?_⟩
        · omega
        · rw [List.map_set]; rfl
        · rw [List.take_set, take_s hq2, List.set_append_right _ _ (by simp; omega)]; simp only [List.length_take, Nat.min_eq_left (Nat.le_of_lt hq2), Nat.sub_self, List.set_cons_zero]; rw [take_s hlt, List.filter_append, ht]; simp [he]
        · rw [List.drop_set_of_lt (by omega), ← List.drop_drop, hd, List.drop_drop]
    · simp -implicitDefEqProofs [g0, g1, g5, g6, hm, hlt]; have hjl : j = l.length := (by omega); subst hjl; refine ⟨by omega, by omega, ?_⟩; rw [List.take_append_of_le_length (by simp; omega), List.take_take, Nat.min_self, ← List.map_take, ht, List.take_length]
def setL (l : List Att) (name : Str) (v : List Str) : List Att := sortedL ((l.filter fun x => !decide (x.1 = lower name)) ++ [(lower name, v)])
theorem set_fn (l : List Att) (name : Str) (v : List Str) (hl : l.length < 900000) (hn : List.length name < 1000000) (hw : Fit2 ((l.filter fun x => !decide (x.1 = lower name)) ++ [(lower name, v)])) :
    Ctr prog 135 [.own true 89 (l.map att), .d (.str name), .d (strs v)] (.own true 89 ((setL l name v).map att)) := by
  refine fv (fun i => i == 20) func135 (by kernel_rfl) rfl rfl rfl rfl rfl ?_; simp -implicitDefEqProofs [strs]; refine callK (foldLower_fn _ hn) ?_; simp -implicitDefEqProofs [strs]; refine callK (deleteA_fn 181 [.ref (.str (lower name))] rfl (fun x => decide (x.1 = lower name)) l (by omega) (fun a _ => setQ_fn a _)) ?_; have hfl : (l.filter fun x => !decide (x.1 = lower name)).length ≤ l.length := List.length_filter_le _ l; have hS := sorted_fn _ hw; rw [show sortedL ((l.filter fun x => !decide (x.1 = lower name)) ++ [(lower name, v)]) = setL l name v from rfl] at hS; generalize setL l name v = r at *; generalize (l.filter fun x => !decide (x.1 = lower name)) = f at *; simp only [atts, List.map_append, List.map_cons, List.map_nil] at hS; have hfa : (f.map att).length = f.length := List.length_map ..; generalize f.map att = fa at hS hfa ⊢; simp only [att, strs] at hS; simp -implicitDefEqProofs; refine ⟨by omega, by omega, callK hS ?_⟩; simp -implicitDefEqProofs
def limL (l : List Att) (name : Str) : List Att × Int := if 32 < l.length ∨ 16 < (getL l name).length then ([], 3) else (l, 0)
def withP (l : List Att) (name : Str) (v : List Str) : List Att := ((sortedL l).filter fun x => !decide (x.1 = lower name)) ++ [(lower name, v)]
def addP (l : List Att) (name : Str) (v : List Str) : List Att × Int :=
  if nameB name = false then ([], 5) else if v = [] then ([], 6) else if chkV (getL l name) [] v ≠ 0 then ([], chkV (getL l name) [] v) else limL (setL (sortedL l) name (getL l name ++ v)) name
def remV : List Str → List Str → Option (List Str)
  | old, [] => some old
  | old, v :: l => if idxG (fun x => decide (v = x)) 0 old = -1 then none else remV (old.eraseIdx (idxG (fun x => decide (v = x)) 0 old).toNat) l
def remO (l : List Att) (name : Str) : Option (List Str) → List Att × Int
  | none => ([], 6)
  | some o => (setL (sortedL l) name o, 0)
def removeP (l : List Att) (name : Str) (v : List Str) : List Att × Int :=
  if nameB name = false then ([], 5) else if getL l name = [] then ([], 6) else if v = [] then (setL (sortedL l) name [], 0) else remO l name (remV (getL l name) v)
theorem remove_fn (l : List Att) (name : Str) (v : List Str) (hl : Fit2 l) (hl9 : l.length < 900000) (hn : List.length name < 1000000) (hv : v.length < 1000000) (hw : ∀ o, (o = [] ∨ remV (getL l name) v = some o) → Fit2 (withP l name o)) :
    Ctr prog 85 [.d (atts l), .d (.str name), .d (strs v)] (.tup [.d (atts (removeP l name v).1), .d (.int .i64 (removeP l name v).2)]) := by
  refine fn_of_vwp2 (fun i => i == 17 || i == 2000036 || i == 43 || i == 25 || i == 46 || i == 6000048) (by kernel_rfl) func85 (by kernel_rfl) rfl rfl (nbl rfl) (by kernel_rfl) rfl rfl ?_; simp -implicitDefEqProofs; refine callK (fname_fn name hn) ?_; by_cases e1 : nameB name = true
  · simp -implicitDefEqProofs [e1]; refine callK (get_fn l name hl hn) ?_; have hgl := getL_len l name; have hl2 := hl.2; have hS := fun o ho => set_fn (sortedL l) name o (Nat.lt_of_le_of_lt (sorted_len l) hl9) hn (hw o ho)
    have hsS := sorted_fn l hl; have hP : removeP l name v = if getL l name = [] then ([], 6) else if v = [] then (setL (sortedL l) name [], 0) else remO l name (remV (getL l name) v) := by simp [removeP, e1]
    rw [hP]; clear hP; generalize getL l name = old at *; by_cases e2 : old = []
    · simp -implicitDefEqProofs [e2, atts]
    · have e2' : ¬ (old.length : Int) = 0 := (by simpa using e2); rw [if_neg e2]; by_cases e3 : v = []
      · have hS0 := hS [] (.inl rfl); rw [if_pos e3]; generalize setL (sortedL l) name [] = r at *; generalize sortedL l = s at *; simp only [strs, List.map_nil] at hS0; simp -implicitDefEqProofs [e2, e2', e3, strs]; refine callK hsS ?_; simp -implicitDefEqProofs [e2, e2', e3, strs]; refine callK hS0 ?_; simp -implicitDefEqProofs [e2, e2', e3, strs, atts]
      · have e3' : ¬ (v.length : Int) = 0 := (by simpa using e3); rw [if_neg e3]; generalize hQ : remO l name (remV old v) = Q; simp -implicitDefEqProofs [e2, e2', e3, e3', strs]; refine loopN v.length (fun k τ => τ 0 = .d (atts l) ∧ τ 1 = .d (.str name) ∧ τ 28 = .d (strs v) ∧ τ 29 = .d (.int .i64 v.length) ∧ τ 30 = .d (.int .i64 k) ∧ ∃ o : List Str, τ 8 = .own true 9 (o.map .str) ∧ o.length ≤ old.length ∧ remV old v = remV o (v.drop k)) ⟨by simp, by simp, by simp [strs], by simp, by simp, old, by simp, Nat.le_refl _, by simp⟩ ?_; rintro k τ hk ⟨h0, h1, h28, h29, h30, o, h8, ho, hc⟩; by_cases hlt : k < v.length
        · rw [List.drop_eq_getElem_cons hlt, remV] at hc; simp -implicitDefEqProofs [h0, h1, h28, h29, h30, h8, hlt, strs]; have hI := index_fn o v[k] (by omega); simp only [strs] at hI; refine lendK hI rfl ?_; by_cases c1 : idxG (fun x => decide (v[k] = x)) 0 o = -1
          · simp -implicitDefEqProofs [h0, h1, h28, h29, h30, h8, hlt, strs, c1]; rw [if_pos c1] at hc; simp [← hQ, hc, remO, atts]
          · rw [if_neg c1] at hc; obtain ⟨i, c2, c3, _⟩ := idxG_pos _ o 0 c1; simp only [Nat.zero_add] at c2; rw [c2] at hc ⊢; have c4 : ¬ (i : Int) < 0 := (by omega); simp -implicitDefEqProofs [h0, h1, h28, h29, h30, h8, hlt, strs, c4]; refine ⟨by omega, callK (delete_fn o i c3 (by omega)) ?_⟩; simp -implicitDefEqProofs [h0, h1, h28, h29, h30, h8, hlt, strs, c4]; refine ⟨by omega, again hlt ⟨by simp [h0], by simp [h1], by simp [h28, strs], by simp [h29], by simp, o.eraseIdx i, by simp, ?_, by simpa using hc⟩⟩; have := List.length_eraseIdx_le o i; omega
        · rw [List.drop_eq_nil_of_le (by omega), remV] at hc; have hSo := hS o (.inr hc); have hq : Q = (setL (sortedL l) name o, 0) := by rw [← hQ, hc, remO]
          rw [hq]; generalize setL (sortedL l) name o = r at *; simp only [atts] at h0 hsS; generalize sortedL l = s at *; simp only [strs] at hSo; simp -implicitDefEqProofs [h0, h1, h28, h29, h30, h8, hlt, strs]; refine callK hsS ?_; simp -implicitDefEqProofs [h0, h1, h28, h29, h30, h8, hlt, strs]; refine callK hSo ?_; simp -implicitDefEqProofs [h0, h1, h28, h29, h30, h8, hlt, strs, atts]
  · simp -implicitDefEqProofs [e1, removeP, atts]
def ReachS (l : List Str) : Prop := ∀ v ∈ l, List.length v ≤ 140737488351232
theorem ReachS.take {l : List Str} (h : ReachS l) (k : Nat) : ReachS (l.take k) := fun v hv => h v (List.mem_of_mem_take hv)
end Go.Proofs.Tz
namespace Go.Proofs.Tz
open Go.Vw Go.Lib
theorem sorted_perm (l : List Att) : (sortedL l).Perm (((grp l).filter nonE).map normA) := by
  have hp : ((((grp l).filter nonE).map normA).mergeSort fun a b => decide (a.1 ≤ b.1)).Perm (((grp l).filter nonE).map normA) := List.mergeSort_perm _ _; have hs := List.pairwise_mergeSort (le := fun a b : Att => decide (a.1 ≤ b.1)) (fun a b c h1 h2 => by
    simp only [decide_eq_true_eq] at *; exact List.le_trans h1 h2) (fun a b => by
    simp only [Bool.or_eq_true, decide_eq_true_eq]; exact List.le_total a.1 b.1) (((grp l).filter nonE).map normA)
  rw [← normal_eq l _ hp (fun i j hij hj => by
    have := List.pairwise_iff_getElem.1 hs i j (by omega) hj hij; rw [bl_f]; simpa using this)]
  exact hp
theorem compact_len (l : List Str) : (compact l).length ≤ l.length := by
  have key : ∀ m, (compactUpTo l.toArray m).length ≤ m := by
    intro m
    induction m with
    | zero => simp [compactUpTo]
    | succ m ih =>
      rw [compactUpTo_succ]; split <;> simp <;> omega
  exact key l.length
theorem total_perm {a b : List Att} (h : a.Perm b) : total a = total b := (h.map _).sum_nat
theorem total_norm (l : List Att) : total ((l.filter nonE).map normA) ≤ total l := by
  induction l with
  | nil => simp [total]
  | cons a l ih =>
    have hc := compact_len (sortS a.2); have hs : (sortS a.2).length = a.2.length := (by simp [sortS]); rw [List.filter_cons]; split
    · simp only [List.map_cons, total, List.sum_cons] at ih ⊢; simp only [normA]; omega
    · simp only [total, List.map_cons, List.sum_cons] at ih ⊢; omega
theorem total_sorted (l : List Att) : total (sortedL l) ≤ total l := by
  rw [total_perm (sorted_perm l), ← total_grp l]; exact total_norm _
theorem sorted_name {l : List Att} {x : Att} (h : x ∈ sortedL l) : ∃ a ∈ l, a.2 ≠ [] ∧ lower a.1 = x.1 := by
  obtain ⟨n, hn, rfl⟩ := List.mem_map.1 h; have hN := (namesF_spec l [] (by simp [SS])).2 n; rw [show l.foldl namesS [] = namesF l from rfl] at hN; rcases hN.1 hn with h | h
  · simp at h
  · exact h
theorem sorted_val {l : List Att} {x : Att} (h : x ∈ sortedL l) {v : Str} (hv : v ∈ x.2) : ∃ a ∈ l, lower a.1 = x.1 ∧ v ∈ a.2 := by
  obtain ⟨n, hn, rfl⟩ := List.mem_map.1 h; have hV := (valsF_spec n l [] (by simp [SS])).2 v; rw [show l.foldl (valsS n) [] = valsF l n from rfl] at hV; rcases hV.1 hv with h | h
  · simp at h
  · exact h
theorem sorted_fit2 {l : List Att} (hl : Fit2 l) : Fit2 (sortedL l) := by
  refine ⟨⟨Nat.lt_of_le_of_lt (sorted_len l) hl.1.1, fun x hx => ⟨?_, ?_⟩⟩, Nat.lt_of_le_of_lt (total_sorted l) hl.2⟩
  · obtain ⟨a, ha, _, e⟩ := sorted_name hx; rw [← e, lower_len]; exact (hl.1.2 a ha).1
  · have h1 := total_mem hx; have h2 := total_sorted l; have h3 := hl.2; omega
def HasL (l : List Att) (n v : Str) : Prop := ∃ a ∈ l, lower a.1 = n ∧ v ∈ a.2
structure NF (s : List Att) : Prop where
  names : SS (s.map (·.1))
  vals : ∀ x ∈ s, SS x.2
  ne : ∀ x ∈ s, x.2 ≠ []
theorem lowc_lowc (c : UInt8) : lowc (lowc c) = lowc c := by
  unfold lowc; by_cases h : 65 ≤ (c.toNat : Int) ∧ (c.toNat : Int) ≤ 90
  · rw [if_pos h, if_neg]; rw [UInt8.toNat_add]; have : (32 : UInt8).toNat = 32 := rfl; omega
  · rw [if_neg h, if_neg h]
theorem lower_lower (s : Str) : lower (lower s) = lower s := by simp [lower, lowc_lowc]
theorem nf_sorted (l : List Att) : NF (sortedL l) := by
  have hN := namesF_spec l [] (by simp [SS]); refine ⟨?_, fun x hx => ?_, fun x hx => ?_⟩
  · rw [sortedL, List.map_map]; rw [show ((fun x : Att => x.1) ∘ fun n => (n, valsF l n)) = id from rfl, List.map_id]; exact hN.1
  · obtain ⟨n, _, rfl⟩ := List.mem_map.1 hx; exact (valsF_spec n l [] (by simp [SS])).1
  · obtain ⟨n, hn, rfl⟩ := List.mem_map.1 hx; have hV := (valsF_spec n l [] (by simp [SS])).2; rcases (hN.2 n).1 hn with h | ⟨a, ha, hne, e⟩
    · simp at h
    · obtain ⟨v, hv⟩ := List.exists_mem_of_ne_nil _ hne; exact List.ne_nil_of_mem ((hV v).2 (.inr ⟨a, ha, e, hv⟩))
theorem sorted_has (l : List Att) (n v : Str) : Has (sortedL l) n v ↔ HasL l n v := by
  have hN := namesF_spec l [] (by simp [SS]); constructor
  · rintro ⟨x, hx, rfl, hv⟩; obtain ⟨a, ha, e, h⟩ := sorted_val hx hv; exact ⟨a, ha, e, h⟩
  · rintro ⟨a, ha, e, hv⟩; refine ⟨(n, valsF l n), List.mem_map.2 ⟨n, ?_, rfl⟩, rfl, ?_⟩
    · exact (hN.2 n).2 (.inr ⟨a, ha, List.ne_nil_of_mem hv, e⟩)
    · exact ((valsF_spec n l [] (by simp [SS])).2 v).2 (.inr ⟨a, ha, e, hv⟩)
theorem nodup_inj {α : Type} {l : List α} (h : l.Nodup) {i j : Nat} (hi : i < l.length) (hj : j < l.length) (e : l[i] = l[j]) : i = j := by
  have h1 := List.pairwise_iff_getElem.1 h; rcases Nat.lt_trichotomy i j with h2 | h2 | h2
  · exact absurd e (h1 i j hi hj h2)
  · exact h2
  · exact absurd e.symm (h1 j i hj hi h2)
theorem nf_inj {s : List Att} (hs : NF s) {x y : Att} (hx : x ∈ s) (hy : y ∈ s) (h : x.1 = y.1) : x = y := by
  have hnd := hs.names.nodup; obtain ⟨i, hi, rfl⟩ := List.mem_iff_getElem.1 hx; obtain ⟨j, hj, rfl⟩ := List.mem_iff_getElem.1 hy; have := nodup_inj hnd (i := i) (j := j) (by simpa using hi) (by simpa using hj) (by simpa using h); subst this; rfl
theorem nf_ext {s t : List Att} (hs : NF s) (ht : NF t) (h : ∀ n v, Has s n v ↔ Has t n v) : s = t := by
  have e1 : s.map (·.1) = t.map (·.1) := by
    refine SS_ext hs.names ht.names fun n => ?_
    constructor
    · intro hn; obtain ⟨x, hx, rfl⟩ := List.mem_map.1 hn; obtain ⟨v, hv⟩ := List.exists_mem_of_ne_nil _ (hs.ne x hx); obtain ⟨y, hy, e, _⟩ := (h x.1 v).1 ⟨x, hx, rfl, hv⟩; exact List.mem_map.2 ⟨y, hy, e⟩
    · intro hn; obtain ⟨x, hx, rfl⟩ := List.mem_map.1 hn; obtain ⟨v, hv⟩ := List.exists_mem_of_ne_nil _ (ht.ne x hx); obtain ⟨y, hy, e, _⟩ := (h x.1 v).2 ⟨x, hx, rfl, hv⟩; exact List.mem_map.2 ⟨y, hy, e⟩
  have hl : s.length = t.length := by simpa using congrArg List.length e1
  refine List.ext_getElem hl fun i h1 h2 => ?_
  have en : s[i].1 = t[i].1 := by
    have := List.getElem_of_eq e1 (i := i) (by simpa using h1); simpa using this
  refine Prod.ext en ?_; refine SS_ext (hs.vals _ (gmm h1)) (ht.vals _ (gmm h2)) fun v => ?_
  constructor
  · intro hv; obtain ⟨y, hy, e, hv⟩ := (h s[i].1 v).1 ⟨_, gmm h1, rfl, hv⟩; rw [← nf_inj ht hy (gmm h2) (e.trans en)]; exact hv
  · intro hv; obtain ⟨y, hy, e, hv⟩ := (h t[i].1 v).2 ⟨_, gmm h2, rfl, hv⟩; rw [← nf_inj hs hy (gmm h1) (e.trans en.symm)]; exact hv
theorem sorted_ext {a b : List Att} (h : ∀ n v, HasL a n v ↔ HasL b n v) : sortedL a = sortedL b :=
  nf_ext (nf_sorted a) (nf_sorted b) fun n v => by rw [sorted_has, sorted_has, h]
theorem sorted_low {l : List Att} {x : Att} (h : x ∈ sortedL l) : lower x.1 = x.1 := by
  obtain ⟨a, _, _, e⟩ := sorted_name h; rw [← e, lower_lower]
theorem hasL_sorted (l : List Att) (n v : Str) : HasL (sortedL l) n v ↔ HasL l n v := by
  rw [← sorted_has l n v]; constructor
  · rintro ⟨x, hx, e, hv⟩; exact ⟨x, hx, (sorted_low hx).symm.trans e, hv⟩
  · rintro ⟨x, hx, e, hv⟩; exact ⟨x, hx, (sorted_low hx).trans e, hv⟩
theorem sorted_idem (l : List Att) : sortedL (sortedL l) = sortedL l := sorted_ext (hasL_sorted l)
theorem mem_findA {s : List Att} (hs : NF s) (n v : Str) : v ∈ findA n s ↔ Has s n v := by
  have key : ∀ (s : List Att), (∀ x ∈ s, ∀ y ∈ s, x.1 = y.1 → x = y) → (v ∈ findA n s ↔ Has s n v) := by
    intro s
    induction s with
    | nil => intro _; simp [findA, Has]
    | cons a s ih =>
      intro hi; rw [findA]; split
      · rename_i h
        constructor
        · intro hv; exact ⟨a, by simp, h, hv⟩
        · rintro ⟨y, hy, e, hv⟩; rw [hi a (by simp) y hy (h.trans e.symm)]; exact hv
      · rename_i h
        rw [ih fun x hx y hy => hi x (by simp [hx]) y (by simp [hy])]; constructor
        · rintro ⟨y, hy, e, hv⟩; exact ⟨y, by simp [hy], e, hv⟩
        · rintro ⟨y, hy, e, hv⟩; rcases List.mem_cons.1 hy with rfl | hy
          · exact absurd e h
          · exact ⟨y, hy, e, hv⟩
  exact key s fun x hx y hy => nf_inj hs hx hy
theorem mem_getL (l : List Att) (name v : Str) : v ∈ getL l name ↔ HasL l (lower name) v := by
  rw [getL, mem_findA (nf_sorted l), sorted_has]
theorem findA_SS {s : List Att} (h : ∀ x ∈ s, SS x.2) (n : Str) : SS (findA n s) := by
  induction s with
  | nil => simp [findA, SS]
  | cons a s ih =>
    rw [findA]; split
    · exact h a (by simp)
    · exact ih fun x hx => h x (by simp [hx])
theorem SS_getL (l : List Att) (name : Str) : SS (getL l name) := findA_SS (nf_sorted l).vals _
theorem getL_ext {a b : List Att} {n m : Str} (h : ∀ v, HasL a (lower n) v ↔ HasL b (lower m) v) : getL a n = getL b m :=
  SS_ext (SS_getL _ _) (SS_getL _ _) fun v => by rw [mem_getL, mem_getL, h]
theorem hasL_app (a b : List Att) (n v : Str) : HasL (a ++ b) n v ↔ HasL a n v ∨ HasL b n v := by
  simp only [HasL, List.mem_append]; constructor
  · rintro ⟨x, h | h, h2⟩
    · exact .inl ⟨x, h, h2⟩
    · exact .inr ⟨x, h, h2⟩
  · rintro (⟨x, h, h2⟩ | ⟨x, h, h2⟩)
    · exact ⟨x, .inl h, h2⟩
    · exact ⟨x, .inr h, h2⟩
theorem hasL_one (m : Str) (w : List Str) (n v : Str) : HasL [(m, w)] n v ↔ lower m = n ∧ v ∈ w := by simp [HasL]
theorem hasL_fil (l : List Att) (m n v : Str) : HasL ((sortedL l).filter fun x => !decide (x.1 = m)) n v ↔ n ≠ m ∧ HasL l n v := by
  rw [← hasL_sorted l]; constructor
  · rintro ⟨x, hx, e, hv⟩; obtain ⟨h1, h2⟩ := List.mem_filter.1 hx; rw [sorted_low h1] at e; subst e; exact ⟨by simpa using h2, x, h1, sorted_low h1, hv⟩
  · rintro ⟨hne, x, hx, e, hv⟩; refine ⟨x, List.mem_filter.2 ⟨hx, ?_⟩, e, hv⟩; rw [sorted_low hx] at e; simp [e, hne]
theorem hasL_set (l : List Att) (name : Str) (w : List Str) (n v : Str) : HasL (setL (sortedL l) name w) n v ↔ (n ≠ lower name ∧ HasL l n v) ∨ (n = lower name ∧ v ∈ w) := by
  rw [setL, hasL_sorted, hasL_app, hasL_fil, hasL_one, lower_lower, eq_comm (a := lower name)]
theorem getL_other (l : List Att) {name other : Str} (w : List Str) (h : ¬ lower name = lower other) : getL (setL (sortedL l) name w) other = getL l other :=
  getL_ext fun v => by
    rw [hasL_set]; have h' : ¬ lower other = lower name := fun e => h e.symm
    simp [h, h']
theorem chkV_zero (old : List Str) : ∀ (l b : List Str), chkV old b l = 0 ↔ (∀ v ∈ l, cleanB v = true ∧ v ∉ old ∧ v ∉ b) ∧ l.Nodup
  | [], b => by simp [chkV]
  | x :: l, b => by
    rw [chkV]; by_cases h1 : cleanB x = false
    · simp [h1]
    · rw [if_neg h1]; by_cases h2 : x ∈ old ∨ x ∈ b
      · rw [if_pos h2]; simp only [List.mem_cons, forall_eq_or_imp]; constructor
        · intro h; simp at h
        · rintro ⟨⟨⟨_, h3, h4⟩, _⟩, _⟩; rcases h2 with h | h
          · exact absurd h h3
          · exact absurd h h4
      · rw [if_neg h2, chkV_zero old l (b ++ [x])]; simp only [not_or] at h2; simp only [List.mem_cons, forall_eq_or_imp, List.mem_append, List.nodup_cons, List.mem_nil_iff, or_false, not_or]; have h1' : cleanB x = true := (by simpa using h1); constructor
        · rintro ⟨h3, h4⟩; refine ⟨⟨⟨h1', h2⟩, fun v hv => ⟨(h3 v hv).1, (h3 v hv).2.1, (h3 v hv).2.2.1⟩⟩, fun hx => ?_, h4⟩; exact (h3 x hx).2.2.2 rfl
        · rintro ⟨⟨_, h3⟩, h4, h5⟩; exact ⟨fun v hv => ⟨(h3 v hv).1, (h3 v hv).2.1, (h3 v hv).2.2, fun e => h4 (e ▸ hv)⟩, h5⟩
theorem remV_spec : ∀ (v old : List Str), old.Nodup → ((remV old v = none ∧ ¬ ((∀ x ∈ v, x ∈ old) ∧ v.Nodup)) ∨ (∃ o, remV old v = some o ∧ ((∀ x ∈ v, x ∈ old) ∧ v.Nodup) ∧ o = old.filter fun x => !decide (x ∈ v)))
  | [], old, _ => .inr ⟨old, rfl, by simp, (List.filter_eq_self.2 (by simp)).symm⟩
  | x :: v, old, hn => by
    rw [remV]; split
    · rename_i h
      refine .inl ⟨rfl, fun ⟨h2, _⟩ => ?_⟩; have hf := idxG_neg _ old 0 h; have := List.filter_eq_self.1 hf x (h2 x (by simp)); simp at this
    · rename_i h
      obtain ⟨i, h1, h2, h3, h4⟩ := idxG_pos _ old 0 h; simp only [Nat.zero_add] at h1; rw [h1, Int.toNat_natCast]; have hxi : old[i] = x := by
        rw [take_s h2, List.filter_append, h3] at h4; have h5 := (List.append_right_eq_self.1 h4); have := List.filter_eq_nil_iff.1 h5 old[i] (by simp); exact (by simpa using this : x = old[i]).symm
      have he : old.eraseIdx i = old.filter fun y => !decide (y = x) := by
        have hsp : old = old.take i ++ x :: old.drop (i + 1) := by
          have := List.take_append_drop i old; rw [List.drop_eq_getElem_cons h2, hxi] at this; exact this.symm
        have hnd := hn; rw [hsp] at hnd; obtain ⟨n1, n2, n3⟩ := List.nodup_append.1 hnd; have n4 := (List.nodup_cons.1 n2).1; have hf : (old.filter fun y => !decide (y = x)) = (old.take i ++ x :: old.drop (i + 1)).filter fun y => !decide (y = x) := congrArg _ hsp
        rw [List.eraseIdx_eq_take_drop_succ, hf, List.filter_append, List.filter_cons]; simp only [decide_true, Bool.not_true, Bool.false_eq_true, if_false]; congr 1
        · exact (List.filter_eq_self.2 fun y hy => by simpa using fun e : y = x => n3 y hy x (by simp) e).symm
        · exact (List.filter_eq_self.2 fun y hy => by simpa using fun e : y = x => n4 (e ▸ hy)).symm
      rw [he]; have hxo : x ∈ old := hxi ▸ gmm h2; have ih := remV_spec v (old.filter fun y => !decide (y = x)) (hn.sublist List.filter_sublist); have key : ((∀ y ∈ v, y ∈ old.filter fun z => !decide (z = x)) ∧ v.Nodup) ↔ ((∀ y ∈ x :: v, y ∈ old) ∧ (x :: v).Nodup) := by
        simp only [List.mem_filter, List.mem_cons, forall_eq_or_imp, List.nodup_cons]; constructor
        · rintro ⟨a, b⟩; exact ⟨⟨hxo, fun y hy => (a y hy).1⟩, fun hx => by have := (a x hx).2; simp at this, b⟩
        · rintro ⟨⟨_, a⟩, b, c⟩; exact ⟨fun y hy => ⟨a y hy, by simpa using fun e : y = x => b (e ▸ hy)⟩, c⟩
      rcases ih with ⟨a, b⟩ | ⟨o, a, b, c⟩
      · exact .inl ⟨a, fun h => b (key.2 h)⟩
      · refine .inr ⟨o, a, key.1 b, ?_⟩; rw [c, List.filter_filter]; refine List.filter_congr fun y _ => ?_
        by_cases e1 : y = x <;> by_cases e2 : y ∈ v <;> simp [e1, e2]
end Go.Proofs.Tz
namespace Go.Proofs.Tz
open Go.Vw Go.RowKit Go.Proofs Go.Sort
theorem valid_norm {s : Str} : validU s = true ↔ ∃ l, normU s = some l := by
  unfold validU; rw [Option.isSome_iff_exists]
theorem norm_nil : normU [] = some [] := by decide
theorem norm_ne {s : Str} {l : List Pair} (h : normU s = some l) : s = [] ↔ l = [] := by
  constructor
  · rintro rfl; rw [norm_nil] at h; simpa using h.symm
  · rintro rfl; exact normU_inj h norm_nil
theorem fmtC_len {p : Pair} (h : NP p) : (fmtC p).length ≤ 577 := by
  obtain ⟨h1, h2⟩ := compU_ok h; simp only [nameB, cleanB, Bool.and_eq_true, decide_eq_true_eq] at h1 h2; have e1 : (escV (foldS p.2)).length ≤ 2 * (foldS p.2).length := by
    unfold escV; generalize foldS p.2 = s
    induction s with
    | nil => simp
    | cons c s ih =>
      rw [List.flatMap_cons, List.length_append, List.length_cons]; have : (if specB c = true then [92, c] else [c]).length ≤ 2 := by split <;> simp
      omega
  have e2 : (foldS p.2).length ≤ p.2.length := by
    have hq : ∀ (s : Str) (c : UInt8), (sqz c s).length ≤ s.length := by
      intro s
      induction s with
      | nil => intro c; simp [sqz]
      | cons x s ih =>
        intro c; simp only [sqz]; have := ih x; split <;> simp <;> omega
    unfold foldS; have h3 := hq (lower (trimB p.2)) 0; have h4 : (lower (trimB p.2)).length = (trimB p.2).length := (by simp [lower]); have h5 : (trimB p.2).length ≤ p.2.length := trimB_len p.2; omega
  have e3 : (lower p.1).length = p.1.length := (by simp [lower]); simp only [fmtC, List.length_append, List.length_cons]; omega
theorem valid_len {s : Str} (h : validU s = true) : s.length ≤ 5000 := by
  obtain ⟨l, hl⟩ := valid_norm.1 h; obtain ⟨h1, h8, hs, _⟩ := normU_inv hl; have key : ∀ l : List Pair, (∀ p ∈ l, NP p) → (joinB 44 (l.map fmtC)).length ≤ l.length * 578 := by
    intro l
    induction l with
    | nil => intro _; simp [joinB]
    | cons p l ih =>
      intro h; have hp := fmtC_len (h p (by simp)); have ih := ih (fun q hq => h q (by simp [hq])); cases l with
      | nil => simp [joinB]; omega
      | cons q l =>
        simp only [List.map_cons, joinB, List.length_append, List.length_cons] at ih ⊢; omega
  have := key l h1; rw [← hs] at this; omega
theorem parent_norm {s : Str} {p : Pair} {l : List Pair} (h : normU s = some (p :: l)) : ∃ t, parentU s = (t, true) ∧ normU t = some l := by
  have h8 := (normU_inv h).2.1; have ha := normU_app h h (n := l) (fun q hq => .inl (by simp [hq])) (by simp at h8; omega); refine ⟨_, ?_, ha.2⟩; unfold parentU; rw [h]; simp only [ha.1]
theorem under_iff {s b : Str} : underU s b = true ↔ ∃ l m, normU s = some l ∧ normU b = some m ∧ m <:+ l := by
  unfold underU; split
  · rename_i l m h1 h2
    rw [show (decide (m.length ≤ l.length) && decide (l.drop (l.length - m.length) = m)) = sufB l m from rfl, sufB_iff]; constructor
    · intro h; exact ⟨l, m, h1, h2, h⟩
    · rintro ⟨l', m', e1, e2, h⟩; rw [h1] at e1; rw [h2] at e2; cases e1; cases e2
      exact h
  · rename_i h
    constructor
    · intro h2; cases h2
    · rintro ⟨l, m, h1, h2, _⟩; exact absurd h2 (h l m h1)
theorem under_self {s : Str} (h : validU s = true) : underU s s = true := by
  obtain ⟨l, hl⟩ := valid_norm.1 h; exact under_iff.2 ⟨l, l, hl, hl, List.suffix_refl l⟩
theorem under_trans {a b c : Str} (h1 : underU a b = true) (h2 : underU b c = true) : underU a c = true := by
  obtain ⟨l, m, e1, e2, s1⟩ := under_iff.1 h1; obtain ⟨m', n, e3, e4, s2⟩ := under_iff.1 h2; rw [e2] at e3; cases e3; exact under_iff.2 ⟨l, n, e1, e4, s2.trans s1⟩
theorem under_valid {a b : Str} (h : underU a b = true) : validU a = true ∧ validU b = true := by
  obtain ⟨l, m, e1, e2, _⟩ := under_iff.1 h; exact ⟨valid_norm.2 ⟨l, e1⟩, valid_norm.2 ⟨m, e2⟩⟩
theorem under_nil {s : Str} : underU s [] = validU s := by
  rw [Bool.eq_iff_iff]; constructor
  · intro h; exact (under_valid h).1
  · intro h; obtain ⟨l, hl⟩ := valid_norm.1 h; exact under_iff.2 ⟨l, [], hl, norm_nil, List.nil_suffix⟩
theorem rebase_norm {s fr to : Str} {k m n : List Pair} (h1 : normU s = some (k ++ m)) (h2 : normU fr = some m) (h3 : normU to = some n) :
    (k.length + n.length ≤ 8 → ∃ t, rebaseU s fr to = (t, 0) ∧ normU t = some (k ++ n)) ∧ (8 < k.length + n.length → rebaseU s fr to = ([], 3)) := by
  have hsuf : sufB (k ++ m) m = true := sufB_iff.2 (List.suffix_append k m); have htk : (k ++ m).take ((k ++ m).length - m.length) = k := (by simp); have hnp : ∀ p ∈ k ++ n, NP p := fun p hp => by
    rcases List.mem_append.1 hp with hp | hp
    · exact (normU_inv h1).1 p (List.mem_append_left _ hp)
    · exact (normU_inv h3).1 p hp
  have hrb : rebaseU s fr to = formatU (k ++ n) := by
    unfold rebaseU; rw [h1, h2, h3]; simp only [hsuf, if_true, htk]
  constructor
  · intro h8; have ha := normU_of hnp (by simpa using h8); exact ⟨_, by rw [hrb]; exact ha.1, ha.2⟩
  · intro h8; rw [hrb]; have hE : pairsE (k ++ n) = 0 := pairsE_zero.2 fun p hp => (hnp p hp).pairE
    have hc : checkU (k ++ n) = 3 := by rw [checkU, if_pos hE, if_pos (by simpa using h8)]
    rw [formatU, hc]; rfl
theorem under_parts {s b : Str} (h : underU s b = true) : ∃ k m, normU s = some (k ++ m) ∧ normU b = some m := by
  obtain ⟨l, m, e1, e2, t, rfl⟩ := under_iff.1 h; exact ⟨t, m, e1, e2⟩
theorem depth_norm {s : Str} {l : List Pair} (h : normU s = some l) : depthU s = l.length := by simp [depthU, h]
abbrev Ent := Str × List Att
def keysE (E : List Ent) : List Str := E.map (·.1)
def hasE (E : List Ent) (s : Str) : Bool := E.any fun e => decide (e.1 = s)
def getE (E : List Ent) (s : Str) : Option (List Att) := (E.find? fun e => decide (e.1 = s)).map (·.2)
def insE (e : Ent) : List Ent → List Ent
  | [] => [e]
  | x :: l => if 0 < cmpN x.1 e.1 then e :: x :: l else x :: insE e l
def delE (E : List Ent) (s : Str) : List Ent := E.filter fun e => !decide (e.1 = s)
def OrdE (E : List Ent) : Prop := NS (keysE E)
theorem hasE_iff {E : List Ent} {s : Str} : hasE E s = true ↔ s ∈ keysE E := by simp [hasE, keysE]
theorem getE_mem {E : List Ent} (h : OrdE E) {e : Ent} (he : e ∈ E) : getE E e.1 = some e.2 := by
  induction E with
  | nil => simp at he
  | cons x l ih =>
    have hn := List.nodup_cons.1 (NS.nodup h); rcases List.mem_cons.1 he with rfl | he
    · simp [getE]
    · have hne : ¬ x.1 = e.1 := fun q => hn.1 (List.mem_map.2 ⟨e, he, q.symm⟩)
      have := ih (List.pairwise_cons.1 h).2 he; simp only [getE, List.find?_cons, hne, decide_false] at this ⊢; exact this
theorem getE_none {E : List Ent} {s : Str} (h : hasE E s = false) : getE E s = none := by
  simp only [getE, Option.map_eq_none_iff, List.find?_eq_none, decide_eq_true_eq]; intro e he q; have : hasE E s = true := hasE_iff.2 (List.mem_map.2 ⟨e, he, q⟩); rw [h] at this; cases this
theorem getE_some {E : List Ent} {s : Str} (h : hasE E s = true) : ∃ a, getE E s = some a ∧ (s, a) ∈ E := by
  obtain ⟨e, he, hs⟩ := List.any_eq_true.1 h; cases hf : E.find? (fun e => decide (e.1 = s)) with
  | none => rw [List.find?_eq_none] at hf; exact absurd hs (hf e he)
  | some x =>
    have h1 := List.find?_some hf; have h2 := List.mem_of_find?_eq_some hf; simp only [decide_eq_true_eq] at h1; exact ⟨x.2, by simp [getE, hf], by rw [← h1]; exact h2⟩
theorem insE_perm (e : Ent) : ∀ E : List Ent, (insE e E).Perm (e :: E)
  | [] => .refl _
  | x :: l => by
    rw [insE]; split
    · exact .refl _
    · exact ((insE_perm e l).cons x).trans (.swap _ _ _)
theorem insE_mem {e x : Ent} {E : List Ent} : x ∈ insE e E ↔ x = e ∨ x ∈ E := by rw [(insE_perm e E).mem_iff]; simp
theorem insE_keys {e : Ent} {E : List Ent} {s : Str} : s ∈ keysE (insE e E) ↔ s = e.1 ∨ s ∈ keysE E := by
  unfold keysE; rw [((insE_perm e E).map _).mem_iff]; simp
theorem insE_ord {e : Ent} : ∀ {E : List Ent}, OrdE E → e.1 ∉ keysE E → OrdE (insE e E)
  | [], _, _ => by simp [OrdE, NS, insE, keysE]
  | x :: l, h, hn => by
    have hp := List.pairwise_cons.1 h; have hne : cmpN x.1 e.1 ≠ 0 := fun q => hn (by rw [← cmpN_zero.1 q]; simp [keysE])
    rw [insE]; split
    · rename_i hc
      have hxe : cmpN e.1 x.1 < 0 := by rw [cmpN_swap x.1 e.1]; omega
      refine List.pairwise_cons.2 ⟨fun y hy => ?_, h⟩; rcases List.mem_cons.1 hy with rfl | hy
      · exact hxe
      · exact cmpN_trans hxe (hp.1 y hy)
    · rename_i hc
      refine List.pairwise_cons.2 ⟨fun y hy => ?_, insE_ord hp.2 (fun q => hn (by simp [keysE] at q ⊢; exact .inr q))⟩; rcases insE_keys.1 hy with rfl | hy
      · show cmpN x.1 e.1 < 0
        omega
      · exact hp.1 y hy
theorem OrdE.ext {A B : List Ent} (ha : OrdE A) (hb : OrdE B) (h : A.Perm B) : A = B := by
  refine h.eq_of_pairwise (le := fun x y : Ent => cmpN x.1 y.1 < 0) (fun x y _ _ h1 h2 => ?_) (List.pairwise_map.1 ha) (List.pairwise_map.1 hb); have := cmpN_trans h1 h2; rw [cmpN_self] at this; omega
theorem OrdE.filter {E : List Ent} (h : OrdE E) (f : Ent → Bool) : OrdE (E.filter f) := (List.Pairwise.sublist (List.filter_sublist.map _) h)
theorem foldIns_perm : ∀ (L E : List Ent), (L.foldl (fun E e => insE e E) E).Perm (L ++ E)
  | [], E => .refl _
  | e :: L, E => by
    rw [List.foldl_cons]; refine (foldIns_perm L _).trans ?_; refine ((insE_perm e E).append_left L).trans ?_; simp only [List.cons_append]; exact List.perm_middle
theorem foldIns_ord : ∀ {L E : List Ent}, OrdE E → (keysE L).Nodup → (∀ e ∈ L, e.1 ∉ keysE E) → OrdE (L.foldl (fun E e => insE e E) E)
  | [], E, h, _, _ => h
  | e :: L, E, h, hn, hd => by
    rw [List.foldl_cons]; have hn' := List.nodup_cons.1 hn; refine foldIns_ord (insE_ord h (hd e (by simp))) hn'.2 (fun x hx q => ?_); rcases insE_keys.1 q with q | q
    · exact hn'.1 (List.mem_map.2 ⟨x, hx, q⟩)
    · exact hd x (by simp [hx]) q
theorem swo_names : SWO (ltOf cmpN) where
  irrefl x := by simp [ltOf, cmpN_self]
  trans x y z h1 h2 := by
    simp only [ltOf, decide_eq_true_eq] at *; exact cmpN_trans h1 h2
  ntrans x y z h1 h2 := by
    simp only [ltOf, decide_eq_false_iff_not] at *; intro h3; have hs1 := cmpN_swap x y; have hs2 := cmpN_swap y z; have key : cmpN z x < 0 ∨ z = x := by
      by_cases e1 : cmpN z y = 0
      · have e1' := cmpN_zero.1 e1; subst e1'; by_cases e2 : cmpN z x = 0
        · exact .inr (cmpN_zero.1 e2)
        · exact .inl (by omega)
      · by_cases e2 : cmpN y x = 0
        · have e2' := cmpN_zero.1 e2; subst e2'; exact .inl (by omega)
        · exact .inl (cmpN_trans (by omega : cmpN z y < 0) (by omega))
    rcases key with h | rfl
    · have := cmpN_trans h h3; rw [cmpN_self] at this; omega
    · rw [cmpN_self] at h3; omega
theorem sort_names {l K : List Str} (hK : NS K) (hp : l.Perm K) : sortL cmpN l = K := by
  obtain ⟨h1, h2⟩ := sortL_perm swo_names l; have hn : (sortL cmpN l).Nodup := ((h1.trans hp).nodup_iff).2 hK.nodup; refine NS_ext (List.pairwise_iff_getElem.2 fun i j hi hj hij => ?_) hK (fun x => (h1.trans hp).mem_iff); have h3 := h2 i j hij hj; simp only [ltOf, decide_eq_false_iff_not] at h3; have h4 := cmpN_swap (sortL cmpN l)[i] (sortL cmpN l)[j]; have h5 : cmpN (sortL cmpN l)[i] (sortL cmpN l)[j] ≠ 0 := fun q => (List.pairwise_iff_getElem.1 hn) i j hi hj hij (cmpN_zero.1 q)
  omega
def properU (s : Str) : Bool := !decide (s = []) && validU s
def parentedE (E : List Ent) (s : Str) : Bool := (parentU s).2 && hasE E (parentU s).1
def kidsE (E : List Ent) (s : Str) : List Str := (keysE E).filter fun x => (parentU x).2 && decide ((parentU x).1 = s)
def subE (E : List Ent) (b : Str) : List Ent := E.filter fun e => decide (b = []) || underU e.1 b
def subtreeE (E : List Ent) (b : Str) : List Ent := if b ≠ [] ∧ hasE E b = false then [] else subE E b
def addE (E : List Ent) (n : Str) (a : List Att) : List Ent × Int :=
  if properU n = false then (E, 5) else if hasE E n = true then (E, 7) else if parentedE E n = false then (E, 6) else if 256 ≤ E.length then (E, 3) else (insE (n, sortedL a) E, 0)
def putE (E : List Ent) (n : Str) (a : List Att) : List Ent × Int :=
  if hasE E n = false then (E, 6) else (insE (n, sortedL a) (delE E n), 0)
def deleteE (E : List Ent) (s : Str) : List Ent × Int :=
  if hasE E s = false then (E, 6) else if depthU s = 1 ∨ kidsE E s ≠ [] then (E, 12) else (delE E s, 0)
def deepE (E : List Ent) (fr to : Str) : Bool := (subE E fr).any fun e => decide ((8 : Int) < depthU e.1 - depthU fr + depthU to)
def obsE (E : List Ent) (fr to : Str) : Int :=
  if hasE E fr = false then 6 else if properU to = false then 5 else if hasE E to = true then 7 else if underU to fr = true then 28 else if parentedE E to = false then 6 else if depthU fr = 1 then 12 else if deepE E fr to = true then 3 else 0
def renU (fr to s : Str) : Str := if underU s fr = true then (rebaseU s fr to).1 else s
def movedE (E : List Ent) (fr to : Str) : List Ent := ((subE E fr).map fun e => ((rebaseU e.1 fr to).1, e.2)).foldl (fun E e => insE e E) (E.filter fun e => !underU e.1 fr)
def moveE (E : List Ent) (fr to : Str) : List Ent × Int := if obsE E fr to = 0 then (movedE E fr to, 0) else (E, obsE E fr to)
structure TI (E : List Ent) : Prop where
  ord : OrdE E
  proper : ∀ e ∈ E, properU e.1 = true
  normal : ∀ e ∈ E, sortedL e.2 = e.2
  linked : ∀ e ∈ E, depthU e.1 ≠ 1 → hasE E (parentU e.1).1 = true
  few : E.length ≤ 256
theorem proper_norm {s : Str} (h : properU s = true) : ∃ p l, normU s = some (p :: l) := by
  simp only [properU, Bool.and_eq_true, Bool.not_eq_true', decide_eq_false_iff_not] at h; obtain ⟨l, hl⟩ := valid_norm.1 h.2; cases l with
  | nil => exact absurd ((norm_ne hl).2 rfl) h.1
  | cons p l => exact ⟨p, l, hl⟩
theorem proper_of {s : Str} {l : List Pair} (h : normU s = some l) (hl : l ≠ []) : properU s = true := by
  simp only [properU, Bool.and_eq_true, Bool.not_eq_true', decide_eq_false_iff_not]; exact ⟨fun e => hl ((norm_ne h).1 e), valid_norm.2 ⟨l, h⟩⟩
theorem proper_len {s : Str} (h : properU s = true) : s.length ≤ 5000 := by
  simp only [properU, Bool.and_eq_true] at h; exact valid_len h.2
theorem proper_valid {s : Str} (h : properU s = true) : validU s = true := by
  simp only [properU, Bool.and_eq_true] at h; exact h.2
theorem TI.key {E : List Ent} (h : TI E) {s : Str} (hs : s ∈ keysE E) : properU s = true := by
  obtain ⟨e, he, rfl⟩ := List.mem_map.1 hs; exact h.proper e he
theorem TI.nodup {E : List Ent} (h : TI E) : (keysE E).Nodup := NS.nodup h.ord
theorem delE_keys {E : List Ent} {s x : Str} : x ∈ keysE (delE E s) ↔ x ∈ keysE E ∧ x ≠ s := by
  simp only [keysE, delE, List.mem_map, List.mem_filter, Bool.not_eq_true', decide_eq_false_iff_not]; constructor
  · rintro ⟨e, ⟨h1, h2⟩, rfl⟩; exact ⟨⟨e, h1, rfl⟩, h2⟩
  · rintro ⟨⟨e, h1, rfl⟩, h2⟩; exact ⟨e, ⟨h1, h2⟩, rfl⟩
theorem delE_len {E : List Ent} {s : Str} (h : OrdE E) (hs : hasE E s = true) : (delE E s).length + 1 = E.length := by
  induction E with
  | nil => simp [hasE] at hs
  | cons x l ih =>
    have hn := List.nodup_cons.1 (NS.nodup h); by_cases hx : x.1 = s
    · have : delE l s = l := List.filter_eq_self.2 (fun e he => by
        simp only [Bool.not_eq_true', decide_eq_false_iff_not]; intro q; exact hn.1 (List.mem_map.2 ⟨e, he, q.trans hx.symm⟩))
      simp only [delE] at this; simp [delE, hx, this]
    · have hs' : hasE l s = true := (by simpa [hasE, hx] using hs); have := ih (List.pairwise_cons.1 h).2 hs'; simp only [delE] at this; simp [delE, hx]; omega
theorem TI.up {E : List Ent} (h : TI E) {n : List Pair} {t : Str} (ht : normU t = some n) (hn : n ≠ []) : ∀ (k : List Pair) {s : Str}, normU s = some (k ++ n) → s ∈ keysE E → t ∈ keysE E
  | [], s, hs, hm => by
    rw [List.nil_append] at hs; rw [normU_inj ht hs]; exact hm
  | p :: k, s, hs, hm => by
    obtain ⟨e, he, rfl⟩ := List.mem_map.1 hm; obtain ⟨q, h1, h2⟩ := parent_norm (p := p) (l := k ++ n) hs; have hd : depthU e.1 ≠ 1 := by
      rw [depth_norm hs]; have : 0 < n.length := List.length_pos_iff.2 hn; simp only [List.cons_append, List.length_cons, List.length_append]; omega
    have h3 := h.linked e he hd; rw [h1] at h3; exact h.up ht hn k h2 (hasE_iff.1 h3)
theorem TI.not_below {E : List Ent} (h : TI E) {t s : Str} (ht : properU t = true) (hn : hasE E t = false) (hs : s ∈ keysE E) : underU s t = false := by
  cases hu : underU s t with
  | false => rfl
  | true =>
    obtain ⟨k, m, e1, e2⟩ := under_parts hu; obtain ⟨p, l, e3⟩ := proper_norm ht; rw [e2] at e3; cases e3
    have := hasE_iff.2 (h.up e2 (by simp) k e1 hs); rw [hn] at this; cases this
theorem TI.ins {E : List Ent} (h : TI E) {n : Str} {a : List Att} (h1 : properU n = true) (h2 : hasE E n = false) (h3 : depthU n ≠ 1 → hasE E (parentU n).1 = true) (h4 : E.length < 256) : TI (insE (n, sortedL a) E) where
  ord := insE_ord h.ord (fun q => by rw [hasE_iff.2 q] at h2; cases h2)
  proper e he := by
    rcases insE_mem.1 he with rfl | he
    · exact h1
    · exact h.proper e he
  normal e he := by
    rcases insE_mem.1 he with rfl | he
    · exact sorted_idem a
    · exact h.normal e he
  linked e he hd := by
    rcases insE_mem.1 he with rfl | he
    · exact hasE_iff.2 (insE_keys.2 (.inr (hasE_iff.1 (h3 hd))))
    · exact hasE_iff.2 (insE_keys.2 (.inr (hasE_iff.1 (h.linked e he hd))))
  few := by rw [(insE_perm _ _).length_eq]; simp; omega
theorem parented_depth {E : List Ent} {n : Str} (h : parentedE E n = true) : hasE E (parentU n).1 = true := by
  simp only [parentedE, Bool.and_eq_true] at h; exact h.2
theorem TI.add {E : List Ent} (h : TI E) (n : Str) (a : List Att) : TI (addE E n a).1 := by
  unfold addE; split
  · exact h
  split
  · exact h
  split
  · exact h
  split
  · exact h
  rename_i h1 h2 h3 h4
  exact h.ins (by simpa using h1) (by simpa using h2) (fun _ => parented_depth (by simpa using h3)) (by omega)
theorem TI.put {E : List Ent} (h : TI E) (n : Str) (a : List Att) : TI (putE E n a).1 := by
  unfold putE; split
  · exact h
  rename_i h1
  have h1' : hasE E n = true := (by simpa using h1); have hk : ∀ x, x ∈ keysE (insE (n, sortedL a) (delE E n)) ↔ x ∈ keysE E := fun x => by
    rw [insE_keys, delE_keys]; by_cases hx : x = n
    · subst hx; simp [hasE_iff.1 h1']
    · simp [hx]
  have hnot : n ∉ keysE (delE E n) := fun q => (delE_keys.1 q).2 rfl
  exact {
    ord := insE_ord (h.ord.filter _) hnot
    proper := fun e he => h.key ((hk e.1).1 (List.mem_map.2 ⟨e, he, rfl⟩))
    normal := fun e he => by
      rcases insE_mem.1 he with rfl | he
      · exact sorted_idem a
      · exact h.normal e (List.mem_filter.1 he).1
    linked := fun e he hd => by
      obtain ⟨e', he', hs⟩ := List.mem_map.1 ((hk e.1).1 (List.mem_map.2 ⟨e, he, rfl⟩)); have := h.linked e' he' (by rw [show e'.1 = e.1 from hs]; exact hd); rw [show e'.1 = e.1 from hs] at this; exact hasE_iff.2 ((hk _).2 (hasE_iff.1 this))
    few := by
      rw [(insE_perm _ _).length_eq]; have := delE_len h.ord h1'; have := h.few; simp; omega }
theorem TI.delete {E : List Ent} (h : TI E) (s : Str) : TI (deleteE E s).1 := by
  unfold deleteE; split
  · exact h
  split
  · exact h
  rename_i h1 h2
  have hk : kidsE E s = [] := Classical.byContradiction fun q => h2 (.inr q)
  exact {
    ord := h.ord.filter _
    proper := fun e he => h.proper e (List.mem_filter.1 he).1
    normal := fun e he => h.normal e (List.mem_filter.1 he).1
    linked := fun e he hd => by
      have he' := (List.mem_filter.1 he).1; have hl := h.linked e he' hd; refine hasE_iff.2 (delE_keys.2 ⟨hasE_iff.1 hl, fun q => ?_⟩); obtain ⟨p, l, hn⟩ := proper_norm (h.proper e he'); obtain ⟨t, ht, _⟩ := parent_norm hn; have : e.1 ∈ kidsE E s := List.mem_filter.2 ⟨List.mem_map.2 ⟨e, he', rfl⟩, by rw [ht] at q ⊢; simpa using q⟩; rw [hk] at this; cases this
    few := Nat.le_trans (List.length_filter_le _ _) h.few }
structure MV (E : List Ent) (fr to : Str) : Prop where
  ti : TI E
  src : hasE E fr = true
  tgt : properU to = true
  free : hasE E to = false
  out : underU to fr = false
  par : parentedE E to = true
  low : depthU fr ≠ 1
  deep : deepE E fr to = false
theorem MV.of {E : List Ent} {fr to : Str} (h : TI E) (ho : obsE E fr to = 0) : MV E fr to := by
  unfold obsE at ho; split at ho
  · cases ho
  split at ho
  · cases ho
  split at ho
  · cases ho
  split at ho
  · cases ho
  split at ho
  · cases ho
  split at ho
  · cases ho
  split at ho
  · cases ho
  rename_i h1 h2 h3 h4 h5 h6 h7
  exact ⟨h, by simpa using h1, by simpa using h2, by simpa using h3, by simpa using h4, by simpa using h5, h6, by simpa using h7⟩
theorem mem_subE {E : List Ent} {b : Str} (hb : b ≠ []) {e : Ent} : e ∈ subE E b ↔ e ∈ E ∧ underU e.1 b = true := by
  simp [subE, List.mem_filter, hb]
section
variable {E : List Ent} {fr to : Str} (h : MV E fr to)
include h
theorem MV.frp : properU fr = true := h.ti.key (hasE_iff.1 h.src)
theorem MV.frn : fr ≠ [] := fun e => by have := h.frp; subst e; simp [properU] at this
theorem MV.below {s : Str} (hs : s ∈ keysE E) (hu : underU s fr = true) : ∃ k m n t, normU s = some (k ++ m) ∧ normU fr = some m ∧ normU to = some n ∧ m ≠ [] ∧ n ≠ [] ∧ k.length + n.length ≤ 8 ∧ rebaseU s fr to = (t, 0) ∧ normU t = some (k ++ n) ∧ renU fr to s = t := by
  obtain ⟨k, m, e1, e2⟩ := under_parts hu; obtain ⟨q, n, e3⟩ := proper_norm h.tgt; obtain ⟨p, m', e4⟩ := proper_norm h.frp; rw [e2] at e4; obtain ⟨e, he, rfl⟩ := List.mem_map.1 hs; have hd : k.length + (q :: n).length ≤ 8 := by
    have := h.deep; simp only [deepE, List.any_eq_false, decide_eq_true_eq, Int.not_lt] at this; have := this e ((mem_subE h.frn).2 ⟨he, hu⟩); rw [depth_norm e1, depth_norm e2, depth_norm e3] at this; simp only [List.length_append, List.length_cons] at this ⊢; omega
  obtain ⟨t, h1, h2⟩ := (rebase_norm e1 e2 e3).1 hd; refine ⟨k, m, q :: n, t, e1, e2, e3, by cases e4; simp, by simp, hd, h1, h2, ?_⟩; rw [renU, if_pos hu, h1]
omit h in
theorem MV.ren_above {s : Str} (hu : underU s fr = false) : renU fr to s = s := by rw [renU, hu]; simp
theorem MV.ren_under {s : Str} (hs : s ∈ keysE E) (hu : underU s fr = true) : underU (renU fr to s) to = true := by
  obtain ⟨k, m, n, t, e1, e2, e3, _, _, _, _, e4, e5⟩ := h.below hs hu; rw [e5]; exact under_iff.2 ⟨k ++ n, n, e4, e3, List.suffix_append k n⟩
theorem MV.inj {s t : Str} (hs : s ∈ keysE E) (ht : t ∈ keysE E) (e : renU fr to s = renU fr to t) : s = t := by
  cases hu : underU s fr <;> cases hv : underU t fr
  · rwa [MV.ren_above hu, MV.ren_above hv] at e
  · have := h.ren_under ht hv; rw [← e, MV.ren_above hu, h.ti.not_below h.tgt h.free hs] at this; cases this
  · have := h.ren_under hs hu; rw [e, MV.ren_above hv, h.ti.not_below h.tgt h.free ht] at this; cases this
  · obtain ⟨k, m, n, x, e1, e2, e3, _, _, _, _, e4, e5⟩ := h.below hs hu; obtain ⟨k', m', n', y, f1, f2, f3, _, _, _, _, f4, f5⟩ := h.below ht hv; rw [e2] at f2; cases f2; rw [e3] at f3; cases f3; rw [e5, f5] at e; subst e; rw [e4] at f4; simp only [Option.some.injEq] at f4; have : k = k' := List.append_cancel_right f4; subst this; exact normU_inj e1 f1
theorem MV.perm : (movedE E fr to).Perm (E.map fun e => (renU fr to e.1, e.2)) := by
  have h1 := foldIns_perm ((subE E fr).map fun e => ((rebaseU e.1 fr to).1, e.2)) (E.filter fun e => !underU e.1 fr); have h2 : ((subE E fr).map fun e => ((rebaseU e.1 fr to).1, e.2)) = ((subE E fr).map fun e => (renU fr to e.1, e.2)) := List.map_congr_left fun e he => by
    have := ((mem_subE h.frn).1 he).2; simp [renU, this]
  have h3 : (E.filter fun e => !underU e.1 fr) = ((E.filter fun e => !underU e.1 fr).map fun e => (renU fr to e.1, e.2)) := by
    refine (List.map_id _).symm.trans (List.map_congr_left fun e he => ?_); have := (List.mem_filter.1 he).2; simp only [Bool.not_eq_true'] at this; rw [MV.ren_above this]; rfl
  refine h1.trans ?_; rw [h2, h3, ← List.map_append]; refine List.Perm.map _ ?_; have h4 : subE E fr = E.filter fun e => underU e.1 fr := by
    unfold subE; refine List.filter_congr fun e _ => ?_
    simp [h.frn]
  rw [h4]; exact List.filter_append_perm _ E
theorem MV.keys {x : Str} : x ∈ keysE (movedE E fr to) ↔ ∃ s ∈ keysE E, renU fr to s = x := by
  unfold keysE; rw [(h.perm.map _).mem_iff]; simp only [List.map_map, List.mem_map, Function.comp_apply]; constructor
  · rintro ⟨e, he, rfl⟩; exact ⟨e.1, ⟨e, he, rfl⟩, rfl⟩
  · rintro ⟨_, ⟨e, he, rfl⟩, rfl⟩; exact ⟨e, he, rfl⟩
theorem MV.ord : OrdE (movedE E fr to) := by
  refine foldIns_ord (h.ti.ord.filter _) ?_ ?_
  · unfold keysE; rw [List.map_map]; have : (subE E fr).map ((fun e : Ent => e.1) ∘ fun e => ((rebaseU e.1 fr to).1, e.2)) = (keysE (subE E fr)).map (renU fr to) := by
      unfold keysE; rw [List.map_map]; refine List.map_congr_left fun e he => ?_
      have := ((mem_subE h.frn).1 he).2; simp [renU, this]
    rw [this]; have hsub : ∀ x ∈ keysE (subE E fr), x ∈ keysE E := fun x hx => by
      obtain ⟨e, he, rfl⟩ := List.mem_map.1 hx; exact List.mem_map.2 ⟨e, (List.mem_filter.1 he).1, rfl⟩
    have hnd : (keysE (subE E fr)).Nodup := NS.nodup (h.ti.ord.filter _); exact List.pairwise_map.2 (List.Pairwise.imp_of_mem (fun {x y} hx hy hne e => hne (h.inj (hsub x hx) (hsub y hy) e)) hnd)
  · intro e he q; obtain ⟨e', he', rfl⟩ := List.mem_map.1 he; obtain ⟨h1, h2⟩ := (mem_subE h.frn).1 he'; have h3 := h.ren_under (List.mem_map.2 ⟨e', h1, rfl⟩) h2; have h4 : renU fr to e'.1 = (rebaseU e'.1 fr to).1 := (by simp [renU, h2]); rw [h4] at h3; obtain ⟨x, hx, hq⟩ := List.mem_map.1 q; have h5 := h.ti.not_below h.tgt h.free (List.mem_map.2 ⟨x, (List.mem_filter.1 hx).1, rfl⟩); rw [show x.1 = (rebaseU e'.1 fr to).1 from hq, h3] at h5; cases h5
theorem MV.moved : TI (movedE E fr to) where
  ord := h.ord
  proper e he := by
    obtain ⟨s, hs, hr⟩ := h.keys.1 (List.mem_map.2 ⟨e, he, rfl⟩); have hr : renU fr to s = e.1 := hr; rw [← hr]; cases hu : underU s fr
    · rw [MV.ren_above hu]; exact h.ti.key hs
    · obtain ⟨k, m, n, t, e1, e2, e3, e4, e5, _, _, e6, e7⟩ := h.below hs hu; rw [e7]; exact proper_of e6 (by simp [e5])
  normal e he := by
    obtain ⟨e', he', rfl⟩ := List.mem_map.1 (h.perm.mem_iff.1 he); exact h.ti.normal e' he'
  linked e he hd := by
    obtain ⟨s, hs, hr⟩ := h.keys.1 (List.mem_map.2 ⟨e, he, rfl⟩); have hr : renU fr to s = e.1 := hr; rw [← hr] at hd ⊢; refine hasE_iff.2 (h.keys.2 ?_); obtain ⟨e', he', rfl⟩ := List.mem_map.1 hs; cases hu : underU e'.1 fr
    · rw [MV.ren_above hu] at hd ⊢; have hl := h.ti.linked e' he' hd; refine ⟨(parentU e'.1).1, hasE_iff.1 hl, MV.ren_above ?_⟩; cases hv : underU (parentU e'.1).1 fr with
      | false => rfl
      | true =>
        obtain ⟨p, l, hn⟩ := proper_norm (h.ti.proper e' he'); obtain ⟨t, ht, ht2⟩ := parent_norm hn; rw [ht] at hv; have : underU e'.1 t = true := under_iff.2 ⟨_, _, hn, ht2, List.suffix_cons p l⟩; rw [under_trans this hv] at hu; cases hu
    · obtain ⟨k, m, n, t, e1, e2, e3, e4, e5, e6, _, e7, e8⟩ := h.below hs hu; rw [e8] at hd ⊢; cases k with
      | nil =>
        rw [List.nil_append] at e7; obtain rfl := normU_inj e7 e3; have hp := parented_depth h.par; refine ⟨(parentU t).1, hasE_iff.1 hp, MV.ren_above ?_⟩; cases hv : underU (parentU t).1 fr with
        | false => rfl
        | true =>
          obtain ⟨p, l, hn⟩ := proper_norm h.tgt; obtain ⟨q, hq, hq2⟩ := parent_norm hn; rw [hq] at hv; have : underU t q = true := under_iff.2 ⟨_, _, hn, hq2, List.suffix_cons p l⟩; have h9 := h.out; rw [under_trans this hv] at h9; cases h9
      | cons p k =>
        obtain ⟨q, hq, hq2⟩ := parent_norm (p := p) (l := k ++ n) e7; obtain ⟨r, hr', hr2⟩ := parent_norm (p := p) (l := k ++ m) e1; have hl := h.ti.linked e' he' (by rw [depth_norm e1]; have := List.length_pos_iff.2 e4; simp only [List.cons_append, List.length_cons, List.length_append]; omega); rw [hr'] at hl; refine ⟨r, hasE_iff.1 hl, ?_⟩; have hru : underU r fr = true := under_iff.2 ⟨_, _, hr2, e2, List.suffix_append k m⟩; obtain ⟨k2, m2, n2, t2, g1, g2, g3, _, _, _, _, g6, g7⟩ := h.below (hasE_iff.1 hl) hru; rw [g7, hq]; rw [e2] at g2; cases g2; rw [e3] at g3; cases g3; rw [hr2] at g1; simp only [Option.some.injEq] at g1; have : k = k2 := List.append_cancel_right g1; subst this; exact normU_inj g6 hq2
  few := by rw [h.perm.length_eq]; simpa using h.ti.few
end
theorem TI.move {E : List Ent} (h : TI E) (fr to : Str) : TI (moveE E fr to).1 := by
  unfold moveE; split
  · rename_i ho; exact (MV.of h ho).moved
  · exact h
theorem parented_two {E : List Ent} (h : TI E) {n : Str} (hp : properU n = true) (hq : parentedE E n = true) : 2 ≤ depthU n := by
  obtain ⟨p, l, hn⟩ := proper_norm hp; obtain ⟨t, ht, ht2⟩ := parent_norm hn; have := h.key (hasE_iff.1 (parented_depth hq)); rw [ht] at this; obtain ⟨q, m, hm⟩ := proper_norm this; rw [ht2] at hm; cases hm
  rw [depth_norm hn]; simp
def RootI (R : List Str) (E : List Ent) : Prop := ∀ s, (s ∈ keysE E ∧ depthU s = 1) ↔ s ∈ R
theorem RootI.add {R : List Str} {E : List Ent} (h : TI E) (hr : RootI R E) (n : Str) (a : List Att) : RootI R (addE E n a).1 := by
  unfold addE; split
  · exact hr
  split
  · exact hr
  split
  · exact hr
  split
  · exact hr
  rename_i h1 h2 h3 h4
  intro s; rw [insE_keys, ← hr s]; have h5 := parented_two h (by simpa using h1) (by simpa using h3); constructor
  · rintro ⟨rfl | h6, h7⟩
    · omega
    · exact ⟨h6, h7⟩
  · rintro ⟨h6, h7⟩; exact ⟨.inr h6, h7⟩
theorem RootI.put {R : List Str} {E : List Ent} (hr : RootI R E) (n : Str) (a : List Att) : RootI R (putE E n a).1 := by
  unfold putE; split
  · exact hr
  rename_i h1
  have h1' : hasE E n = true := (by simpa using h1); intro s; rw [insE_keys, delE_keys, ← hr s]; constructor
  · rintro ⟨rfl | h6, h7⟩
    · exact ⟨hasE_iff.1 h1', h7⟩
    · exact ⟨h6.1, h7⟩
  · rintro ⟨h6, h7⟩; refine ⟨?_, h7⟩; by_cases e : s = n
    · exact .inl e
    · exact .inr ⟨h6, e⟩
theorem RootI.delete {R : List Str} {E : List Ent} (hr : RootI R E) (n : Str) : RootI R (deleteE E n).1 := by
  unfold deleteE; split
  · exact hr
  split
  · exact hr
  rename_i h1 h2
  intro s; rw [delE_keys, ← hr s]; constructor
  · rintro ⟨h6, h7⟩; exact ⟨h6.1, h7⟩
  · rintro ⟨h6, h7⟩; exact ⟨⟨h6, fun e => h2 (.inl (e ▸ h7))⟩, h7⟩
theorem RootI.move {R : List Str} {E : List Ent} (h : TI E) (hr : RootI R E) (fr to : Str) : RootI R (moveE E fr to).1 := by
  unfold moveE; by_cases ho : obsE E fr to = 0
  case neg => rw [if_neg ho]; exact hr
  rw [if_pos ho]; have hm := MV.of h ho; have hto := parented_two h hm.tgt hm.par; have key : ∀ s ∈ keysE E, underU s fr = true → depthU s ≠ 1 ∧ depthU (renU fr to s) ≠ 1 := fun s hs hu => by
    obtain ⟨k, m, n, t, e1, e2, e3, e4, e5, _, _, e7, e8⟩ := hm.below hs hu; have hl := hm.low; rw [depth_norm e2] at hl; rw [depth_norm e3] at hto; rw [e8, depth_norm e7, depth_norm e1]; have := List.length_pos_iff.2 e4; simp only [List.length_append]; omega
  intro s; rw [hm.keys, ← hr s]; constructor
  · rintro ⟨⟨x, hx, rfl⟩, h7⟩; cases hu : underU x fr
    · rw [MV.ren_above hu] at h7 ⊢; exact ⟨hx, h7⟩
    · exact absurd h7 (key x hx hu).2
  · rintro ⟨h6, h7⟩; refine ⟨⟨s, h6, MV.ren_above ?_⟩, h7⟩; cases hu : underU s fr with
    | false => rfl
    | true => exact absurd h7 (key s h6 hu).1
theorem MV.back {E : List Ent} {fr to : Str} (h : MV E fr to) : MV (movedE E fr to) to fr ∧ movedE (movedE E fr to) to fr = E := by
  have hfrk := hasE_iff.1 h.src; have hfrv := proper_valid h.frp; obtain ⟨k0, m, n, t0, a1, a2, a3, a4, a5, a6, _, a7, a8⟩ := h.below hfrk (under_self hfrv); have hk0 : k0 = [] := by
    rw [a2] at a1; simp only [Option.some.injEq] at a1; exact List.append_cancel_right (a1.symm.trans (List.nil_append m).symm)
  subst hk0; rw [List.nil_append] at a7; obtain rfl := normU_inj a7 a3; have hto2 := parented_two h.ti h.tgt h.par; have hmem : t0 ∈ keysE (movedE E fr t0) := h.keys.2 ⟨fr, hfrk, a8⟩; have hgone : ∀ x ∈ keysE (movedE E fr t0), underU x fr = false := fun x hx => by
    obtain ⟨s, hs, rfl⟩ := h.keys.1 hx; cases hu : underU s fr
    · rw [MV.ren_above hu]; exact hu
    · cases hv : underU (renU fr t0 s) fr with
      | false => rfl
      | true =>
        obtain ⟨k, m', n', t, e1, e2, e3, _, _, _, _, e4, e5⟩ := h.below hs hu; rw [a2] at e2; cases e2; rw [a3] at e3; cases e3; rw [e5] at hv; obtain ⟨k2, m2, f1, f2⟩ := under_parts hv; rw [a2] at f2; cases f2; rw [e4] at f1; simp only [Option.some.injEq] at f1; rcases List.append_eq_append_iff.1 f1 with ⟨x, hx1, hx2⟩ | ⟨x, hx1, hx2⟩
        · have : underU t0 fr = true := under_iff.2 ⟨n, m, a3, a2, ⟨x, hx2.symm⟩⟩; rw [h.out] at this; cases this
        · have hb : underU fr t0 = true := under_iff.2 ⟨m, n, a2, a3, ⟨x, hx2.symm⟩⟩; rw [h.ti.not_below h.tgt h.free hfrk] at hb; cases hb
  have hti := h.moved; have hparfr : hasE E (parentU fr).1 = true := by
    obtain ⟨e, he, hs⟩ := List.mem_map.1 hfrk; have := h.ti.linked e he (by rw [show e.1 = fr from hs]; exact h.low)
    rwa [show e.1 = fr from hs] at this
  obtain ⟨p, l, hn⟩ := proper_norm h.frp; obtain ⟨q, hq, hq2⟩ := parent_norm hn; rw [hq] at hparfr; have hqn : underU q fr = false := by
    cases hv : underU q fr with
    | false => rfl
    | true =>
      obtain ⟨k2, m2, f1, f2⟩ := under_parts hv; rw [hn] at f2; cases f2; rw [hq2] at f1; simp only [Option.some.injEq] at f1; have := congrArg List.length f1; simp at this; omega
  have hren : ∀ s ∈ keysE E, renU t0 fr (renU fr t0 s) = s := fun s hs => by
    cases hu : underU s fr
    · rw [MV.ren_above hu]; exact MV.ren_above (h.ti.not_below h.tgt h.free hs)
    · obtain ⟨k, m', n', t, e1, e2, e3, _, _, _, _, e4, e5⟩ := h.below hs hu; rw [a2] at e2; cases e2; rw [a3] at e3; cases e3; rw [e5]; have h8 := (normU_inv e1).2.1; obtain ⟨t2, g1, g2⟩ := (rebase_norm e4 a3 a2).1 (by simpa using h8); have hu2 : underU t t0 = true := under_iff.2 ⟨_, _, e4, a3, List.suffix_append k n⟩; rw [renU, if_pos hu2, g1]; exact normU_inj g2 e1
  have hb : MV (movedE E fr t0) t0 fr := {
    ti := hti
    src := hasE_iff.2 hmem
    tgt := h.frp
    free := by
      cases hv : hasE (movedE E fr t0) fr with
      | false => rfl
      | true => have := hgone fr (hasE_iff.1 hv); rw [under_self hfrv] at this; cases this
    out := by
      cases hv : underU fr t0 with
      | false => rfl
      | true => rw [h.ti.not_below h.tgt h.free hfrk] at hv; cases hv
    par := by
      simp only [parentedE, hq, Bool.true_and]; exact hasE_iff.2 (h.keys.2 ⟨q, hasE_iff.1 hparfr, MV.ren_above hqn⟩)
    low := by omega
    deep := by
      simp only [deepE, List.any_eq_false, decide_eq_true_eq, Int.not_lt]; intro e he; have htn : t0 ≠ [] := fun e => by have := h.tgt; subst e; simp [properU] at this
      obtain ⟨he1, he2⟩ := (mem_subE htn).1 he; obtain ⟨s, hs, hr⟩ := h.keys.1 (List.mem_map.2 ⟨e, he1, rfl⟩); have hr : renU fr t0 s = e.1 := hr; cases hu : underU s fr
      · rw [MV.ren_above hu] at hr; rw [← hr, h.ti.not_below h.tgt h.free hs] at he2; cases he2
      · obtain ⟨k, m', n', t, e1, e2, e3, _, _, _, _, e4, e5⟩ := h.below hs hu; rw [a2] at e2; cases e2; rw [a3] at e3; cases e3; rw [← hr, e5, depth_norm e4, depth_norm a3, depth_norm a2]; have h8 := (normU_inv e1).2.1; simp only [List.length_append] at h8 ⊢; omega }
  refine ⟨hb, OrdE.ext hb.ord h.ti.ord ?_⟩; refine hb.perm.trans ((h.perm.map _).trans ?_); rw [List.map_map]; have : E.map ((fun e : Ent => (renU t0 fr e.1, e.2)) ∘ fun e => (renU fr t0 e.1, e.2)) = E := by
    refine (List.map_congr_left fun e he => ?_).trans (List.map_id E); simp only [Function.comp_apply, hren e.1 (List.mem_map.2 ⟨e, he, rfl⟩)]; rfl
  rw [this]
section
variable (ks : Str → Option (Option (List Str)))
def dfs : Nat → Str → List Str × List Str → List Str × List Str
  | 0, _, st => st
  | f + 1, n, st => match ks n with
    | none => st
    | some k => if n ∈ st.1 then st else match k with
      | none => (n :: st.1, st.2 ++ [n])
      | some l => l.foldl (fun st m => dfs f m st) (n :: st.1, st.2)
inductive Via (g0 : Str) : Str → Prop
  | here : Via g0 g0
  | step {g m : Str} {l : List Str} (h : Via g0 g) (hg : ks g = some (some l)) (hm : m ∈ l) (hk : (ks m).isSome = true) : Via g0 m
theorem Via.trans {a b c : Str} (h1 : Via ks a b) (h2 : Via ks b c) : Via ks a c := by
  induction h2 with
  | here => exact h1
  | step _ hg hm hk ih => exact .step ih hg hm hk
structure Walked (from' : Str → Prop) (st st' : List Str × List Str) : Prop where
  grow : ∀ x ∈ st.1, x ∈ st'.1
  users : ∃ us, st'.2 = st.2 ++ us ∧ us.Nodup ∧ (∀ x, x ∈ us ↔ x ∈ st'.1 ∧ x ∉ st.1 ∧ ks x = some none)
  sound : ∀ x ∈ st'.1, x ∉ st.1 → (ks x).isSome = true ∧ ∃ a, from' a ∧ Via ks a x
  closed : ∀ g ∈ st'.1, g ∉ st.1 → ∀ l, ks g = some (some l) → ∀ m ∈ l, (ks m).isSome = true → m ∈ st'.1
theorem Walked.refl {Fr : Str → Prop} (st : List Str × List Str) : Walked ks Fr st st where
  grow := fun x h => h
  users := ⟨[], by simp, by simp, fun x => by simp; intro h1 h2; exact absurd h1 h2⟩
  sound := fun x h h' => absurd h h'
  closed := fun g h h' => absurd h h'
theorem Walked.trans {Fr : Str → Prop} {a b c : List Str × List Str} (h1 : Walked ks Fr a b) (h2 : Walked ks Fr b c) : Walked ks Fr a c where
  grow := fun x h => h2.grow x (h1.grow x h)
  users := by
    obtain ⟨u, hu, nu, mu⟩ := h1.users; obtain ⟨v, hv, nv, mv⟩ := h2.users; refine ⟨u ++ v, by rw [hv, hu, List.append_assoc], List.nodup_append.2 ⟨nu, nv, fun x hx y hy e => ?_⟩, fun x => ?_⟩
    · subst e; exact ((mv x).1 hy).2.1 ((mu x).1 hx).1
    · rw [List.mem_append, mu, mv]; constructor
      · rintro (⟨q1, q2, q3⟩ | ⟨q1, q2, q3⟩)
        · exact ⟨h2.grow x q1, q2, q3⟩
        · exact ⟨q1, fun q => q2 (h1.grow x q), q3⟩
      · rintro ⟨q1, q2, q3⟩; by_cases hb : x ∈ b.1
        · exact .inl ⟨hb, q2, q3⟩
        · exact .inr ⟨q1, hb, q3⟩
  sound := fun x hx hn => by
    by_cases hb : x ∈ b.1
    · exact h1.sound x hb hn
    · exact h2.sound x hx hb
  closed := fun g hg hn l hl m hm hk => by
    by_cases hb : g ∈ b.1
    · exact h2.grow m (h1.closed g hb hn l hl m hm hk)
    · exact h2.closed g hg hb l hl m hm hk
theorem Walked.mono {Fr Fr' : Str → Prop} (hf : ∀ a, Fr a → ∃ b, Fr' b ∧ Via ks b a) {a b : List Str × List Str} (h : Walked ks Fr a b) : Walked ks Fr' a b where
  grow := h.grow
  users := h.users
  sound := fun x hx hn => by
    obtain ⟨q, c, hc, hv⟩ := h.sound x hx hn; obtain ⟨d, hd, hv'⟩ := hf c hc; exact ⟨q, d, hd, hv'.trans ks hv⟩
  closed := h.closed
def unseen (K : List Str) (seen : List Str) : Nat := K.countP fun x => decide (x ∉ seen)
theorem unseen_mono {K seen seen' : List Str} (h : ∀ x ∈ seen, x ∈ seen') : unseen K seen' ≤ unseen K seen := by
  refine List.countP_mono_left fun x _ hx => ?_
  simp only [decide_eq_true_eq] at hx ⊢; exact fun q => hx (h x q)
theorem unseen_lt {K seen : List Str} {n : Str} (hn : n ∈ K) (hs : n ∉ seen) : unseen K (n :: seen) < unseen K seen := by
  unfold unseen
  induction K with
  | nil => cases hn
  | cons y K ih =>
    have hm : K.countP (fun x => decide (x ∉ n :: seen)) ≤ K.countP (fun x => decide (x ∉ seen)) := unseen_mono (K := K) (fun x hx => List.mem_cons_of_mem n hx); rw [List.countP_cons, List.countP_cons]; by_cases hy : y = n
    · subst hy; have hA : decide (y ∉ y :: seen) = false := (by simp); have hB : decide (y ∉ seen) = true := (by simp [hs]); rw [hA, hB]; simp only [Bool.false_eq_true, if_false, if_true]; omega
    · have hn' : n ∈ K := by
        rcases List.mem_cons.1 hn with e | e
        · exact absurd e.symm hy
        · exact e
      have := ih hn'; have e : decide (y ∉ n :: seen) = decide (y ∉ seen) := (by simp [hy]); rw [e]; omega
theorem dfs_ok {K : List Str} (hK : ∀ n, (ks n).isSome = true → n ∈ K) : ∀ (f : Nat) (n : Str) (st : List Str × List Str), unseen K st.1 < f →
    Walked ks (fun a => a = n) st (dfs ks f n st) ∧ ((ks n).isSome = true → n ∈ (dfs ks f n st).1)
  | 0, n, st, h => by omega
  | f + 1, n, st, h => by
    rw [dfs]; cases hk : ks n with
    | none => exact ⟨Walked.refl ks st, by simp⟩
    | some k =>
      simp only; by_cases hs : n ∈ st.1
      · rw [if_pos hs]; exact ⟨Walked.refl ks st, fun _ => hs⟩
      · rw [if_neg hs]; have hnK := hK n (by simp [hk]); cases k with
        | none =>
          refine ⟨⟨fun x hx => List.mem_cons_of_mem n hx, ⟨[n], rfl, by simp, fun x => ?_⟩, fun x hx hn => ?_, fun g hg hn l hl => ?_⟩, fun _ => by simp⟩
          · rw [List.mem_singleton, List.mem_cons]; constructor
            · rintro rfl; exact ⟨.inl rfl, hs, hk⟩
            · rintro ⟨q1, q2, _⟩; rcases q1 with q | q
              · exact q
              · exact absurd q q2
          · rcases List.mem_cons.1 hx with rfl | q
            · exact ⟨by simp [hk], _, rfl, .here⟩
            · exact absurd q hn
          · rcases List.mem_cons.1 hg with rfl | q
            · rw [hk] at hl; cases hl
            · exact absurd q hn
        | some l =>
          have hu : unseen K (n :: st.1) < f := by have := unseen_lt hnK hs; omega
          have main : ∀ (r : List Str) (s0 : List Str × List Str), unseen K s0.1 < f → Walked ks (fun a => a ∈ r) s0 (r.foldl (fun st m => dfs ks f m st) s0) ∧ ∀ m ∈ r, (ks m).isSome = true → m ∈ (r.foldl (fun st m => dfs ks f m st) s0).1 := by
            intro r
            induction r with
            | nil => intro s0 _; exact ⟨Walked.refl ks s0, fun m hm => by cases hm⟩
            | cons y r ih =>
              intro s0 h0; obtain ⟨w1, w2⟩ := dfs_ok hK f y s0 h0; have h1 : unseen K (dfs ks f y s0).1 < f := Nat.lt_of_le_of_lt (unseen_mono w1.grow) h0; obtain ⟨w3, w4⟩ := ih _ h1; rw [List.foldl_cons]; refine ⟨(w1.mono ks (fun a ha => ⟨a, by simp [ha], .here⟩)).trans ks (w3.mono ks (fun a ha => ⟨a, by simp [ha], .here⟩)), fun m hm hkm => ?_⟩; rcases List.mem_cons.1 hm with rfl | hm
              · exact w3.grow m (w2 hkm)
              · exact w4 m hm hkm
          change Walked ks _ st (l.foldl (fun st m => dfs ks f m st) (n :: st.1, st.2)) ∧ (_ → n ∈ (l.foldl (fun st m => dfs ks f m st) (n :: st.1, st.2)).1)
          obtain ⟨w, wl⟩ := main l (n :: st.1, st.2) hu; generalize l.foldl (fun st m => dfs ks f m st) (n :: st.1, st.2) = st' at *; have hn1 : n ∈ st'.1 := w.grow n (by simp); refine ⟨⟨fun x hx => w.grow x (List.mem_cons_of_mem n hx), ?_, fun x hx hnx => ?_, fun g hg hn l' hl' m hm hkm => ?_⟩, fun _ => hn1⟩
          · obtain ⟨us, h1, h2, h3⟩ := w.users; refine ⟨us, h1, h2, fun x => (h3 x).trans ⟨?_, ?_⟩⟩
            · rintro ⟨q1, q2, q3⟩; exact ⟨q1, fun q => q2 (List.mem_cons_of_mem n q), q3⟩
            · rintro ⟨q1, q2, q3⟩; refine ⟨q1, fun q => ?_, q3⟩; rcases List.mem_cons.1 q with rfl | q
              · rw [hk] at q3; cases q3
              · exact q2 q
          · by_cases hxn : x = n
            · subst hxn; exact ⟨by simp [hk], _, rfl, .here⟩
            · obtain ⟨q, a, ha, hv⟩ := w.sound x hx (fun q => (List.mem_cons.1 q).elim hxn hnx); exact ⟨q, n, rfl, Via.trans ks (.step .here hk ha (by
                cases hv with
                | here => exact q
                | step h1 hg hm hkx =>
                  have : ∀ {z : Str}, Via ks a z → (ks z).isSome = true → (ks a).isSome = true := fun h => by
                    induction h with
                    | here => exact id
                    | step _ hg _ _ ih => exact fun _ => ih (by simp [hg])
                  exact this (.step h1 hg hm hkx) hkx)) hv⟩
          · by_cases hgn : g = n
            · subst hgn; rw [hk] at hl'; cases hl'
              exact wl m hm hkm
            · exact w.closed g hg (fun q => (List.mem_cons.1 q).elim hgn hn) l' hl' m hm hkm
end
def placeN : List Str → Str → List Str
  | [], s => [s]
  | x :: l, s => if 0 < cmpN x s then s :: x :: l else x :: placeN l s
def placedN (l : List Str) (s : Str) : List Str := if s ∈ l then l else placeN l s
theorem placeN_perm : ∀ (l : List Str) (s : Str), (placeN l s).Perm (s :: l)
  | [], s => List.Perm.refl _
  | x :: l, s => by
    unfold placeN; split
    · exact List.Perm.refl _
    · exact ((placeN_perm l s).cons x).trans (List.Perm.swap s x l)
theorem placeN_NS : ∀ {l : List Str} {s : Str}, NS l → s ∉ l → NS (placeN l s)
  | [], s, _, _ => by simp [NS, placeN]
  | x :: l, s, h, hn => by
    have hp := List.pairwise_cons.1 h; have hne : cmpN x s ≠ 0 := fun q => hn (by rw [← cmpN_zero.1 q]; simp)
    unfold placeN; split
    · rename_i hc
      have hxe : cmpN s x < 0 := by rw [cmpN_swap x s]; omega
      refine List.pairwise_cons.2 ⟨fun y hy => ?_, h⟩; rcases List.mem_cons.1 hy with rfl | hy
      · exact hxe
      · exact cmpN_trans hxe (hp.1 y hy)
    · rename_i hc
      refine List.pairwise_cons.2 ⟨fun y hy => ?_, placeN_NS hp.2 (fun q => hn (List.mem_cons_of_mem x q))⟩; rcases List.mem_cons.1 ((placeN_perm l s).mem_iff.1 hy) with rfl | hy
      · show cmpN x y < 0
        omega
      · exact hp.1 y hy
theorem placedN_mem {l : List Str} {s x : Str} : x ∈ placedN l s ↔ x ∈ l ∨ x = s := by
  unfold placedN; split
  · rename_i h
    exact ⟨.inl, fun q => q.elim id (fun e => e ▸ h)⟩
  · rw [(placeN_perm l s).mem_iff, List.mem_cons]; exact Or.comm
theorem placedN_NS {l : List Str} {s : Str} (h : NS l) : NS (placedN l s) := by
  unfold placedN; split
  · exact h
  · rename_i hn; exact placeN_NS h hn
section
variable (ks : Str → Option (Option (List Str)))
def refer (st : List Str × List Str) (m : Str) : List Str × List Str := match ks m with
  | none => st
  | some none => (st.1, placedN st.2 m)
  | some (some _) => if m ∈ st.1 then st else (st.1 ++ [m], st.2)
structure Qv (g0 : Str) (S : Str → Prop) (op out : List Str) : Prop where
  nd : op.Nodup
  first : g0 ∈ op
  grp : ∀ g ∈ op, (∃ l, ks g = some (some l)) ∧ Via ks g0 g
  ns : NS out
  outs : ∀ x, x ∈ out ↔ S x ∧ ks x = some none
  done : ∀ m, S m → ∀ l, ks m = some (some l) → m ∈ op
  via : ∀ m, S m → (ks m).isSome = true → Via ks g0 m
theorem Qv.start {g0 : Str} {l : List Str} (h : ks g0 = some (some l)) : Qv ks g0 (fun _ => False) [g0] [] where
  nd := by simp
  first := by simp
  grp := fun g hg => by
    rw [List.mem_singleton] at hg; subst hg; exact ⟨⟨l, h⟩, .here⟩
  ns := List.Pairwise.nil
  outs := by simp
  done := fun m h => h.elim
  via := fun m h => h.elim
theorem Qv.step {g0 : Str} {S : Str → Prop} {op out : List Str} (h : Qv ks g0 S op out) {g m : Str} {l : List Str} (hg : g ∈ op) (hl : ks g = some (some l)) (hm : m ∈ l) :
    Qv ks g0 (fun x => S x ∨ x = m) (refer ks (op, out) m).1 (refer ks (op, out) m).2 := by
  have hv : (ks m).isSome = true → Via ks g0 m := fun q => .step (h.grp g hg).2 hl hm q
  unfold refer; cases hk : ks m with
  | none =>
    refine ⟨h.nd, h.first, h.grp, h.ns, fun x => (h.outs x).trans ⟨fun q => ⟨.inl q.1, q.2⟩, fun q => ⟨q.1.resolve_right (fun e => ?_), q.2⟩⟩, fun x hx l' hl' => ?_, fun x hx hs => ?_⟩
    · subst e; rw [hk] at q; cases q.2
    · rcases hx with hx | rfl
      · exact h.done x hx l' hl'
      · rw [hk] at hl'; cases hl'
    · rcases hx with hx | rfl
      · exact h.via x hx hs
      · exact hv hs
  | some k =>
    have hv' : Via ks g0 m := hv (by simp [hk]); have hvia : ∀ x, (S x ∨ x = m) → (ks x).isSome = true → Via ks g0 x := fun x hx hs => hx.elim (fun q => h.via x q hs) (fun e => e ▸ hv')
    cases k with
    | none =>
      refine ⟨h.nd, h.first, h.grp, placedN_NS h.ns, fun x => ?_, fun x hx l' hl' => ?_, hvia⟩
      · rw [placedN_mem, h.outs]; constructor
        · rintro (q | rfl)
          · exact ⟨.inl q.1, q.2⟩
          · exact ⟨.inr rfl, hk⟩
        · rintro ⟨q | q, q2⟩
          · exact .inl ⟨q, q2⟩
          · exact .inr q
      · rcases hx with hx | rfl
        · exact h.done x hx l' hl'
        · rw [hk] at hl'; cases hl'
    | some l' =>
      have houts : ∀ x, x ∈ out ↔ (S x ∨ x = m) ∧ ks x = some none := fun x => (h.outs x).trans ⟨fun q => ⟨.inl q.1, q.2⟩, fun q => ⟨q.1.resolve_right (fun e => by subst e; rw [hk] at q; cases q.2), q.2⟩⟩
      show Qv ks g0 (fun x => S x ∨ x = m) (if m ∈ op then (op, out) else (op ++ [m], out)).1 (if m ∈ op then (op, out) else (op ++ [m], out)).2
      by_cases hin : m ∈ op
      · rw [if_pos hin]; exact ⟨h.nd, h.first, h.grp, h.ns, houts, fun x hx l2 hl2 => hx.elim (fun q => h.done x q l2 hl2) (fun e => e ▸ hin), hvia⟩
      · rw [if_neg hin]; refine ⟨?_, by simp [h.first], fun x hx => ?_, h.ns, houts, fun x hx l2 hl2 => ?_, hvia⟩
        · refine List.nodup_append.2 ⟨h.nd, by simp, fun a ha b hb e => ?_⟩; rw [List.mem_singleton] at hb; subst hb; subst e; exact hin ha
        · rcases List.mem_append.1 hx with hx | hx
          · exact h.grp x hx
          · rw [List.mem_singleton] at hx; subst hx; exact ⟨⟨_, hk⟩, hv'⟩
        · rcases hx with hx | rfl
          · exact List.mem_append_left _ (h.done x hx l2 hl2)
          · simp
structure Mem (g0 : Str) (out : List Str) : Prop where
  ns : NS out
  mem : ∀ x, x ∈ out ↔ ks x = some none ∧ Via ks g0 x
theorem Mem.ext {g0 : Str} {a b : List Str} (ha : Mem ks g0 a) (hb : Mem ks g0 b) : a = b := NS_ext ha.ns hb.ns fun x => (ha.mem x).trans (hb.mem x).symm
def dfsU (K : List Str) (g : Str) : List Str := (dfs ks (K.length + 1) g ([], [])).2
theorem dfsU_mem {K : List Str} (hK : ∀ n, (ks n).isSome = true → n ∈ K) {g0 : Str} {l : List Str} (hg : ks g0 = some (some l)) : (dfsU ks K g0).Nodup ∧ ∀ x, x ∈ dfsU ks K g0 ↔ ks x = some none ∧ Via ks g0 x := by
  have hu : unseen K ([] : List Str) < K.length + 1 := Nat.lt_succ_of_le List.countP_le_length; obtain ⟨w, wn⟩ := dfs_ok ks hK (K.length + 1) g0 ([], []) hu; have h0 := wn (by simp [hg]); obtain ⟨us, h1, h2, h3⟩ := w.users; have he : dfsU ks K g0 = us := by rw [dfsU, h1]; simp
  rw [he]; have hall : ∀ {x : Str}, Via ks g0 x → x ∈ (dfs ks (K.length + 1) g0 ([], [])).1 := by
    intro x hx
    induction hx with
    | here => exact h0
    | step _ hg hm hk ih => exact w.closed _ ih (by simp) _ hg _ hm hk
  refine ⟨h2, fun x => (h3 x).trans ⟨?_, ?_⟩⟩
  · rintro ⟨q1, q2, q3⟩; obtain ⟨_, a, rfl, hv⟩ := w.sound x q1 (by simp); exact ⟨q3, hv⟩
  · rintro ⟨q1, q2⟩; exact ⟨hall q2, by simp, q1⟩
def memU (K : List Str) (g : Str) : List Str := sortL cmpN (dfsU ks K g)
theorem memU_ok {K : List Str} (hK : ∀ n, (ks n).isSome = true → n ∈ K) {g0 : Str} {l : List Str} (hg : ks g0 = some (some l)) : Mem ks g0 (memU ks K g0) := by
  obtain ⟨h1, h2⟩ := dfsU_mem ks hK hg; obtain ⟨p1, p2⟩ := sortL_perm swo_names (dfsU ks K g0); have hn : (sortL cmpN (dfsU ks K g0)).Nodup := p1.nodup_iff.2 h1
  suffices hns : NS (sortL cmpN (dfsU ks K g0)) by
    exact ⟨hns, fun x => (p1.mem_iff).trans (h2 x)⟩
  refine List.pairwise_iff_getElem.2 fun i j hi hj hij => ?_
  have h3 := p2 i j hij hj; simp only [ltOf, decide_eq_false_iff_not] at h3; have h4 := cmpN_swap (sortL cmpN (dfsU ks K g0))[i] (sortL cmpN (dfsU ks K g0))[j]; have h5 : cmpN (sortL cmpN (dfsU ks K g0))[i] (sortL cmpN (dfsU ks K g0))[j] ≠ 0 := fun q => (List.pairwise_iff_getElem.1 hn) i j hi hj hij (cmpN_zero.1 q)
  omega
theorem dfs_len {K : List Str} (hK : ∀ n, (ks n).isSome = true → n ∈ K) : ∀ (f : Nat) (n : Str) (st : List Str × List Str),
    (dfs ks f n st).1.length + unseen K (dfs ks f n st).1 ≤ st.1.length + unseen K st.1 ∧ (dfs ks f n st).2.length + st.1.length ≤ st.2.length + (dfs ks f n st).1.length ∧ st.1.length ≤ (dfs ks f n st).1.length
  | 0, n, st => by simp only [dfs]; omega
  | f + 1, n, st => by
    rw [dfs]; cases hk : ks n with
    | none => simp only; omega
    | some k =>
      simp only; by_cases hs : n ∈ st.1
      · rw [if_pos hs]; omega
      · rw [if_neg hs]; have hu := unseen_lt (hK n (by simp [hk])) hs; cases k with
        | none => simp only [List.length_cons, List.length_append, List.length_nil]; omega
        | some l =>
          have main : ∀ (r : List Str) (s0 : List Str × List Str), (r.foldl (fun st m => dfs ks f m st) s0).1.length + unseen K (r.foldl (fun st m => dfs ks f m st) s0).1 ≤ s0.1.length + unseen K s0.1 ∧ (r.foldl (fun st m => dfs ks f m st) s0).2.length + s0.1.length ≤ s0.2.length + (r.foldl (fun st m => dfs ks f m st) s0).1.length ∧ s0.1.length ≤ (r.foldl (fun st m => dfs ks f m st) s0).1.length := by
            intro r
            induction r with
            | nil => intro s0; simp only [List.foldl_nil]; omega
            | cons y r ih =>
              intro s0; rw [List.foldl_cons]; have h1 := dfs_len hK f y s0; have h2 := ih (dfs ks f y s0); omega
          have := main l (n :: st.1, st.2); simp only [List.length_cons] at this ⊢; omega
end
end Go.Proofs.Tz
namespace Go.Proofs.Tz
open Go.Vw Go.Proofs
abbrev Ty := Str × Int × Bool
abbrev Cl := Str × Str × List Str × List Str
abbrev Sch := List Ty × List Cl
def tyD (t : Ty) : D := .agg [.str t.1, .int .i64 t.2.1, .bool t.2.2]
def clD (c : Cl) : D := .agg [.str c.1, .str c.2.1, strs c.2.2.1, strs c.2.2.2]
def schD (s : Sch) : D := .agg [.sl (s.1.map tyD), .sl (s.2.map clD)]
def tyN (T : List Ty) : List Str := T.map fun t => lower t.1
def clN (C : List Cl) : List Str := C.map fun c => lower c.1
def tyE (T : List Ty) (t : Ty) : Int := if nameB t.1 = false then 5 else if lower t.1 ∈ tyN T then 7 else if t.2.1 < 1 ∨ 5 < t.2.1 then 8 else 0
def tysE : List Ty → List Ty → Int
  | _, [] => 0
  | T, t :: r => if tyE T t = 0 then tysE (T ++ [t]) r else tyE T t
def allTy (T : List Ty) (l : List Str) : Bool := l.all fun n => decide (lower n ∈ tyN T)
def clE (T : List Ty) (C : List Cl) (c : Cl) : Int :=
  if nameB c.1 = false then 5 else if lower c.1 ∈ clN C then 7 else if c.2.1 ≠ [] ∧ lower c.2.1 ∉ clN C then 6
  else if 64 < c.2.2.1.length ∨ 64 < c.2.2.2.length then 3 else if allTy T c.2.2.1 = false ∨ allTy T c.2.2.2 = false then 6 else 0
def clsE (T : List Ty) : List Cl → List Cl → Int
  | _, [] => 0
  | C, c :: r => if clE T C c = 0 then clsE T (C ++ [c]) r else clE T C c
def sClass : Str := [99, 108, 97, 115, 115]
def sMember : Str := [109, 101, 109, 98, 101, 114]
def sGroup : Str := [103, 114, 111, 117, 112]
def tyFind (T : List Ty) (n : Str) : Option Ty := T.find? fun t => decide (lower t.1 = lower n)
def mainE (T : List Ty) : Int := match tyFind T sClass with
  | none => 6
  | some t => if t.2.1 ≠ 1 then 8 else 0
def schE (s : Sch) : Int := if 64 < s.1.length ∨ 32 < s.2.length then 3 else if tysE [] s.1 ≠ 0 then tysE [] s.1 else if clsE s.1 [] s.2 ≠ 0 then clsE s.1 [] s.2 else mainE s.1
def tyZ : Ty := ([], 0, false)
def typeU (s : Sch) (n : Str) : Ty × Bool := if schE s = 0 then (match tyFind s.1 n with
  | some t => (t, true)
  | none => (tyZ, false)) else (tyZ, false)
def isNm (s : Sch) (n : Str) : Bool := (typeU s n).2 && decide ((typeU s n).1.2.1 = 4)
theorem tyFind_none {T : List Ty} {n : Str} : tyFind T n = none ↔ lower n ∉ tyN T := by
  simp only [tyFind, tyN, List.find?_eq_none, decide_eq_true_eq, List.mem_map, not_exists, not_and]
theorem tyFind_at {T : List Ty} {n : Str} {t : Ty} (h : tyFind T n = some t) : t ∈ T ∧ lower t.1 = lower n := by
  have h1 := List.find?_some h; have h2 := List.mem_of_find?_eq_some h; simp only [decide_eq_true_eq] at h1; exact ⟨h2, h1⟩
theorem tysE_drop {T : List Ty} {k : Nat} (h : k < T.length) : tysE (T.take k) (T.drop k) = if tyE (T.take k) T[k] = 0 then tysE (T.take (k + 1)) (T.drop (k + 1)) else tyE (T.take k) T[k] := by
  rw [List.drop_eq_getElem_cons h, tysE, take_s h]
theorem clsE_drop {T : List Ty} {C : List Cl} {k : Nat} (h : k < C.length) : clsE T (C.take k) (C.drop k) = if clE T (C.take k) C[k] = 0 then clsE T (C.take (k + 1)) (C.drop (k + 1)) else clE T (C.take k) C[k] := by
  rw [List.drop_eq_getElem_cons h, clsE, take_s h]
end Go.Proofs.Tz
namespace Go.Proofs.Tz
open Go.Vw Go.RowKit Go.Proofs Go.Sort
def refOf (v : Str) : Option Str := if (cleanU v).2 = 0 ∧ (cleanU v).1 ≠ [] then some (cleanU v).1 else none
def refsL (s : Sch) (A : List Att) : List Str := ((sortedL A).filter fun a => isNm s a.1).flatMap fun a => a.2.filterMap refOf
def refsU (s : Sch) (A : List Att) : List Str := (refsL s A).foldl ins []
abbrev Mod := Int × Str × List Str
def modD (m : Mod) : D := .agg [.int .i64 m.1, .str m.2.1, strs m.2.2]
def mods (l : List Mod) : D := .sl (l.map modD)
def renV (fr to v : Str) : Str × Bool := match refOf v with
  | none => (v, false)
  | some n => if underU n fr = true ∧ (rebaseU n fr to).2 = 0 ∧ cleanB (rebaseU n fr to).1 = true then ((rebaseU n fr to).1, true) else (v, false)
def renA (fr to : Str) (a : Att) : Option Mod := if a.2.any (fun v => (renV fr to v).2) = true then some (3, a.1, (a.2.map fun v => (renV fr to v).1).foldl ins []) else none
def renamedU (s : Sch) (A : List Att) (fr to : Str) : List Mod :=
  if fr = [] ∨ to = [] ∨ validU fr = false ∨ validU to = false then [] else ((sortedL A).filter fun a => isNm s a.1).filterMap (renA fr to)
def remA (n : Str) (a : Att) : Option Mod := if (a.2.filter fun v => decide (refOf v = some n)) ≠ [] then some (2, a.1, a.2.filter fun v => decide (refOf v = some n)) else none
def removedU (s : Sch) (A : List Att) (to : Str) : List Mod := match refOf to with
  | none => []
  | some n => ((sortedL A).filter fun a => isNm s a.1).filterMap (remA n)
theorem compact_ins (l : List Str) : Go.Lib.compact (sortS l) = l.foldl ins [] := by
  obtain ⟨h1, h2⟩ := normV l; obtain ⟨h3, h4⟩ := insAll_spec l [] List.Pairwise.nil; exact SS_ext h1 h3 fun x => (h2 x).trans ((h4 x).trans (by simp)).symm
def isGrp (A : List Att) : Bool := (getL A sClass).any fun v => decide (lower v = sGroup)
def listedR (A : List Att) : List Str := (getL A sMember).filterMap fun v => if (cleanU v).2 = 0 then some (cleanU v).1 else none
def ksE (E : List Ent) (n : Str) : Option (Option (List Str)) := match getE E n with
  | none => none
  | some a => if isGrp a = true then some (some (listedR a)) else some none
theorem ksE_some {E : List Ent} {n : Str} (h : (ksE E n).isSome = true) : n ∈ keysE E := by
  cases hh : hasE E n with
  | true => exact hasE_iff.1 hh
  | false => rw [ksE, getE_none hh] at h; cases h
def membersU (E : List Ent) (g : Str) : Option (List Str) := match ksE E g with
  | some (some _) => some (memU (ksE E) (keysE E) g)
  | _ => none
def groupsU (E : List Ent) (u : Str) : List Str := (keysE E).filter fun g => match membersU E g with
  | some l => decide (u ∈ l)
  | none => false
def brokenU (s : Sch) (E : List Ent) : List Pair := E.flatMap fun e => ((refsU s e.2).filter fun n => !hasE E n).map fun n => (e.1, n)
def referU (s : Sch) (E : List Ent) (to : Str) : List Str := match refOf to with
  | none => []
  | some n => (E.filter fun e => decide (n ∈ refsU s e.2)).map (·.1)
end Go.Proofs.Tz
set_option maxRecDepth 100000
namespace Go.Proofs.Tz
open Go.Vw
theorem lowerX_fn (s : Str) (hs : List.length s ≤ 140737488351232) : Ctr prog 79 [.d (.str s)] (.d (.str (lower s))) := by
  refine fv (fun i => decide (i < 1000000)) func79 (by kernel_rfl) rfl rfl rfl rfl rfl ?_; simp -implicitDefEqProofs; refine loopN (List.length s) (fun k τ => τ 0 = .d (.str s) ∧ τ 4 = .d (.int .i64 k) ∧ τ 3 = .own true 5 ((lower (s.take k)).map u8)) (by simp [lower]) ?_; rintro k τ hk ⟨h0, h4, h3⟩; by_cases hlt : k < List.length s
  · by_cases h1 : 65 ≤ (s[k].toNat : Int)
    · by_cases h2 : (s[k].toNat : Int) ≤ 90
      · simp -implicitDefEqProofs [h0, h3, h4, hlt, h1, h2, lower_len]; refine ⟨by omega, by omega, by omega, by omega, again hlt ⟨by simp [h0], by simp, ?_⟩⟩; simp -implicitDefEqProofs [lower_take hlt, u8, lowc_toNat _ h1 h2]
      · simp -implicitDefEqProofs [h0, h3, h4, hlt, h1, h2, lower_len]; refine ⟨by omega, by omega, again hlt ⟨by simp [h0], by simp, ?_⟩⟩; simp -implicitDefEqProofs [lower_take hlt, u8, lowc, h2]
    · simp -implicitDefEqProofs [h0, h3, h4, hlt, h1, lower_len]; refine ⟨by omega, by omega, again hlt ⟨by simp [h0], by simp, ?_⟩⟩; simp -implicitDefEqProofs [lower_take hlt, u8, lowc, h1]
  · simp -implicitDefEqProofs [h0, h3, h4, hlt, bytes_u8]; rw [ttl (by omega)]
theorem foldLowerX_fn (s : Str) (hs : List.length s ≤ 140737488351232) : Ctr prog 83 [.d (.str s)] (.d (.str (lower s))) := by
  refine fv (fun i => decide (i < 1000000)) func83 (by kernel_rfl) rfl rfl rfl rfl rfl ?_; simp -implicitDefEqProofs; refine ⟨by omega, ?_⟩; refine loopN (List.length s) (fun k τ => τ 9 = .d (.int .i64 k) ∧ τ 8 = .d (.int .i64 (List.length s)) ∧ τ 3 = .own true 100005 (halfL s k)) (by simp [halfL, lower, bytesD, u8]) ?_; rintro k τ hk ⟨h9, h8, h3⟩; have hlen := halfL_len s k hk; by_cases hlt : k < List.length s
  · have hg := halfL_get s k hlt; have hset := halfL_set s k hlt; generalize halfL s k = M at *; have hlt2 : k < M.length := (by omega); have hg2 : M[k] = u8 s[k] := (List.getElem?_eq_some_iff.1 hg).2; simp -implicitDefEqProofs [h9, h8, h3, hlt, hlt2, hg2, u8]; refine callK (upper_fn _) ?_; by_cases h1 : 65 ≤ (s[k].toNat : Int) ∧ (s[k].toNat : Int) ≤ 90
    · simp -implicitDefEqProofs [h9, h8, h3, hlt, hlt2, hg2, u8, h1.1, h1.2]; have e : u8 (lowc s[k]) = .int .u8 ((s[k].toNat : Int) + 32) := by
        simp only [u8, lowc_toNat _ h1.1 h1.2]; congr 1; omega
      rw [e] at hset; exact ⟨by omega, by omega, again hlt ⟨by simp, by simp [h8], by simp [hset]⟩⟩
    · have hb : (decide (65 ≤ (s[k].toNat : Int)) && decide ((s[k].toNat : Int) ≤ 90)) = false := (by simpa using h1); simp -implicitDefEqProofs [h9, h8, h3, hlt, hlt2, hg2, u8, hb]; rw [lowc_not h1, ← hg2, List.set_getElem_self] at hset; exact ⟨by omega, again hlt ⟨by simp, by simp [h8], by simp [h3, hset]⟩⟩
  · simp -implicitDefEqProofs [h9, h8, h3, hlt]; have e : halfL s k = bytesD (lower s) := by
      have : k = List.length s := (by omega); subst this; simp [halfL, bytesD, u8]
    simp -implicitDefEqProofs [e, h3]
theorem madeX_fn (s : Str) (hs : List.length s ≤ 140737488351232) : Ctr prog 130 [.d (.str s), .d (.clo 131 [])] (.d (.bool (s.all nameC && decide (s ≠ []) && decide (s.length ≤ 64)))) := by
  refine fv (fun _ => false) func130 (by kernel_rfl) rfl rfl rfl rfl rfl ?_; simp -implicitDefEqProofs; refine loopN (List.length s) (fun k τ => τ 0 = .d (.str s) ∧ τ 1 = .d (.clo 131 []) ∧ τ 7 = .d (.int .i64 (List.length s)) ∧ τ 8 = .d (.int .i64 k) ∧ ∀ x ∈ s.take k, nameC x = true) (by simp) ?_; rintro k τ hk ⟨h0, h1, h7, h8, ha⟩; by_cases hlt : k < List.length s
  · simp -implicitDefEqProofs [h0, h1, h7, h8, hlt]; refine callK (allowed_fn s[k]) ?_; by_cases e1 : nameC s[k] = true
    · simp -implicitDefEqProofs [h0, h1, h7, h8, hlt, e1]; exact ⟨by omega, again hlt ⟨by simp [h0], by simp [h1], by simp [h7], by simp, all_take hlt ha e1⟩⟩
    · simp -implicitDefEqProofs [h0, h1, h7, h8, hlt, e1]; intro h; exact absurd (h _ (gmm hlt)) e1
  · rw [ttl (by omega)] at ha; have hall : List.all s nameC = true := (by simpa using ha); by_cases e2 : s = []
    · simp -implicitDefEqProofs [h0, h1, h7, h8, hlt, e2]
    · simp -implicitDefEqProofs [h0, h1, h7, h8, hlt, e2, hall]
      all_goals omega
theorem fnameX_fn (s : Str) (hs : List.length s ≤ 140737488351232) : Ctr prog 82 [.d (.str s)] (.d (.bool (nameB s))) := by
  refine fv (fun _ => false) func82 (by kernel_rfl) rfl rfl rfl rfl rfl ?_; simp -implicitDefEqProofs; refine callK (madeX_fn s hs) ?_; by_cases e : (s.all nameC && decide (s ≠ []) && decide (s.length ≤ 64)) = true
  · have e0 := e; simp only [Bool.and_eq_true, decide_eq_true_eq] at e; obtain ⟨⟨e1, e2⟩, e3⟩ := e; obtain ⟨c, t, rfl⟩ := List.exists_cons_of_ne_nil e2; simp only [e0]; simp -implicitDefEqProofs; refine callK (fletter_fn c) ?_; have e4 : (List.length (c :: t)) ≤ 64 := e3; simp -implicitDefEqProofs [nameB, e1, e4]; intro _; simpa using e4
  · rw [Bool.not_eq_true] at e; simp only [e]; simp -implicitDefEqProofs [nameB]; intro h1 h2 _; have hne : s ≠ [] := by
      rintro rfl; simp at h1
    simpa [hne, h2] using e
end Go.Proofs.Tz
namespace Go.Proofs.Tz
open Go.Vw Go.Proofs
open Go.RowKit in
theorem Ctr.asData {P : Program} {f : FuncId} {args : List AV} {e : TypeId} {l : List D} (h : Ctr P f args (.own true e l)) : Ctr P f args (.d (.sl l)) := by
  refine ⟨h.1, fun w L og vals hlok hgl hog hv => (h.2 w L og vals hlok hgl hog hv).mono ?_⟩; rintro x w' ⟨v, L', og', rfl, hgr, hlok', hold', hog', hrc⟩; obtain ⟨L2, hrc2, hlok2, hold2, hext2⟩ := hrc.demote false hlok' (fun g hg => (hog' g hg).1); refine ⟨v, L2, none, rfl, hgr, hlok2, fun c q hc hne => ?_, (fun g hg => by cases hg), OwnR.at_ (P := P) hrc2⟩; refine (hold2 c q (fun e => ?_)).trans (hold' c q hc hne); rcases (hog' c e.symm).2 with h1 | h1
  · omega
  · exact hne h1
def tyM (T : List Ty) : List (D × D) := T.map fun t => (.str (lower t.1), tyD t)
def clM (C : List Cl) : List (D × D) := C.map fun c => (.str (lower c.1), clD c)
def kn (a b : Nat) (T : List Ty) (C : List Cl) : List AV := [.hm (.map (some a)) 9 (tyM T) none, .hm (.map (some b)) 9 (clM C) none]
def kd (a b : Nat) : D := .agg [.raw (.map (some a)), .raw (.map (some b))]
theorem fitS (s : Str) : keyFit (prog.underlying 9) (.str s) = true := by
  have : prog.underlying 9 = some .string := by kernel_rfl
  rw [this]; rfl
theorem mapTy : prog.underlying 162 = some (.map 9 81) := by kernel_rfl
theorem mapCl : prog.underlying 163 = some (.map 9 159) := by kernel_rfl
theorem mget_ty (T : List Ty) (n : Str) : mget (tyM T) (.str n) = (T.find? fun t => decide (lower t.1 = n)).map tyD := by
  unfold mget tyM; rw [List.find?_map]; have : ((fun p : D × D => keyEq p.1 (.str n)) ∘ fun t : Ty => ((.str (lower t.1) : D), tyD t)) = fun t : Ty => decide (lower t.1 = n) := by
    funext e; simp [keyEq]
  rw [this]; cases List.find? (fun t : Ty => decide (lower t.1 = n)) T <;> rfl
theorem mget_cl (C : List Cl) (n : Str) : mget (clM C) (.str n) = (C.find? fun c => decide (lower c.1 = n)).map clD := by
  unfold mget clM; rw [List.find?_map]; have : ((fun p : D × D => keyEq p.1 (.str n)) ∘ fun t : Cl => ((.str (lower t.1) : D), clD t)) = fun t : Cl => decide (lower t.1 = n) := by
    funext e; simp [keyEq]
  rw [this]; cases List.find? (fun t : Cl => decide (lower t.1 = n)) C <;> rfl
theorem mset_ty {T : List Ty} {t : Ty} (h : lower t.1 ∉ tyN T) : mset (tyM T) (.str (lower t.1)) (tyD t) = tyM (T ++ [t]) := by
  unfold mset; have : (tyM T).any (fun p => keyEq p.1 (.str (lower t.1))) = false := by
    rw [List.any_eq_false]; rintro p hp; obtain ⟨x, hx, rfl⟩ := List.mem_map.1 hp; simp only [keyEq, decide_eq_true_eq]; intro e; exact h (List.mem_map.2 ⟨x, hx, by simpa using e⟩)
  rw [this]; simp [tyM]
theorem mset_cl {C : List Cl} {c : Cl} (h : lower c.1 ∉ clN C) : mset (clM C) (.str (lower c.1)) (clD c) = clM (C ++ [c]) := by
  unfold mset; have : (clM C).any (fun p => keyEq p.1 (.str (lower c.1))) = false := by
    rw [List.any_eq_false]; rintro p hp; obtain ⟨x, hx, rfl⟩ := List.mem_map.1 hp; simp only [keyEq, decide_eq_true_eq]; intro e; exact h (List.mem_map.2 ⟨x, hx, by simpa using e⟩)
  rw [this]; simp [clM]
theorem find_ty {T : List Ty} {n : Str} : (T.find? fun t => decide (lower t.1 = n)).isSome = decide (n ∈ tyN T) := by
  rw [Bool.eq_iff_iff, List.find?_isSome, decide_eq_true_eq, tyN, List.mem_map]; simp only [decide_eq_true_eq]
theorem find_cl {C : List Cl} {n : Str} : (C.find? fun t => decide (lower t.1 = n)).isSome = decide (n ∈ clN C) := by
  rw [Bool.eq_iff_iff, List.find?_isSome, decide_eq_true_eq, clN, List.mem_map]; simp only [decide_eq_true_eq]
def FitTy (t : Ty) : Prop := List.length t.1 ≤ 140737488351232
def FitL (l : List Str) : Prop := l.length ≤ 140737488351232 ∧ ∀ s ∈ l, List.length s ≤ 140737488351232
def FitCl (c : Cl) : Prop := List.length c.1 ≤ 140737488351232 ∧ List.length c.2.1 ≤ 140737488351232 ∧ FitL c.2.2.1 ∧ FitL c.2.2.2
theorem tyQ_fn (a b : Nat) (T : List Ty) (C : List Cl) (s : Str) (hs : List.length s ≤ 140737488351232) :
    CtrG prog 231 [.d (.str s), .d (.ref (kd a b))] (kn a b T C) (fun r hs' => r = .d (.bool (!decide (lower s ∈ tyN T))) ∧ hs' = kn a b T C) := by
  refine fn_of_vwpG (fun i => i == 9000001) (by kernel_rfl) func231 (by kernel_rfl) rfl rfl (nbl rfl) (by kernel_rfl) rfl ?_; have c1 := foldLowerX_fn s hs; have hm := mget_ty T (lower s); rw [← find_ty]; generalize lower s = n at *; simp -implicitDefEqProofs [initG, kn, kd]; refine callP c1 ?_; simp -implicitDefEqProofs [initG]; refine lookK (m := tyM T) (E := none) 1000000 (by omega) mapTy (by simp [initG]) (fitS n) Tryz.zd_81 hm ?_; cases List.find? (fun t : Ty => decide (lower t.1 = n)) T with
  | none =>
    simp -implicitDefEqProofs [initG]; exact ⟨.d (.bool true), [1000000, 1000001], by simp, by simp [initG, isH], by simp [ResG], by simp, by simp [initG]⟩
  | some t =>
    simp -implicitDefEqProofs [initG, tyD]; exact ⟨.d (.bool false), [1000000, 1000001], by simp, by simp [initG, isH], by simp [ResG], by simp, by simp [initG]⟩
def idxQ (T : List Ty) : List Str → Nat → Int
  | [], _ => -1
  | s :: l, k => if lower s ∉ tyN T then k else idxQ T l (k + 1)
theorem idxQ_drop {T : List Ty} {l : List Str} {k : Nat} (h : k < l.length) : idxQ T (l.drop k) k = if lower l[k] ∉ tyN T then (k : Int) else idxQ T (l.drop (k + 1)) (k + 1) := by
  rw [List.drop_eq_getElem_cons h, idxQ]
theorem idxQ_neg (T : List Ty) : ∀ (l : List Str) (k : Nat), decide (0 ≤ idxQ T l k) = !allTy T l
  | [], k => by simp [idxQ, allTy]
  | s :: l, k => by
    rw [idxQ]; by_cases h : lower s ∈ tyN T
    · have := idxQ_neg T l (k + 1); rw [if_neg (by simpa using h), this]; simp [allTy, h]
    · rw [if_pos h]; have : (0 : Int) ≤ k := (by omega); simp [allTy, h, this]
def IxI (a b : Nat) (T : List Ty) (C : List Cl) (l : List Str) (V : Int) (k : Nat) (τ : St) : Prop := τ 0 = .d (strs l) ∧ τ 1 = .d (.clo 231 [.ref (kd a b)]) ∧ τ 7 = .d (.int .i64 l.length) ∧ τ 8 = .d (.int .i64 k) ∧
  τ 1000000 = .hm (.map (some a)) 9 (tyM T) none ∧ τ 1000001 = .hm (.map (some b)) 9 (clM C) none ∧ idxQ T (l.drop k) k = V
theorem idxF_fn (a b : Nat) (T : List Ty) (C : List Cl) (l : List Str) (hl : FitL l) :
    CtrG prog 166 [.d (strs l), .d (.clo 231 [.ref (kd a b)])] (kn a b T C) (fun r hs' => r = .d (.int .i64 (idxQ T l 0)) ∧ hs' = kn a b T C) := by
  refine fn_of_vwpG (fun i => i == 5000016) (by kernel_rfl) func166 (by kernel_rfl) rfl rfl (nbl rfl) (by kernel_rfl) rfl ?_; obtain ⟨V, hV⟩ : ∃ V, idxQ T l 0 = V := ⟨_, rfl⟩; rw [hV]; obtain ⟨hl1, hl2⟩ := hl; simp -implicitDefEqProofs [initG, kn, strs]; refine loopN l.length (IxI a b T C l V) ⟨by simp [initG, strs], by simp [initG], by simp [initG], by simp [initG], by simp [initG], by simp [initG], by simpa using hV⟩ ?_; rintro k τ hk ⟨g0, g1, g7, g8, gA, gB, hI⟩; by_cases hlt : k < l.length
  · have hlt' : (k : Int) < l.length := (by omega); rw [idxQ_drop hlt] at hI; have c1 := tyQ_fn a b T C l[k] (hl2 _ (gmm hlt)); generalize hx : l[k] = s at *; simp -implicitDefEqProofs [g0, g1, g7, g8, strs, hlt, hlt', hx, kd]; refine givB [1000000, 1000001] 1000000 c1 (by simp [gA, gB, kn]) rfl (by simp) ?_; rintro r hs' ⟨rfl, rfl⟩; by_cases hq : lower s ∈ tyN T
    · rw [if_neg (by simpa using hq)] at hI; simp -implicitDefEqProofs [g0, g1, g7, g8, gA, gB, takeH, putH, kn, hq]; (repeat refine ai (by first | omega | rfl) ?_); exact again hlt ⟨by simp [g0, strs], by simp [g1, kd], by simp [g7], by simp, by simp, by simp, hI⟩
    · rw [if_pos hq] at hI; simp -implicitDefEqProofs [g0, g1, g7, g8, gA, gB, takeH, putH, kn, hq]; exact ⟨.d (.int .i64 k), [1000000, 1000001], by simp, by simp [isH], by simp [ResG], by simp [hI], by simp⟩
  · have hlt' : ¬ (k : Int) < l.length := (by omega); rw [List.drop_eq_nil_of_le (by omega), idxQ] at hI; simp -implicitDefEqProofs [g0, g1, g7, g8, gA, gB, hlt, hlt']; exact ⟨.d (.int .i64 (-1)), [1000000, 1000001], by simp, by simp [gA, gB, isH], by simp [ResG], by simp [hI], by simp [gA, gB]⟩
theorem contF_fn (a b : Nat) (T : List Ty) (C : List Cl) (l : List Str) (hl : FitL l) :
    CtrG prog 116 [.d (strs l), .d (.clo 231 [.ref (kd a b)])] (kn a b T C) (fun r hs' => r = .d (.bool (!allTy T l)) ∧ hs' = kn a b T C) := by
  refine fn_of_vwpG (fun i => i == 5000007) (by kernel_rfl) func116 (by kernel_rfl) rfl rfl (nbl rfl) (by kernel_rfl) rfl ?_; have c1 := idxF_fn a b T C l hl; have h0 := idxQ_neg T l 0; generalize idxQ T l 0 = x at *; simp only [strs, kd] at c1; simp -implicitDefEqProofs [initG, kn, strs, kd]; refine givB [1000000, 1000001] 1000000 c1 (by simp [initG, kn]) rfl (by simp) ?_; rintro r hs' ⟨rfl, rfl⟩; simp -implicitDefEqProofs [initG, takeH, putH, kn]; exact ⟨.d (.bool (!allTy T l)), [1000000, 1000001], by simp, by simp [initG, isH], by simp [ResG, h0], by simp, by simp [initG]⟩
theorem kall_fn (a b : Nat) (T : List Ty) (C : List Cl) (l : List Str) (hl : FitL l) :
    CtrG prog 227 [.d (kd a b), .d (strs l)] (kn a b T C) (fun r hs' => r = .d (.bool (allTy T l)) ∧ hs' = kn a b T C) := by
  refine fn_of_vwpG (fun i => i == 5000007) (by kernel_rfl) func227 (by kernel_rfl) rfl rfl (nbl rfl) (by kernel_rfl) rfl ?_; have c1 := contF_fn a b T C l hl; simp only [strs, kd] at c1; simp -implicitDefEqProofs [initG, kn, strs, kd]; refine givB [1000000, 1000001] 1000000 c1 (by simp [initG, kn]) rfl (by simp) ?_; rintro r hs' ⟨rfl, rfl⟩; simp -implicitDefEqProofs [initG, takeH, putH, kn]; exact ⟨.d (.bool (allTy T l)), [1000000, 1000001], by simp, by simp [initG, isH], by simp [ResG], by simp, by simp [initG]⟩
theorem klist_fn (a b : Nat) (l : List Str) : Ctr prog 226 [.d (kd a b), .d (strs l)] (.d (.int .i64 (if 64 < l.length then 3 else 0))) := by
  refine fv (fun _ => false) func226 (by kernel_rfl) rfl rfl rfl rfl rfl ?_; by_cases h : 64 < l.length
  · have h' : (64 : Int) < l.length := (by omega); simp -implicitDefEqProofs [strs, kd, h, h']
  · have h' : ¬ (64 : Int) < l.length := (by omega); simp -implicitDefEqProofs [strs, kd, h, h']
theorem addTy_fn (a b : Nat) (T : List Ty) (C : List Cl) (t : Ty) (ht : FitTy t) :
    CtrG prog 213 [.d (kd a b), .d (tyD t)] (kn a b T C) (fun r hs' => r = .d (.int .i64 (tyE T t)) ∧ hs' = kn a b (if tyE T t = 0 then T ++ [t] else T) C) := by
  refine fn_of_vwpG (fun _ => false) (by kernel_rfl) func213 (by kernel_rfl) rfl rfl (nbl rfl) (by kernel_rfl) rfl ?_; have hset := mset_ty (T := T) (t := t); obtain ⟨n, sy, sg⟩ := t; have c1 := foldLowerX_fn n ht; have c2 := fnameX_fn n ht; have hm := mget_ty T (lower n); have hf := find_ty (T := T) (n := lower n); obtain ⟨V, hV⟩ : ∃ V, tyE T (n, sy, sg) = V := ⟨_, rfl⟩; rw [hV]; unfold tyE at hV; simp only at hV hset; have htd : tyD (n, sy, sg) = .agg [.str n, .int .i64 sy, .bool sg] := rfl; rw [htd] at hset ⊢; generalize lower n = ln at *; obtain ⟨o, ho⟩ : ∃ o, List.find? (fun t : Ty => decide (lower t.1 = ln)) T = o := ⟨_, rfl⟩; rw [ho] at hm hf; cases hb : nameB n with
  | false =>
    rw [if_pos hb] at hV; subst hV; rw [hb] at c2; simp -implicitDefEqProofs [initG, kn, kd]; refine callK c1 ?_; simp -implicitDefEqProofs [initG]; refine lookK (m := tyM T) (E := none) 1000000 (by omega) mapTy (by simp [initG]) (fitS ln) Tryz.zd_81 hm ?_; cases o with
    | none =>
      simp -implicitDefEqProofs [initG]; refine callK c2 ?_; simp -implicitDefEqProofs [initG]; exact ⟨.d (.int .i64 5), [1000000, 1000001], by simp, by simp [initG, isH], by simp [ResG], by simp, by simp [initG]⟩
    | some z =>
      simp -implicitDefEqProofs [initG, tyD]; refine callK c2 ?_; simp -implicitDefEqProofs [initG]; exact ⟨.d (.int .i64 5), [1000000, 1000001], by simp, by simp [initG, isH], by simp [ResG], by simp, by simp [initG]⟩
  | true =>
  rw [if_neg (by simp [hb])] at hV; rw [hb] at c2; cases o with
  | some z =>
    have hin : ln ∈ tyN T := (by simpa using hf.symm); rw [if_pos hin] at hV; subst hV; simp -implicitDefEqProofs [initG, kn, kd]; refine callK c1 ?_; simp -implicitDefEqProofs [initG]; refine lookK (m := tyM T) (E := none) 1000000 (by omega) mapTy (by simp [initG]) (fitS ln) Tryz.zd_81 hm ?_; simp -implicitDefEqProofs [initG, tyD]; refine callK c2 ?_; simp -implicitDefEqProofs [initG]; exact ⟨.d (.int .i64 7), [1000000, 1000001], by simp, by simp [initG, isH], by simp [ResG], by simp, by simp [initG]⟩
  | none =>
    have hin : ln ∉ tyN T := (by simpa using hf.symm); rw [if_neg hin] at hV; have hset := hset hin; have hcase : V = 8 ∧ sy < 1 ∨ V = 8 ∧ ¬ sy < 1 ∧ 5 < sy ∨ V = 0 ∧ ¬ sy < 1 ∧ ¬ 5 < sy := by
      by_cases h1 : sy < 1
      · exact .inl ⟨by rw [← hV, if_pos (.inl h1)], h1⟩
      · by_cases h2 : 5 < sy
        · exact .inr (.inl ⟨by rw [← hV, if_pos (.inr h2)], h1, h2⟩)
        · exact .inr (.inr ⟨by rw [← hV, if_neg (by omega)], h1, h2⟩)
    clear hV; rcases hcase with ⟨rfl, h1⟩ | ⟨rfl, h1, h2⟩ | ⟨rfl, h1, h2⟩
    · simp -implicitDefEqProofs [initG, kn, kd]; refine callK c1 ?_; simp -implicitDefEqProofs [initG]; refine lookK (m := tyM T) (E := none) 1000000 (by omega) mapTy (by simp [initG]) (fitS ln) Tryz.zd_81 hm ?_; simp -implicitDefEqProofs [initG]; refine callK c2 ?_; simp -implicitDefEqProofs [initG, h1]; exact ⟨.d (.int .i64 8), [1000000, 1000001], by simp, by simp [initG, isH], by simp [ResG], by simp, by simp [initG]⟩
    · simp -implicitDefEqProofs [initG, kn, kd]; refine callK c1 ?_; simp -implicitDefEqProofs [initG]; refine lookK (m := tyM T) (E := none) 1000000 (by omega) mapTy (by simp [initG]) (fitS ln) Tryz.zd_81 hm ?_; simp -implicitDefEqProofs [initG]; refine callK c2 ?_; simp -implicitDefEqProofs [initG, h1, h2]; exact ⟨.d (.int .i64 8), [1000000, 1000001], by simp, by simp [initG, isH], by simp [ResG], by simp, by simp [initG]⟩
    · simp -implicitDefEqProofs [initG, kn, kd]; refine callK c1 ?_; simp -implicitDefEqProofs [initG]; refine lookK (m := tyM T) (E := none) 1000000 (by omega) mapTy (by simp [initG]) (fitS ln) Tryz.zd_81 hm ?_; simp -implicitDefEqProofs [initG]; refine callK c2 ?_; simp -implicitDefEqProofs [initG, h1, h2]; refine updK (E := none) (m := tyM T) 1000000 mapTy (by simp [initG]) (fitS ln) (tyM (T ++ [(n, sy, sg)])) (by rw [hset]) ?_; simp -implicitDefEqProofs [initG]; exact ⟨.d (.int .i64 0), [1000000, 1000001], by simp, by simp [initG, isH], by simp [ResG], by simp, by simp [initG]⟩
end Go.Proofs.Tz