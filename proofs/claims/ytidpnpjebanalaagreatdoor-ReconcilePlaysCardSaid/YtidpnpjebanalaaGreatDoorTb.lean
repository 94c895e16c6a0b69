/-
  What the functions that the statements about targets and synchronizations reach compute, part 2 of 5, for data of bounded size (each theorem states its bound).
-/import Derived.Test.YtidpnpjebanalaaGreatDoorTa
import Derived.Lib.RowBridge
import Derived.Test.YtidpnpjebanalaaGreatDoorWc
open Go.Proofs.Tryz
set_option linter.unusedSimpArgs false
set_option linter.unusedVariables false
namespace Go.Proofs.Tz
open Go.Vw Go.Sort Go.RowKit Go.Lib
set_option maxRecDepth 100000
set_option maxHeartbeats 8000000
theorem strs_put {w : World} {L : Nat → Nat → Prop} {og : Option Nat} {g cap : Nat} {l : List Str} (hown : OwnR prog w L og true 9 (l.map .str) (.slice (some ⟨g, 0, none⟩) l.length cap)) (hlok : ∀ b q, L b q → b < w.heap.size) (l' : List Str) (hl : l'.length = l.length) (q : Nat) :
    OwnR prog (putRow encStr (Sort.ahead w q) g 0 l'.toArray) L og true 9 (l'.map .str) (.slice (some ⟨g, 0, none⟩) l.length cap) ∧ GrownS w (putRow encStr (Sort.ahead w q) g 0 l'.toArray) (optB (some g)) ∧ ∀ b p, L b p → b < (putRow encStr (Sort.ahead w q) g 0 l'.toArray).heap.size := by
  have hown' : OwnR prog w L og true 9 (l.map .str) (.slice (some ⟨g, 0, none⟩) (l.map D.str).length cap) := by rw [List.length_map]; exact hown
  have hs := hown'.sorted hlok (strs_rep w L l') (by simp [hl]) (fun sz hsz c hc => by
    obtain ⟨s, _, rfl⟩ := List.mem_map.1 hc; rw [show (prog.info? (ety 9)).map (·.size) = some 1 from Tryz.sz_9] at hsz; simpa using hsz) q #[] (F := (l'.map encStr).toArray) (by rw [strs_flat])
  rw [List.length_map] at hs; have e : sortedW w g q (l'.map encStr).toArray #[] = putRow encStr (Sort.ahead w q) g 0 l'.toArray := by
    unfold sortedW; rw [grow_empty, putRow_map encStr]; simp
  rw [e] at hs; exact hs
theorem strs_own {w : World} {L : Nat → Nat → Prop} {og : Option Nat} {l : List Str} {v : Value} (h : OwnR prog w L og true 9 (l.map .str) v) :
    (v = .slice none 0 0 ∧ l = []) ∨ ∃ g cap, v = .slice (some ⟨g, 0, none⟩) l.length cap ∧ l.length ≤ cap ∧ cap ≤ maxLen ∧ Holds encStr w g 0 l.toArray ∧ g < w.heap.size ∧ og = some g := by
  obtain ⟨css0, sz0, g1, g2, g3, g4, g5⟩ := id h; rcases g4.2 with ⟨hv, hn⟩ | ⟨g, cap, cur, hv, hh, hnc, hcm, _⟩
  · exact .inl ⟨hv, by simpa using hn⟩
  · subst hv; obtain ⟨css, h1, h2, h3, h4, h5⟩ := h.holds; have hcss := strs_only h1; subst hcss; rw [strs_flat] at h3; exact .inr ⟨g, cap, by rw [List.length_map], by simpa using hnc, hcm, holds_strs h3, h4, (h.blk (g := g) rfl).1⟩
theorem compact_fn (l : List Str) (hl : l.length < 1000000) : Ctr prog 101 [.own true 9 (l.map .str)] (.own true 9 ((compact l).map .str)) := by
  refine ⟨enters_of func101 (by kernel_rfl) rfl, fun w L og vals hlok hgl hog hrc => ?_⟩; simp only [RCs] at hrc; obtain ⟨v, us, rfl, hown, rfl⟩ := hrc; simp only [RC] at hown; rcases strs_own hown with ⟨rfl, rfl⟩ | ⟨g, cap, rfl, hcap, hcm, hH, hg, hgo⟩
  · have h := AnyG.slices_Compact_string_empty Tryz.layC none 0 w
    change Calls prog 101 _ _ _ at h
    refine h.mono ?_; rintro e w' ⟨rfl, rfl⟩; exact ⟨_, L, og, rfl, GrownS.refl _ _, hlok, fun _ _ _ _ => Iff.rfl, fun g hg => ⟨(hog g hg).1, .inr hg⟩, hown⟩
  · have h := AnyG.slices_Compact_string Tryz.layC g 0 cap l w hH (by omega) hcap
    change Calls prog 101 _ _ _ at h
    refine h.mono ?_; rintro e w' ⟨rfl, q, rfl⟩; have hle := compact_length_le l; have hp := strs_put hown hlok (compact l ++ List.replicate (l.length - (compact l).length) []) (by simp; omega) q; refine ⟨_, L, og, rfl, by rw [hgo]; exact hp.2.1, hp.2.2, fun _ _ _ _ => Iff.rfl, fun b hb => ?_, ?_⟩
    · refine ⟨Nat.lt_of_lt_of_le (hog b hb).1 hp.2.1.size, .inr hb⟩
    · simp only [RC]; have := hp.1.cut (hi := (compact l).length) (m := cap) (by simp) (by omega) (Nat.le_refl _); rw [← List.map_take, List.take_left] at this; exact this
end Go.Proofs.Tz
namespace Go.Proofs.Tz
open Go.Vw
set_option maxRecDepth 100000
theorem sortedQ_fn (x : Str × Sl) (n : Str) : Ctr prog 98 [.d (rw2 x), .d (.ref (.str n))] (.d (.bool (decide (x.1 = n)))) := by
  refine fv (fun _ => false) func98 (by kernel_rfl) rfl rfl rfl rfl rfl ?_; simp -implicitDefEqProofs [rw2]
theorem emptyQ_fn (x : Str × Sl) : Ctr prog 100 [.d (rw2 x)] (.d (.bool (decide (x.2.2.1 = 0)))) := by
  refine fv (fun _ => false) func100 (by kernel_rfl) rfl rfl rfl rfl rfl ?_; simp -implicitDefEqProofs [rw2]
abbrev Row := Str × Sl × List Str
def pr (r : Row) : Str × Sl := (r.1, r.2.1)
def nv (r : Row) : Att := (r.1, r.2.2)
def hd (r : Row) : Value := .slice r.2.1.1 r.2.1.2.1 r.2.1.2.2
def rowD (r : Row) : D := rw2 (pr r)
def hnd (r : Row) : AV := .hs (hd r) 9 (r.2.2.map .str)
theorem idxR_map {α β : Type} (f : α → β) (p : β → Bool) : ∀ (l : List α) (k : Nat), idxR p k (l.map f) = idxR (fun x => p (f x)) k l
  | [], _ => rfl
  | x :: l, k => by simp only [List.map_cons, idxR, idxR_map f p l (k + 1)]
def addG (acc : List Att) (a : Att) : List Att :=
  if idxR (fun x : Att => decide (x.1 = lower a.1)) 0 acc = -1 then acc ++ [(lower a.1, a.2)] else acc.modify (idxR (fun x : Att => decide (x.1 = lower a.1)) 0 acc).toNat fun x => (x.1, x.2 ++ a.2)
def grp (l : List Att) : List Att := l.foldl addG []
theorem grp_take {l : List Att} {k : Nat} (h : k < l.length) : grp (l.take (k + 1)) = addG (grp (l.take k)) l[k] := by
  rw [take_s h]; simp only [grp, List.foldl_append, List.foldl_cons, List.foldl_nil]
theorem grp_len (l : List Att) : (grp l).length ≤ l.length := by
  have key : ∀ (l acc : List Att), (l.foldl addG acc).length ≤ acc.length + l.length := by
    intro l
    induction l with
    | nil => intro acc; simp
    | cons a l ih =>
      intro acc; have := ih (addG acc a); have h2 : (addG acc a).length ≤ acc.length + 1 := by
        unfold addG; split <;> simp
      simp only [List.foldl_cons, List.length_cons]; omega
  simpa [grp] using key l []
theorem total_app (a b : List Att) : total (a ++ b) = total a + total b := by simp [total]
theorem total_modify (f : Att → Att) (n : Nat) : ∀ (acc : List Att) (i : Nat), (∀ x, (f x).2.length = x.2.length + n) → i < acc.length → total (acc.modify i f) = total acc + n
  | [], i, _, h => by simp at h
  | x :: acc, 0, hf, _ => by simp [total, List.modify_cons, hf]; omega
  | x :: acc, i + 1, hf, h => by
    have := total_modify f n acc i hf (by simpa using h); simp only [total, List.modify_succ_cons, List.map_cons, List.sum_cons] at this ⊢; omega
theorem total_addG (acc : List Att) (a : Att) : total (addG acc a) = total acc + a.2.length := by
  unfold addG; split
  · rw [total_app]; simp [total]
  · rename_i h
    obtain ⟨i, h1, h2, _⟩ := idxR_pos _ acc 0 h; rw [h1]; exact total_modify _ _ _ _ (fun x => by simp) (by simpa using h2)
theorem total_grp (l : List Att) : total (grp l) = total l := by
  have key : ∀ (l acc : List Att), total (l.foldl addG acc) = total acc + total l := by
    intro l
    induction l with
    | nil => intro acc; simp [total]
    | cons a l ih =>
      intro acc; rw [List.foldl_cons, ih, total_addG]; simp only [total, List.map_cons, List.sum_cons]; omega
  have := key l []; simpa [grp, total] using this
theorem total_mem {l : List Att} {x : Att} (h : x ∈ l) : x.2.length ≤ total l := by
  induction l with
  | nil => simp at h
  | cons y l ih =>
    simp only [total, List.map_cons, List.sum_cons] at ih ⊢; rcases List.mem_cons.1 h with rfl | h
    · omega
    · have := ih h; omega
theorem modify_set {α : Type} (f : α → α) : ∀ (l : List α) (i : Nat) (x : α), l[i]? = some x → l.modify i f = l.set i (f x)
  | [], i, x, h => by simp at h
  | y :: l, 0, x, h => by
    simp only [List.getElem?_cons_zero, Option.some.injEq] at h; subst h; rfl
  | y :: l, i + 1, x, h => by
    simp only [List.getElem?_cons_succ] at h; simp [List.modify_succ_cons, modify_set f l i x h]
theorem hh_ne (i d : Nat) (h : d < 1000000) : (1000000 + i = d) = False := by simp; omega
theorem hh_ne' (i d : Nat) (h : d < 1000000) : (d = 1000000 + i) = False := by simp; omega
theorem sd42 : structDX prog true 112 = some [.str [], .raw (.slice none 0 0)] := by kernel_rfl
def okLen (rs : List Row) : Prop := ∀ r ∈ rs, r.2.1.2.1 = r.2.2.length
def slotsG : Nat → Bool := fun i => i == 3 || i == 44 || i == 1000027 || i == 2000020 || i == 3000055 || i == 4000063 || i == 3000068
abbrev QRow := Row × Nat
def q1 (q : QRow) : D := rowD q.1
def Named (qs : List QRow) (τ : St) : Prop := (qs.map (·.2)).Nodup ∧ ∀ q ∈ qs, τ (1000000 + q.2) = hnd q.1
def normA (a : Att) : Att := (a.1, Go.Lib.compact (sortS a.2))
def nonE (a : Att) : Bool := !decide (a.2 = [])
def ByName (m : List (Str × Sl)) : Prop := ∀ i j (_ : i < j) (hj : j < m.length), Op.bytesLess m[j].1 (m[i]'(by omega)).1 = false
theorem perm_lift {α β : Type} (f : α → β) {m m' : List β} (h : m.Perm m') : ∀ l : List α, l.map f = m' → ∃ l' : List α, l'.Perm l ∧ l'.map f = m := by
  induction h with
  | nil => intro l hl; exact ⟨l, .refl _, hl⟩
  | cons x p ih =>
    intro l hl; cases l with
    | nil => simp at hl
    | cons a t =>
      simp only [List.map_cons, List.cons.injEq] at hl; obtain ⟨t', h1, h2⟩ := ih t hl.2; exact ⟨a :: t', h1.cons a, by simp [hl.1, h2]⟩
  | swap x y l0 =>
    intro l hl
    match l, hl with
    | a :: b :: t, hl =>
      simp only [List.map_cons, List.cons.injEq] at hl; exact ⟨b :: a :: t, .swap _ _ _, by simp [hl.1, hl.2.1, hl.2.2]⟩
  | trans h1 h2 ih1 ih2 =>
    intro l hl; obtain ⟨l2, p2, e2⟩ := ih2 l hl; obtain ⟨l1, p1, e1⟩ := ih1 l2 e2; exact ⟨l1, p1.trans p2, e1⟩
theorem zip_mem {rs : List Row} {q : QRow} (h : q ∈ rs.zipIdx) : ∃ hi : q.2 < rs.length, rs[q.2] = q.1 := by
  obtain ⟨r, i⟩ := q; have := List.mem_zipIdx_iff_getElem?.1 h; exact ⟨(List.getElem?_eq_some_iff.1 this).1, (List.getElem?_eq_some_iff.1 this).2⟩
theorem sortedG_fn (l : List Att) (hl : Fit2 l) : CtrG prog 74 [.d (atts l)] [] (fun r hs => ∃ rs : List Row, r = .own true 112 (rs.map rowD) ∧ hs = rs.map hnd ∧ (rs.map nv).Perm (((grp l).filter nonE).map normA) ∧ ∀ i j (_ : i < j) (hj : j < rs.length), Op.bytesLess rs[j].1 (rs[i]'(by omega)).1 = false) := by
  refine fn_of_vwpG slotsG (by kernel_rfl) func74 (by kernel_rfl) rfl rfl (nbl rfl) (by kernel_rfl) rfl ?_; obtain ⟨⟨hl1, hl2⟩, hl3⟩ := hl; simp -implicitDefEqProofs [slotsG, initG, atts]; refine loopN l.length (fun k τ => τ 9 = .d (.sl (l.map att)) ∧ τ 10 = .d (.int .i64 l.length) ∧ τ 11 = .d (.int .i64 k) ∧ ∃ rs : List Row, τ 3 = .own true 112 (rs.map rowD) ∧ (∀ i (h : i < rs.length), τ (1000000 + i) = hnd rs[i]) ∧ (∀ i, rs.length ≤ i → τ (1000000 + i) = .undef) ∧ rs.map nv = grp (l.take k) ∧ okLen rs) ?_ ?_
  · refine ⟨by simp, by simp, by simp, [], by simp, by simp, fun i _ => ?_, by simp [grp], by simp [okLen]⟩; simp [initG, hh_ne]
  rintro k τ hk ⟨h9, h10, h11, rs, h3, hH, hU, hg, hlen⟩; by_cases hlt : k < l.length
  · simp -implicitDefEqProofs [slotsG, h9, h10, h11, h3, hlt, att, strs]; refine callK (foldLower_fn _ (hl2 _ (gmm hlt)).1) ?_; simp -implicitDefEqProofs [slotsG, h9, h10, h11, h3, hlt, att, strs]; have hrk : rs.length ≤ k := by
      have := grp_len (l.take k); rw [← hg] at this; simpa [Nat.min_eq_left (Nat.le_of_lt hlt)] using this
    have htot := total_take l k hlt; rw [← total_grp (l.take k), ← hg] at htot; have hmr : rs.map rowD = (rs.map pr).map rw2 := (by simp [rowD]); rw [hmr]; refine lendK (indexR_fn 98 [.ref (.str (lower l[k].1))] rfl (fun x => decide (x.1 = lower l[k].1)) (rs.map pr) (by simp; omega) (fun a _ => sortedQ_fn a _)) rfl ?_; rw [← hmr]; have hidx : idxR (fun x : Str × Sl => decide (x.1 = lower l[k].1)) 0 (rs.map pr) = idxR (fun x : Att => decide (x.1 = lower l[k].1)) 0 (grp (l.take k)) := by
      rw [← hg, idxR_map, idxR_map]; rfl
    rw [hidx]; have hnew := grp_take (l := l) hlt; by_cases hn : idxR (fun x : Att => decide (x.1 = lower l[k].1)) 0 (grp (l.take k)) = -1
    · simp -implicitDefEqProofs [slotsG, h9, h10, h11, h3, hlt, att, strs, hn, sd42]; refine ⟨by omega, by omega, appK0 (1000000 + rs.length) (by simp [hh_ne, hU]) (by simp) (by simp; omega) (by simp; omega) (fun A c => ?_)⟩; simp -implicitDefEqProofs [slotsG, h9, h10, h11, h3, hlt, att, strs, hn, sd42, hh_ne, hh_ne']; refine ⟨by omega, again hlt ⟨by simp [h9, hh_ne, hh_ne'], by simp [h10, hh_ne, hh_ne'], by simp [hh_ne, hh_ne'], rs ++ [(lower l[k].1, (A, l[k].2.length, c), l[k].2)], ?_, fun i hi => ?_, fun i hi => ?_, ?_, ?_⟩⟩
      · simp [hh_ne, hh_ne', rowD, rw2, pr, List.set_append]
      · simp only [List.length_append, List.length_cons, List.length_nil] at hi; by_cases hi2 : i < rs.length
        · have hne : ¬ (i = rs.length) := (by omega); simp [hh_ne, hh_ne', hH i hi2, hnd, hne, List.getElem_append_left hi2]
        · have hie : i = rs.length := (by omega); subst hie; simp [hh_ne, hh_ne', hnd, hd]
      · simp only [List.length_append, List.length_cons, List.length_nil] at hi; have hne : ¬ (i = rs.length) := (by omega); simp [hh_ne, hh_ne', hU i (by omega), hne]
      · rw [hnew, addG, if_pos hn, List.map_append, hg]; rfl
      · intro r hr; rcases List.mem_append.1 hr with hr | hr
        · exact hlen r hr
        · rw [List.mem_singleton.1 hr]
    · obtain ⟨i, hi1, hi2, hi3, hi4⟩ := idxR_pos (fun x : Att => decide (x.1 = lower l[k].1)) (grp (l.take k)) 0 hn; simp only [Nat.zero_add] at hi1; have hir : i < rs.length := by rw [← hg] at hi2; simpa using hi2
      have hi0 : ¬ (i : Int) < 0 := (by omega); have hvl : rs[i].2.2.length + l[k].2.length ≤ 1000000 := by
        have := total_mem (l := rs.map nv) (x := nv rs[i]) (List.mem_map.2 ⟨_, gmm hir, rfl⟩); simp only [nv] at this; omega
      rw [hi1]; simp -implicitDefEqProofs [slotsG, h9, h10, h11, h3, hlt, att, strs, hi0, hir, rowD, rw2, pr]; refine appK (1000000 + i) (by simp [hh_ne, hH i hir, hnd, hd]; rfl) (by simp) (by simp; omega) (by simp; omega) (fun A c => ?_); simp -implicitDefEqProofs [slotsG, h9, h10, h11, h3, hlt, att, strs, hi0, hir, rowD, rw2, pr, hh_ne, hh_ne']; have hset : (rs.set i (rs[i].1, (A, rs[i].2.2.length + l[k].2.length, c), rs[i].2.2 ++ l[k].2)).length = rs.length := (by simp); refine ⟨by omega, again hlt ⟨by simp [h9, hh_ne, hh_ne'], by simp [h10, hh_ne, hh_ne'], by simp [hh_ne, hh_ne'], rs.set i (rs[i].1, (A, rs[i].2.2.length + l[k].2.length, c), rs[i].2.2 ++ l[k].2), ?_, fun j hj => ?_, fun j hj => ?_, ?_, ?_⟩⟩
      · simp [hh_ne, hh_ne', rowD, rw2, pr, List.map_set]
      · rw [hset] at hj; by_cases hji : j = i
        · subst hji; simp [hh_ne, hh_ne', hnd, hd]
        · have hij : ¬ i = j := fun e => hji e.symm
          simp [hh_ne, hh_ne', hH j hj, hnd, hji, hij, List.getElem_set_ne]
      · rw [hset] at hj; have hji : ¬ j = i := (by omega); simp [hh_ne, hh_ne', hU j hj, hji]
      · rw [hnew, addG, if_neg hn, hi1, List.map_set, ← hg]; rw [Int.toNat_natCast]; exact (modify_set (fun x : Att => (x.1, x.2 ++ l[k].2)) _ _ (nv rs[i]) (by rw [List.getElem?_map, List.getElem?_eq_getElem hir]; rfl)).symm
      · intro r hr; rcases List.mem_or_eq_of_mem_set hr with hr | hr
        · exact hlen r hr
        · rw [hr]; simp
  · have hkl : k = l.length := (by omega); rw [hkl, List.take_length] at hg; have hrk : rs.length ≤ l.length := by
      have := grp_len l; rw [← hg] at this; simpa using this
    have hmr : rs.map rowD = (rs.map pr).map rw2 := (by simp [rowD]); rw [hmr] at h3; have hf := deleteR_fn 100 [] rfl (fun x => decide (x.2.2.1 = 0)) (rs.map pr) (by simp; omega) (fun a _ => emptyQ_fn a); simp -implicitDefEqProofs [slotsG, h9, h10, h11, h3, hlt, att, strs]; simp only [rw2, List.map_map] at hf; refine callK hf ?_; obtain ⟨q0, hq0⟩ : ∃ q0 : List QRow, q0 = rs.zipIdx.filter fun q => !decide (q.1.2.1.2.1 = 0) := ⟨_, rfl⟩
    have e1 : ((rs.map pr).filter fun x => !decide (x.2.2.1 = 0)).map rw2 = q0.map q1 := by
      rw [hq0]; have : rs = rs.zipIdx.map (·.1) := by simp
      conv => lhs; rw [this]
      rw [List.map_map, List.filter_map, List.map_map]; rfl
    have e2 : q0.map (fun q => nv q.1) = (grp l).filter nonE := by
      rw [← hg, hq0]; have : rs = rs.zipIdx.map (·.1) := by simp
      conv => rhs; rw [this]
      rw [List.map_map, List.filter_map]; congr 1
      refine List.filter_congr (fun q hq => ?_); obtain ⟨hi, hr⟩ := zip_mem hq; have := hlen q.1 (hr ▸ gmm hi); simp [nonE, nv, this, List.length_eq_zero_iff]; exact decide_eq_decide.2 Iff.rfl
    have e3 : (q0.map (·.2)).Nodup := by
      rw [hq0]; have h1 : (rs.zipIdx.map (·.2)).Nodup := by rw [List.zipIdx_map_snd]; exact List.nodup_range'
      exact h1.sublist (List.filter_sublist.map _)
    have e4 : ∀ q ∈ q0, τ (1000000 + q.2) = hnd q.1 := by
      intro q hq; rw [hq0] at hq; obtain ⟨hi, hr⟩ := zip_mem (List.mem_filter.1 hq).1; rw [hH _ hi, hr]
    have e5 : q0.length ≤ rs.length := by rw [hq0]; exact Nat.le_trans (List.length_filter_le _ _) (by simp)
    rw [e1]; simp -implicitDefEqProofs [slotsG, h9, h10, h11, h3, hlt, att, strs]; have e6 : ∀ a ∈ q0.map (fun q => nv q.1), a.2.length < 500000 := by
      intro a ha; rw [e2] at ha; have := total_mem (List.mem_filter.1 ha).1; rw [total_grp] at this; omega
    generalize hn0 : q0.map (fun q => nv q.1) = n0 at *; have hn0l : n0.length = q0.length := by rw [← hn0]; simp
    refine loopN q0.length (fun k τ => τ 46 = .d (.int .i64 q0.length) ∧ τ 47 = .d (.int .i64 k) ∧ ∃ qs : List QRow, τ 3 = .own true 112 (qs.map q1) ∧ Named qs τ ∧ qs.map (fun q => nv q.1) = (n0.take k).map normA ++ n0.drop k) ?_ ?_
    · refine ⟨by simp, by simp, q0, by simp, ⟨e3, fun q hq => ?_⟩, by simp [hn0]⟩; simp [hh_ne, hh_ne', e4 q hq, hnd]
    clear h9 h10 h11 h3 hH hU hk hlt hf e4 τ hkl; rintro j τ hj ⟨h46, h47, qs, h3, ⟨hnd1, hnd2⟩, hqs⟩; have hql : qs.length = q0.length := by
      have := congrArg List.length hqs; simp at this; omega
    by_cases hlt : j < q0.length
    · have hjq : j < qs.length := (by omega); have hjn : j < n0.length := (by omega); have hvj : nv qs[j].1 = n0[j] := by
        have h1 : (qs.map (fun q => nv q.1))[j]? = some (nv qs[j].1) := by simp [hjq]
        rw [hqs, List.getElem?_append_right (by simp; omega)] at h1; simp [Nat.min_eq_left (Nat.le_of_lt hjn), hjn] at h1; exact h1.symm
      have hvl : qs[j].1.2.2.length < 500000 := by
        have := e6 n0[j] (gmm hjn); rw [← hvj] at this; exact this
      have hnm := hnd2 qs[j] (gmm hjq); simp -implicitDefEqProofs [slotsG, h46, h47, h3, hlt, hjq, q1, rowD, rw2, pr]; refine inKr (1000000 + qs[j].2) (e := 9) (l := qs[j].1.2.2.map .str) (by simp [hh_ne, hh_ne', hnm, hnd, hd]) (sort_fn qs[j].1.2.2 (by omega)) ?_; simp -implicitDefEqProofs [slotsG, h46, h47, h3, hlt, hjq, q1, rowD, rw2, pr, hh_ne, hh_ne']; have hsl : (sortS qs[j].1.2.2).length = qs[j].1.2.2.length := (by simp [sortS]); refine nameK (1000000 + qs[j].2) (e := 9) (l := (sortS qs[j].1.2.2).map .str) (by simp [hh_ne, hh_ne']) (compact_fn (sortS qs[j].1.2.2) (by omega)) (fun A c => ?_); simp -implicitDefEqProofs [slotsG, h46, h47, h3, hlt, hjq, q1, rowD, rw2, pr, hh_ne, hh_ne']; refine ⟨by omega, again hlt ⟨by simp [h46, hh_ne, hh_ne'], by simp [hh_ne, hh_ne'], qs.set j ((qs[j].1.1, (A, (Go.Lib.compact (sortS qs[j].1.2.2)).length, c), Go.Lib.compact (sortS qs[j].1.2.2)), qs[j].2), ?_, ⟨?_, fun q hq => ?_⟩, ?_⟩⟩
      · simp [hh_ne, hh_ne', q1, rowD, rw2, pr, List.map_set]
      · rw [List.map_set]; have := List.set_getElem_self (i := j) (show j < (qs.map (·.2)).length by simpa using hjq); rw [List.getElem_map] at this; rw [this]; exact hnd1
      · obtain ⟨i, hi, rfl⟩ := List.mem_iff_getElem.1 hq; have hi' : i < qs.length := (by simpa using hi); by_cases hij : j = i
        · subst hij; simp [hh_ne, hh_ne', hnd, hd]
        · rw [List.getElem_set_ne hij]; have hne : ¬ qs[i].2 = qs[j].2 := fun e => by
            have h1 := List.pairwise_iff_getElem.1 hnd1; rcases Nat.lt_or_gt_of_ne hij with h2 | h2
            · exact h1 j i (by simpa using hjq) (by simpa using hi') h2 (by simpa using e.symm)
            · exact h1 i j (by simpa using hi') (by simpa using hjq) h2 (by simpa using e)
          simp [hh_ne, hh_ne', hnd2 qs[i] (gmm hi'), hne, hnd]
      · have hnn : nv ((qs[j].1.1, (A, (Go.Lib.compact (sortS qs[j].1.2.2)).length, c), Go.Lib.compact (sortS qs[j].1.2.2)) : Row) = normA n0[j] := by
          rw [← hvj]; rfl
        have hl1 : ((n0.take j).map normA).length = j := by simp; omega
        rw [List.map_set, hqs, List.set_append_right _ _ (by omega), hl1, Nat.sub_self, List.drop_eq_getElem_cons hjn, List.set_cons_zero, hnn, ← List.map_take, take_s hjn]; simp only [List.map_append, List.map_cons, List.map_nil, List.append_assoc, List.singleton_append]
    · simp -implicitDefEqProofs [slotsG, h46, h47, h3, hlt]; have hjl : j = n0.length := (by omega); subst hjl; rw [List.take_length, List.drop_length, List.append_nil] at hqs; have hmq : qs.map q1 = (qs.map fun q => pr q.1).map rw2 := by rw [List.map_map]; rfl
      rw [hmq]; refine inKb (sortR_fn (qs.map fun q => pr q.1) (by simp; omega)) ?_; obtain ⟨p1, p2⟩ := sortR_perm (qs.map fun q => pr q.1)
      replace p2 : ByName (sortR (qs.map fun q => pr q.1)) := p2
      generalize sortR (qs.map fun q => pr q.1) = ms at p1 p2 ⊢; obtain ⟨qs', p3, rfl⟩ := perm_lift (fun q : QRow => pr q.1) p1 qs rfl; have hlen' : qs'.length = qs.length := p3.length_eq; have hT : ∀ (qs : List QRow) (τ' : St), (∀ q ∈ qs, τ' (1000000 + q.2) = hnd q.1) → (qs.map fun q => 1000000 + q.2).map τ' = (qs.map (·.1)).map hnd := by
        intro qs τ' h; rw [List.map_map, List.map_map]; exact List.map_congr_left h
      have hrow : (qs'.map fun q => pr q.1).map rw2 = qs'.map q1 := by rw [List.map_map]; rfl
      simp -implicitDefEqProofs [slotsG, h46, h47, h3, hlt]; have hK : ∀ q ∈ qs', τ (1000000 + q.2) = hnd q.1 := fun q hq => hnd2 q (p3.mem_iff.1 hq)
      refine ⟨.own true 112 (qs'.map q1), qs'.map (fun q => 1000000 + q.2), ?_, fun k hk => ?_, ?_, qs'.map (·.1), ?_, ?_, ?_, ?_⟩
      · have h1 : (qs'.map (·.2)).Nodup := (p3.map _).nodup_iff.2 hnd1; have h2 := List.Pairwise.map (R := fun a b : Nat => a ≠ b) (S := fun a b : Nat => a ≠ b) (fun x => 1000000 + x) (fun a b h => by omega) h1; rw [List.map_map] at h2; exact h2
      · obtain ⟨q, hq, rfl⟩ := List.mem_map.1 hk; simp [hh_ne, hh_ne', hK q hq, hnd, isH]
      · simp [ResG, q1, rowD]
      · simp [q1]
      · rw [List.map_map, List.map_map]; refine List.map_congr_left fun q hq => ?_
        simp [hh_ne, hh_ne', hK q hq, hnd]
      · rw [List.map_map]; have h1 := p3.map (fun q : QRow => nv q.1); rw [hqs, e2] at h1; exact h1
      · intro i j hij hj; have := p2 i j hij (by simpa using hj); simpa [pr] using this
end Go.Proofs.Tz
namespace Go.Proofs.Tz
open Go.Vw Go.Lib
def SS (l : List Str) : Prop := l.Pairwise (· < ·)
theorem SS.nodup {l : List Str} (h : SS l) : l.Nodup := List.Pairwise.imp (R := fun a b : Str => a < b) (S := fun a b : Str => a ≠ b) (fun hab e => by subst e; exact s_irr _ hab) h
theorem SS_ext {a b : List Str} (ha : SS a) (hb : SS b) (h : ∀ x, x ∈ a ↔ x ∈ b) : a = b := by
  have hp : a.Perm b := (List.perm_ext_iff_of_nodup ha.nodup hb.nodup).2 h; exact hp.eq_of_pairwise (fun x y _ _ h1 h2 => absurd (s_trans h1 h2) (s_irr x)) ha hb
def insR (s : Str) : List Str → List Str
  | [] => [s]
  | x :: l => if x < s then x :: insR s l else if x = s then x :: l else s :: x :: l
theorem ins_rest (s : Str) : ∀ (l out : List Str), (∀ x ∈ l, s < x) → l.foldl (insS s) (true, out) = (true, out ++ l)
  | [], out, _ => by simp
  | x :: l, out, h => by
    have hx := h x (by simp); have hne : ¬ x = s := fun e => s_irr s (e ▸ hx)
    have : insS s (true, out) x = (true, out ++ [x]) := (by simp [insS, hne]); rw [List.foldl_cons, this, ins_rest s l _ (fun y hy => h y (by simp [hy]))]; simp
theorem ins_go (s : Str) : ∀ (l out : List Str), SS l → (l.foldl (insS s) (false, out)).2 ++ (if (l.foldl (insS s) (false, out)).1 then [] else [s]) = out ++ insR s l
  | [], out, _ => by simp [insR]
  | x :: l, out, h => by
    have hp := List.pairwise_cons.1 h; rw [List.foldl_cons, insR]; by_cases hx : x < s
    · have hne : ¬ x = s := fun e => s_irr s (e ▸ hx)
      have : insS s (false, out) x = (false, out ++ [x]) := (by simp [insS, bl_t.2 hx, hne]); rw [this, ins_go s l _ hp.2, if_pos hx]; simp
    · rw [if_neg hx]; by_cases he : x = s
      · subst he; have : insS x (false, out) x = (true, out ++ [x]) := (by simp [insS, bl_f.2 hx]); rw [this, ins_rest x l _ hp.1, if_pos rfl]; simp
      · have hs : s < x := Classical.byContradiction fun h2 => he (s_tri hx h2)
        have : insS s (false, out) x = (true, out ++ [s] ++ [x]) := (by simp [insS, bl_f.2 hx, he]); rw [this, ins_rest s l _ (fun y hy => s_trans hs (hp.1 y hy)), if_neg he]; simp
theorem ins_eq {l : List Str} (h : SS l) (s : Str) : ins l s = insR s l := by
  have := ins_go s l [] h; rw [List.nil_append] at this; exact this
theorem insR_mem (s : Str) : ∀ (l : List Str) (x : Str), x ∈ insR s l ↔ x = s ∨ x ∈ l
  | [], x => by simp [insR]
  | y :: l, x => by
    rw [insR]; split
    · simp only [List.mem_cons, insR_mem s l x]; constructor
      · rintro (h | h | h) <;> simp [h]
      · rintro (h | h | h) <;> simp [h]
    · split
      · rename_i h; subst h; simp
      · simp
theorem insR_SS (s : Str) : ∀ (l : List Str), SS l → SS (insR s l)
  | [], _ => by simp [insR, SS]
  | y :: l, h => by
    have hp := List.pairwise_cons.1 h; rw [insR]; split
    · rename_i hy
      refine List.pairwise_cons.2 ⟨fun z hz => ?_, insR_SS s l hp.2⟩; rcases (insR_mem s l z).1 hz with rfl | hz
      · exact hy
      · exact hp.1 z hz
    · rename_i hy
      split
      · exact h
      · rename_i he
        have hs : s < y := Classical.byContradiction fun h2 => he (s_tri hy h2)
        refine List.pairwise_cons.2 ⟨fun z hz => ?_, h⟩; rcases List.mem_cons.1 hz with rfl | hz
        · exact hs
        · exact s_trans hs (hp.1 z hz)
theorem ins_mem {l : List Str} (h : SS l) (s x : Str) : x ∈ ins l s ↔ x = s ∨ x ∈ l := by rw [ins_eq h]; exact insR_mem s l x
theorem ins_SS {l : List Str} (h : SS l) (s : Str) : SS (ins l s) := by rw [ins_eq h]; exact insR_SS s l h
theorem insAll_spec : ∀ (vs l : List Str), SS l → SS (vs.foldl ins l) ∧ ∀ x, x ∈ vs.foldl ins l ↔ x ∈ l ∨ x ∈ vs
  | [], l, h => ⟨h, fun x => by simp⟩
  | v :: vs, l, h => by
    have := insAll_spec vs (ins l v) (ins_SS h v); refine ⟨this.1, fun x => ?_⟩; rw [List.foldl_cons, this.2, ins_mem h]; simp only [List.mem_cons]; constructor
    · rintro ((h | h) | h) <;> simp [h]
    · rintro (h | h | h) <;> simp [h]
theorem namesF_spec : ∀ (l : List Att) (ns : List Str), SS ns → SS (l.foldl namesS ns) ∧ ∀ x, x ∈ l.foldl namesS ns ↔ x ∈ ns ∨ ∃ a ∈ l, a.2 ≠ [] ∧ lower a.1 = x
  | [], ns, h => ⟨h, fun x => by simp⟩
  | a :: l, ns, h => by
    rw [List.foldl_cons]; by_cases ha : a.2 = []
    · rw [namesS, if_pos ha]; have := namesF_spec l ns h; refine ⟨this.1, fun x => ?_⟩; rw [this.2]; simp [ha]
    · rw [namesS, if_neg ha]; have := namesF_spec l (ins ns (lower a.1)) (ins_SS h _); refine ⟨this.1, fun x => ?_⟩; rw [this.2, ins_mem h]; simp only [List.mem_cons, exists_eq_or_imp, ne_eq, ha, not_false_eq_true, true_and]; constructor
      · rintro ((h | h) | h)
        · exact .inr (.inl h.symm)
        · exact .inl h
        · exact .inr (.inr h)
      · rintro (h | h | h)
        · exact .inl (.inr h)
        · exact .inl (.inl h.symm)
        · exact .inr h
theorem valsF_spec (n : Str) : ∀ (l : List Att) (vs : List Str), SS vs → SS (l.foldl (valsS n) vs) ∧ ∀ x, x ∈ l.foldl (valsS n) vs ↔ x ∈ vs ∨ ∃ a ∈ l, lower a.1 = n ∧ x ∈ a.2
  | [], vs, h => ⟨h, fun x => by simp⟩
  | a :: l, vs, h => by
    rw [List.foldl_cons]; by_cases ha : lower a.1 = n
    · rw [valsS, if_pos ha]; have h1 := insAll_spec a.2 vs h; have := valsF_spec n l _ h1.1; refine ⟨this.1, fun x => ?_⟩; rw [this.2, h1.2]; simp only [List.mem_cons, exists_eq_or_imp, ha, true_and]; constructor
      · rintro ((h | h) | h) <;> simp [h]
      · rintro (h | h | h) <;> simp [h]
    · rw [valsS, if_neg ha]; have := valsF_spec n l vs h; refine ⟨this.1, fun x => ?_⟩; rw [this.2]; simp [ha]
theorem sortS_asc (l : List Str) : (sortS l).Pairwise fun x y => ¬ y < x := by
  have h := List.pairwise_mergeSort (le := fun x y : Str => decide (x ≤ y)) (fun a b c h1 h2 => by
    simp only [decide_eq_true_eq] at *; exact List.le_trans h1 h2) (fun a b => by
    simp only [Bool.or_eq_true, decide_eq_true_eq]; exact List.le_total a b) l
  exact h.imp fun h => by simpa using h
theorem sortS_mem (l : List Str) (x : Str) : x ∈ sortS l ↔ x ∈ l := by simp [sortS]
theorem compact_spec (zs : List Str) (h : zs.Pairwise fun x y => ¬ y < x) : ∀ m, m ≤ zs.length → SS (compactUpTo zs.toArray m) ∧ ∀ x, x ∈ compactUpTo zs.toArray m ↔ x ∈ zs.take m
  | 0, _ => by simp [compactUpTo, SS]
  | m + 1, hm => by
    obtain ⟨h1, h2⟩ := compact_spec zs h m (by omega); have hlt : m < zs.length := (by omega); have hg : zs.toArray[m]! = zs[m] := by rw [getElem!_pos _ m (by simpa using hlt)]; simp
    have asc : ∀ i (hi : i < m), ¬ zs[m] < zs[i]'(by omega) := fun i hi => List.pairwise_iff_getElem.1 h i m (by omega) hlt hi
    rw [compactUpTo_succ, hg, take_s hlt]; by_cases hk : keeps zs.toArray m = true
    · rw [if_pos hk]; refine ⟨List.pairwise_append.2 ⟨h1, by simp, fun x hx y hy => ?_⟩, fun x => by rw [List.mem_append, List.mem_append, h2 x]⟩; rw [List.mem_singleton.1 hy]; obtain ⟨i, hi, rfl⟩ := List.mem_iff_getElem.1 ((h2 x).1 hx); have him : i < m := by simp at hi; omega
      simp only [List.getElem_take]; have hm0 : m ≠ 0 := (by omega); have hg1 : zs.toArray[m - 1]! = zs[m - 1] := by rw [getElem!_pos _ (m - 1) (by simp; omega)]; simp
      have hne : zs[m] ≠ zs[m - 1] := (by simpa [keeps, hm0, hg, hg1] using hk); have hlt2 : zs[m - 1] < zs[m] := Classical.byContradiction fun hc => hne (s_tri (asc (m - 1) (by omega)) hc)
      by_cases hc : zs[i] < zs[m - 1]
      · exact s_trans hc hlt2
      · by_cases hie : i = m - 1
        · subst hie; exact hlt2
        · have := List.pairwise_iff_getElem.1 h i (m - 1) (by omega) (by omega) (by omega); rw [s_tri hc this]; exact hlt2
    · rw [if_neg hk, List.append_nil]; refine ⟨h1, fun x => ?_⟩; rw [h2 x]; have hk' : keeps zs.toArray m = false := (by simpa using hk); have hm0 : m ≠ 0 := fun e => by subst e; simp [keeps] at hk'
      have hg1 : zs.toArray[m - 1]! = zs[m - 1] := by rw [getElem!_pos _ (m - 1) (by simp; omega)]; simp
      have he : zs[m] = zs[m - 1] := (by simpa [keeps, hm0, hg, hg1] using hk'); have hin : zs[m] ∈ zs.take m := by
        rw [he]; exact List.mem_iff_getElem.2 ⟨m - 1, by simp; omega, by simp⟩
      simp only [List.mem_append, List.mem_singleton]; constructor
      · intro hx; exact .inl hx
      · rintro (hx | rfl)
        · exact hx
        · exact hin
theorem normV (vs : List Str) : SS (compact (sortS vs)) ∧ ∀ x, x ∈ compact (sortS vs) ↔ x ∈ vs := by
  have h := compact_spec (sortS vs) (sortS_asc vs) (sortS vs).length (Nat.le_refl _); refine ⟨h.1, fun x => ?_⟩; rw [← sortS_mem vs x]; have := h.2 x; rw [List.take_length] at this; exact this
theorem idxR_at {α : Type} (p : α → Bool) : ∀ (l : List α) (k : Nat), idxR p k l ≠ -1 → ∃ i : Nat, idxR p k l = ((k + i : Nat) : Int) ∧ ∃ h : i < l.length, p l[i] = true
  | [], k, h => absurd rfl h
  | x :: l, k, h => by
    rw [idxR] at h ⊢; by_cases hx : p x = true
    · rw [if_pos hx]; exact ⟨0, by simp, by simp, hx⟩
    · rw [if_neg hx] at h ⊢; obtain ⟨i, h1, h2, h3⟩ := idxR_at p l (k + 1) h; exact ⟨i + 1, by rw [h1]; omega, by simpa using h2, by simpa using h3⟩
def Has (l : List Att) (n v : Str) : Prop := ∃ x ∈ l, x.1 = n ∧ v ∈ x.2
theorem addG_spec (acc : List Att) (a : Att) (hn : (acc.map (·.1)).Nodup) : ((addG acc a).map (·.1)).Nodup ∧ ∀ n v, Has (addG acc a) n v ↔ Has acc n v ∨ (lower a.1 = n ∧ v ∈ a.2) := by
  unfold addG; split
  · rename_i h
    have hf := idxR_neg _ acc 0 h; have hno : ∀ x ∈ acc, ¬ x.1 = lower a.1 := fun x hx => by
      have := List.filter_eq_self.1 hf x hx; simpa using this
    refine ⟨?_, fun n v => ?_⟩
    · rw [List.map_append, List.nodup_append]; refine ⟨hn, by simp, ?_⟩; intro x hx y hy e; simp at hy; obtain ⟨z, hz, rfl⟩ := List.mem_map.1 hx; exact hno z hz (e.trans hy)
    · simp only [Has, List.mem_append, List.mem_singleton]; constructor
      · rintro ⟨x, hx | rfl, h1, h2⟩
        · exact .inl ⟨x, hx, h1, h2⟩
        · exact .inr ⟨h1, h2⟩
      · rintro (⟨x, hx, h1, h2⟩ | ⟨h1, h2⟩)
        · exact ⟨x, .inl hx, h1, h2⟩
        · exact ⟨_, .inr rfl, h1, h2⟩
  · rename_i h
    obtain ⟨i, h1, hi, h3⟩ := idxR_at _ acc 0 h; simp only [Nat.zero_add] at h1; simp only [decide_eq_true_eq] at h3; rw [h1, Int.toNat_natCast, modify_set (fun x : Att => (x.1, x.2 ++ a.2)) acc i acc[i] (List.getElem?_eq_getElem hi)]; refine ⟨?_, fun n v => ?_⟩
    · rw [List.map_set]; have := List.set_getElem_self (i := i) (show i < (acc.map (·.1)).length by simpa using hi); rw [List.getElem_map] at this; rw [this]; exact hn
    · simp only [Has]; constructor
      · rintro ⟨x, hx, e1, e2⟩; obtain ⟨j, hj, rfl⟩ := List.mem_iff_getElem.1 hx; have hj' : j < acc.length := (by simpa using hj); by_cases hij : i = j
        · subst hij; rw [List.getElem_set_self] at e1 e2; simp only [List.mem_append] at e1 e2; rcases e2 with e2 | e2
          · exact .inl ⟨_, gmm hi, e1, e2⟩
          · exact .inr ⟨h3.symm.trans e1, e2⟩
        · rw [List.getElem_set_ne hij] at e1 e2; exact .inl ⟨_, gmm hj', e1, e2⟩
      · rintro (⟨x, hx, e1, e2⟩ | ⟨e1, e2⟩)
        · obtain ⟨j, hj, rfl⟩ := List.mem_iff_getElem.1 hx; by_cases hij : i = j
          · subst hij; refine ⟨_, List.mem_iff_getElem.2 ⟨i, by simpa using hi, List.getElem_set_self _⟩, e1, by simp [e2]⟩
          · exact ⟨_, List.mem_iff_getElem.2 ⟨j, by simpa using hj, List.getElem_set_ne hij _⟩, e1, e2⟩
        · exact ⟨_, List.mem_iff_getElem.2 ⟨i, by simpa using hi, List.getElem_set_self _⟩, h3.trans e1, by simp [e2]⟩
theorem grp_spec (l : List Att) : ((grp l).map (·.1)).Nodup ∧ ∀ n v, Has (grp l) n v ↔ ∃ a ∈ l, lower a.1 = n ∧ v ∈ a.2 := by
  have key : ∀ (l acc : List Att), (acc.map (·.1)).Nodup → ((l.foldl addG acc).map (·.1)).Nodup ∧ ∀ n v, Has (l.foldl addG acc) n v ↔ Has acc n v ∨ ∃ a ∈ l, lower a.1 = n ∧ v ∈ a.2 := by
    intro l
    induction l with
    | nil => intro acc h; exact ⟨h, fun n v => by simp⟩
    | cons a l ih =>
      intro acc h; have h1 := addG_spec acc a h; have h2 := ih _ h1.1; refine ⟨h2.1, fun n v => ?_⟩; rw [List.foldl_cons, h2.2, h1.2]; simp only [List.mem_cons, exists_eq_or_imp, or_assoc]
  have := key l [] (by simp); exact ⟨this.1, fun n v => by rw [show grp l = l.foldl addG [] from rfl, this.2]; simp [Has]⟩
theorem normal_eq (l out : List Att) (hp : out.Perm (((grp l).filter nonE).map normA)) (hs : ∀ i j (_ : i < j) (hj : j < out.length), Op.bytesLess out[j].1 (out[i]'(by omega)).1 = false) : out = sortedL l := by
  obtain ⟨g1, g2⟩ := grp_spec l; have hnames : (out.map (·.1)).Perm (((grp l).filter nonE).map (·.1)) := by
    have := hp.map (·.1); rw [List.map_map] at this; exact this
  have hnd : (out.map (·.1)).Nodup := hnames.nodup_iff.2 (g1.sublist (List.filter_sublist.map _)); have hSS : SS (out.map (·.1)) := by
    refine List.pairwise_iff_getElem.2 fun i j hi hj hij => ?_
    have hj' : j < out.length := (by simpa using hj); have h1 := hs i j hij hj'; rw [bl_f] at h1; simp only [List.getElem_map]; refine Classical.byContradiction fun hc => ?_
    have he := s_tri hc h1; exact List.pairwise_iff_getElem.1 hnd i j hi hj hij (by simpa using he)
  have hN := namesF_spec l [] (by simp [SS]); have e1 : out.map (·.1) = namesF l := by
    refine SS_ext hSS hN.1 fun n => ?_
    rw [hnames.mem_iff, show namesF l = l.foldl namesS [] from rfl, hN.2]; simp only [List.mem_map, List.mem_filter, List.not_mem_nil, false_or]; constructor
    · rintro ⟨x, ⟨hx, hne⟩, rfl⟩; have hne' : x.2 ≠ [] := (by simpa [nonE] using hne); obtain ⟨v, hv⟩ := List.exists_mem_of_ne_nil _ hne'; obtain ⟨a, ha, e, hav⟩ := (g2 x.1 v).1 ⟨x, hx, rfl, hv⟩; exact ⟨a, ha, List.ne_nil_of_mem hav, e⟩
    · rintro ⟨a, ha, hne, e⟩; obtain ⟨v, hv⟩ := List.exists_mem_of_ne_nil _ hne; obtain ⟨x, hx, e2, hxv⟩ := (g2 n v).2 ⟨a, ha, e, hv⟩; exact ⟨x, ⟨hx, by simp [nonE]; exact List.ne_nil_of_mem hxv⟩, e2⟩
  have e2 : ∀ x ∈ out, x.2 = valsF l x.1 := by
    intro x hx; obtain ⟨y, hy, rfl⟩ := List.mem_map.1 (hp.mem_iff.1 hx); have hyg := (List.mem_filter.1 hy).1; have hv := normV y.2; have hV := valsF_spec y.1 l [] (by simp [SS]); refine SS_ext hv.1 hV.1 fun v => ?_
    rw [show valsF l (normA y).1 = l.foldl (valsS y.1) [] from rfl, hV.2]; refine (hv.2 v).trans ?_; simp only [List.not_mem_nil, false_or]; rw [← g2 y.1 v]; constructor
    · intro h; exact ⟨y, hyg, rfl, h⟩
    · rintro ⟨z, hz, e, h⟩; obtain ⟨i, hi, rfl⟩ := List.mem_iff_getElem.1 hz; obtain ⟨j, hj, rfl⟩ := List.mem_iff_getElem.1 hyg; have hij : i = j := by
        have h1 := List.pairwise_iff_getElem.1 g1; rcases Nat.lt_trichotomy i j with h2 | h2 | h2
        · have h3 := h1 i j (by simpa using hi) (by simpa using hj) h2; simp only [List.getElem_map] at h3; exact absurd e h3
        · exact h2
        · have h3 := h1 j i (by simpa using hj) (by simpa using hi) h2; simp only [List.getElem_map] at h3; exact absurd e.symm h3
      subst hij; exact h
  have e3 : out = out.map fun x => (x.1, valsF l x.1) := by
    conv => lhs; rw [← List.map_id' out]
    refine List.map_congr_left fun x hx => ?_
    rw [← e2 x hx]
  rw [e3, sortedL, ← e1, List.map_map]; rfl
end Go.Proofs.Tz
namespace Go.Proofs.Tz
open Go.Vw
set_option maxRecDepth 100000
theorem fz_rows (H : List AV) : ∀ rs : List Row, (∀ r ∈ rs, hnd r ∈ H) → FzL H (rs.map rowD) ((rs.map nv).map att)
  | [], _ => .nil
  | r :: rs, h => .cons (.agg (.cons (.same _) (.cons (.sl (h r (by simp))) .nil))) (fz_rows H rs fun x hx => h x (by simp [hx]))
theorem sorted_fn (l : List Att) (hl : Fit2 l) : Ctr prog 74 [.d (atts l)] (.own true 112 ((sortedL l).map att)) := by
  refine (sortedG_fn l hl).frozen (by simp) ?_; rintro r hs ⟨rs, rfl, rfl, hp, ha⟩; refine ⟨_, rfl, ?_⟩; have := normal_eq l (rs.map nv) hp (fun i j hij hj => by
    have := ha i j hij (by simpa using hj); simpa [nv] using this)
  rw [← this]; exact fz_rows _ rs fun r hr => List.mem_map.2 ⟨r, hr, rfl⟩
theorem equalQ_fn (x y : Att) (hx : x.2.length < 1000000) (hy : y.2.length < 1000000) : Ctr prog 75 [.d (att x), .d (att y)] (.d (.bool (decide (x = y)))) := by
  refine fv (fun _ => false) func75 (by kernel_rfl) rfl rfl rfl rfl rfl ?_; obtain ⟨x1, x2⟩ := x; obtain ⟨y1, y2⟩ := y; by_cases h : x1 = y1
  · simp -implicitDefEqProofs [att, strs, h]; refine callK (eqS_fn x2 y2 hx hy) ?_; simp -implicitDefEqProofs [att, strs, h]
  · simp -implicitDefEqProofs [att, strs, h]
theorem eqFunc_fn (a b : List Att) (ha : Fits a) (hb : Fits b) : Ctr prog 73 [.d (atts a), .d (atts b), .d (.clo 75 [])] (.d (.bool (decide (a = b)))) := by
  refine fv (fun _ => false) func73 (by kernel_rfl) rfl rfl rfl rfl rfl ?_; have ha1 := ha.1; have hb1 := hb.1; by_cases hlm : a.length = b.length
  · simp -implicitDefEqProofs [atts, hlm]; refine loopN b.length (fun k τ => τ 1 = .d (atts b) ∧ τ 2 = .d (.clo 75 []) ∧ τ 15 = .d (atts a) ∧ τ 16 = .d (.int .i64 b.length) ∧ τ 17 = .d (.int .i64 k) ∧ a.take k = b.take k) (by simp [atts]) ?_; rintro k τ hk ⟨h1, h2, h15, h16, h17, ht⟩; by_cases hlt : k < b.length
    · have hlt' : k < a.length := (by omega); simp -implicitDefEqProofs [h1, h2, h15, h16, h17, hlt, hlt', atts, att, strs]; have hf := equalQ_fn a[k] b[k] (ha.2 _ (gmm hlt')).2 (hb.2 _ (gmm hlt)).2; simp only [att, strs] at hf; refine callK hf ?_; by_cases he : a[k] = b[k]
      · simp -implicitDefEqProofs [h1, h2, h15, h16, h17, hlt, hlt', atts, att, strs, he]; refine ⟨by omega, again hlt ⟨by simp [h1, atts, att, strs], by simp [h2], by simp [h15, atts, att, strs], by simp [h16], by simp, ?_⟩⟩; rw [take_s hlt, take_s hlt', ht, he]
      · simp -implicitDefEqProofs [h1, h2, h15, h16, h17, hlt, hlt', atts, att, strs, he]; rintro rfl; exact he rfl
    · simp -implicitDefEqProofs [h1, h2, h15, h16, h17, hlt, hlm]; rw [ttl (by omega), ttl (by omega)] at ht
      first | exact ⟨by omega, ht⟩ | exact ht
  · have hlm' : ¬ (a.length : Int) = b.length := (by omega); simp -implicitDefEqProofs [atts, hlm']; rintro rfl; exact hlm rfl
theorem equal_fn (a b : List Att) (ha : Fit2 a) (hb : Fit2 b) (ha' : Fits (sortedL a)) (hb' : Fits (sortedL b)) : Ctr prog 42 [.d (atts a), .d (atts b)] (.d (.bool (decide (sortedL a = sortedL b)))) := by
  refine fv (fun _ => false) func42 (by kernel_rfl) rfl rfl rfl rfl rfl ?_; simp -implicitDefEqProofs; refine callK (sorted_fn a ha) ?_; simp -implicitDefEqProofs; refine callK (sorted_fn b hb) ?_; simp -implicitDefEqProofs; refine callK (eqFunc_fn _ _ ha' hb') ?_; simp -implicitDefEqProofs
theorem equalR_fn (a b : List Att) (ha : Fit2 a) (hb : Fit2 b) (ha' : Fits (sortedL a)) (hb' : Fits (sortedL b)) : Ctr prog 52 [.d (atts a), .d (atts b)] (.d (.bool (decide (sortedL a = sortedL b)))) := by
  refine fv (fun _ => false) func52 (by kernel_rfl) rfl rfl rfl rfl rfl ?_; simp -implicitDefEqProofs; refine callK (sortedR_fn a ha) ?_; simp -implicitDefEqProofs; refine callK (sortedR_fn b hb) ?_; simp -implicitDefEqProofs; refine callK (sameA_fn _ _ ha' hb') ?_; simp -implicitDefEqProofs
theorem idxG_neg {α : Type} (p : α → Bool) : ∀ (l : List α) (k : Nat), idxG p k l = -1 → l.filter (fun x => !p x) = l
  | [], k, _ => rfl
  | x :: l, k, h => by
    rw [idxG] at h; by_cases hx : p x = true
    · rw [if_pos hx] at h; omega
    · rw [if_neg hx] at h; simp -implicitDefEqProofs [hx, idxG_neg p l (k + 1) h]
theorem idxG_pos {α : Type} (p : α → Bool) : ∀ (l : List α) (k : Nat), idxG p k l ≠ -1 → ∃ i : Nat, idxG p k l = ((k + i : Nat) : Int) ∧ i < l.length ∧ (l.take i).filter (fun x => !p x) = l.take i ∧ (l.take (i + 1)).filter (fun x => !p x) = l.take i
  | [], k, h => absurd rfl h
  | x :: l, k, h => by
    rw [idxG] at h ⊢; by_cases hx : p x = true
    · rw [if_pos hx]; exact ⟨0, by simp, by simp, by simp, by simp [hx]⟩
    · rw [if_neg hx] at h ⊢; obtain ⟨i, h1, h2, h3, h4⟩ := idxG_pos p l (k + 1) h; refine ⟨i + 1, by rw [h1]; omega, by simpa using h2, ?_, ?_⟩
      · simp -implicitDefEqProofs [hx, h3]
      · rw [List.take_succ_cons, List.filter_cons, if_pos (by simp [hx]), h4, List.take_succ_cons]
def setL (l : List Att) (name : Str) (v : List Str) : List Att := sortedL ((l.filter fun x => !decide (x.1 = lower name)) ++ [(lower name, v)])
def limL (l : List Att) (name : Str) : List Att × Int := if 32 < l.length ∨ 16 < (getL l name).length then ([], 3) else (l, 0)
theorem clone_fn (v : List Str) (hv : v.length < 1000000) : Ctr prog 71 [.d (strs v)] (.own true 9 (v.map .str)) := by
  refine fv (fun i => i == 2 || i == 5) func71 (by kernel_rfl) rfl rfl rfl rfl rfl ?_; by_cases h : v = []
  · subst h; simp -implicitDefEqProofs [strs]
  · simp -implicitDefEqProofs [strs, h]
    all_goals omega
def addP (l : List Att) (name : Str) (v : List Str) : List Att × Int :=
  if nameB name = false then ([], 5) else if v = [] then ([], 6) else if chkV (getL l name) [] v ≠ 0 then ([], chkV (getL l name) [] v) else limL (setL (sortedL l) name (getL l name ++ v)) name
def ReachS (l : List Str) : Prop := ∀ v ∈ l, List.length v ≤ 140737488351232
theorem ReachS.take {l : List Str} (h : ReachS l) (k : Nat) : ReachS (l.take k) := fun v hv => h v (List.mem_of_mem_take hv)
end Go.Proofs.Tz
namespace Go.Proofs.Tz
open Go.Vw Go.Lib
theorem sorted_perm (l : List Att) : (sortedL l).Perm (((grp l).filter nonE).map normA) := by
  have hp : ((((grp l).filter nonE).map normA).mergeSort fun a b => decide (a.1 ≤ b.1)).Perm (((grp l).filter nonE).map normA) := List.mergeSort_perm _ _; have hs := List.pairwise_mergeSort (le := fun a b : Att => decide (a.1 ≤ b.1)) (fun a b c h1 h2 => by
    simp only [decide_eq_true_eq] at *; exact List.le_trans h1 h2) (fun a b => by
    simp only [Bool.or_eq_true, decide_eq_true_eq]; exact List.le_total a.1 b.1) (((grp l).filter nonE).map normA)
  rw [← normal_eq l _ hp (fun i j hij hj => by
    have := List.pairwise_iff_getElem.1 hs i j (by omega) hj hij; rw [bl_f]; simpa using this)]
  exact hp
theorem compact_len (l : List Str) : (compact l).length ≤ l.length := by
  have key : ∀ m, (compactUpTo l.toArray m).length ≤ m := by
    intro m
    induction m with
    | zero => simp [compactUpTo]
    | succ m ih =>
      rw [compactUpTo_succ]; split <;> simp <;> omega
  exact key l.length
theorem total_perm {a b : List Att} (h : a.Perm b) : total a = total b := (h.map _).sum_nat
theorem total_norm (l : List Att) : total ((l.filter nonE).map normA) ≤ total l := by
  induction l with
  | nil => simp [total]
  | cons a l ih =>
    have hc := compact_len (sortS a.2); have hs : (sortS a.2).length = a.2.length := (by simp [sortS]); rw [List.filter_cons]; split
    · simp only [List.map_cons, total, List.sum_cons] at ih ⊢; simp only [normA]; omega
    · simp only [total, List.map_cons, List.sum_cons] at ih ⊢; omega
theorem total_sorted (l : List Att) : total (sortedL l) ≤ total l := by
  rw [total_perm (sorted_perm l), ← total_grp l]; exact total_norm _
theorem sorted_name {l : List Att} {x : Att} (h : x ∈ sortedL l) : ∃ a ∈ l, a.2 ≠ [] ∧ lower a.1 = x.1 := by
  obtain ⟨n, hn, rfl⟩ := List.mem_map.1 h; have hN := (namesF_spec l [] (by simp [SS])).2 n; rw [show l.foldl namesS [] = namesF l from rfl] at hN; rcases hN.1 hn with h | h
  · simp at h
  · exact h
theorem sorted_val {l : List Att} {x : Att} (h : x ∈ sortedL l) {v : Str} (hv : v ∈ x.2) : ∃ a ∈ l, lower a.1 = x.1 ∧ v ∈ a.2 := by
  obtain ⟨n, hn, rfl⟩ := List.mem_map.1 h; have hV := (valsF_spec n l [] (by simp [SS])).2 v; rw [show l.foldl (valsS n) [] = valsF l n from rfl] at hV; rcases hV.1 hv with h | h
  · simp at h
  · exact h
theorem sorted_fit2 {l : List Att} (hl : Fit2 l) : Fit2 (sortedL l) := by
  refine ⟨⟨Nat.lt_of_le_of_lt (sorted_len l) hl.1.1, fun x hx => ⟨?_, ?_⟩⟩, Nat.lt_of_le_of_lt (total_sorted l) hl.2⟩
  · obtain ⟨a, ha, _, e⟩ := sorted_name hx; rw [← e, lower_len]; exact (hl.1.2 a ha).1
  · have h1 := total_mem hx; have h2 := total_sorted l; have h3 := hl.2; omega
theorem sorted_fitV {l : List Att} (hl : FitV l) : FitV (sortedL l) := fun x hx v hv => by
  obtain ⟨a, ha, _, h⟩ := sorted_val hx hv; exact hl a ha v h
def HasL (l : List Att) (n v : Str) : Prop := ∃ a ∈ l, lower a.1 = n ∧ v ∈ a.2
structure NF (s : List Att) : Prop where
  names : SS (s.map (·.1))
  vals : ∀ x ∈ s, SS x.2
  ne : ∀ x ∈ s, x.2 ≠ []
theorem lowc_lowc (c : UInt8) : lowc (lowc c) = lowc c := by
  unfold lowc; by_cases h : 65 ≤ (c.toNat : Int) ∧ (c.toNat : Int) ≤ 90
  · rw [if_pos h, if_neg]; rw [UInt8.toNat_add]; have : (32 : UInt8).toNat = 32 := rfl; omega
  · rw [if_neg h, if_neg h]
theorem lower_lower (s : Str) : lower (lower s) = lower s := by simp [lower, lowc_lowc]
theorem nf_sorted (l : List Att) : NF (sortedL l) := by
  have hN := namesF_spec l [] (by simp [SS]); refine ⟨?_, fun x hx => ?_, fun x hx => ?_⟩
  · rw [sortedL, List.map_map]; rw [show ((fun x : Att => x.1) ∘ fun n => (n, valsF l n)) = id from rfl, List.map_id]; exact hN.1
  · obtain ⟨n, _, rfl⟩ := List.mem_map.1 hx; exact (valsF_spec n l [] (by simp [SS])).1
  · obtain ⟨n, hn, rfl⟩ := List.mem_map.1 hx; have hV := (valsF_spec n l [] (by simp [SS])).2; rcases (hN.2 n).1 hn with h | ⟨a, ha, hne, e⟩
    · simp at h
    · obtain ⟨v, hv⟩ := List.exists_mem_of_ne_nil _ hne; exact List.ne_nil_of_mem ((hV v).2 (.inr ⟨a, ha, e, hv⟩))
theorem sorted_has (l : List Att) (n v : Str) : Has (sortedL l) n v ↔ HasL l n v := by
  have hN := namesF_spec l [] (by simp [SS]); constructor
  · rintro ⟨x, hx, rfl, hv⟩; obtain ⟨a, ha, e, h⟩ := sorted_val hx hv; exact ⟨a, ha, e, h⟩
  · rintro ⟨a, ha, e, hv⟩; refine ⟨(n, valsF l n), List.mem_map.2 ⟨n, ?_, rfl⟩, rfl, ?_⟩
    · exact (hN.2 n).2 (.inr ⟨a, ha, List.ne_nil_of_mem hv, e⟩)
    · exact ((valsF_spec n l [] (by simp [SS])).2 v).2 (.inr ⟨a, ha, e, hv⟩)
theorem nodup_inj {α : Type} {l : List α} (h : l.Nodup) {i j : Nat} (hi : i < l.length) (hj : j < l.length) (e : l[i] = l[j]) : i = j := by
  have h1 := List.pairwise_iff_getElem.1 h; rcases Nat.lt_trichotomy i j with h2 | h2 | h2
  · exact absurd e (h1 i j hi hj h2)
  · exact h2
  · exact absurd e.symm (h1 j i hj hi h2)
theorem nf_inj {s : List Att} (hs : NF s) {x y : Att} (hx : x ∈ s) (hy : y ∈ s) (h : x.1 = y.1) : x = y := by
  have hnd := hs.names.nodup; obtain ⟨i, hi, rfl⟩ := List.mem_iff_getElem.1 hx; obtain ⟨j, hj, rfl⟩ := List.mem_iff_getElem.1 hy; have := nodup_inj hnd (i := i) (j := j) (by simpa using hi) (by simpa using hj) (by simpa using h); subst this; rfl
theorem nf_ext {s t : List Att} (hs : NF s) (ht : NF t) (h : ∀ n v, Has s n v ↔ Has t n v) : s = t := by
  have e1 : s.map (·.1) = t.map (·.1) := by
    refine SS_ext hs.names ht.names fun n => ?_
    constructor
    · intro hn; obtain ⟨x, hx, rfl⟩ := List.mem_map.1 hn; obtain ⟨v, hv⟩ := List.exists_mem_of_ne_nil _ (hs.ne x hx); obtain ⟨y, hy, e, _⟩ := (h x.1 v).1 ⟨x, hx, rfl, hv⟩; exact List.mem_map.2 ⟨y, hy, e⟩
    · intro hn; obtain ⟨x, hx, rfl⟩ := List.mem_map.1 hn; obtain ⟨v, hv⟩ := List.exists_mem_of_ne_nil _ (ht.ne x hx); obtain ⟨y, hy, e, _⟩ := (h x.1 v).2 ⟨x, hx, rfl, hv⟩; exact List.mem_map.2 ⟨y, hy, e⟩
  have hl : s.length = t.length := by simpa using congrArg List.length e1
  refine List.ext_getElem hl fun i h1 h2 => ?_
  have en : s[i].1 = t[i].1 := by
    have := List.getElem_of_eq e1 (i := i) (by simpa using h1); simpa using this
  refine Prod.ext en ?_; refine SS_ext (hs.vals _ (gmm h1)) (ht.vals _ (gmm h2)) fun v => ?_
  constructor
  · intro hv; obtain ⟨y, hy, e, hv⟩ := (h s[i].1 v).1 ⟨_, gmm h1, rfl, hv⟩; rw [← nf_inj ht hy (gmm h2) (e.trans en)]; exact hv
  · intro hv; obtain ⟨y, hy, e, hv⟩ := (h t[i].1 v).2 ⟨_, gmm h2, rfl, hv⟩; rw [← nf_inj hs hy (gmm h1) (e.trans en.symm)]; exact hv
theorem sorted_ext {a b : List Att} (h : ∀ n v, HasL a n v ↔ HasL b n v) : sortedL a = sortedL b :=
  nf_ext (nf_sorted a) (nf_sorted b) fun n v => by rw [sorted_has, sorted_has, h]
theorem sorted_low {l : List Att} {x : Att} (h : x ∈ sortedL l) : lower x.1 = x.1 := by
  obtain ⟨a, _, _, e⟩ := sorted_name h; rw [← e, lower_lower]
theorem hasL_sorted (l : List Att) (n v : Str) : HasL (sortedL l) n v ↔ HasL l n v := by
  rw [← sorted_has l n v]; constructor
  · rintro ⟨x, hx, e, hv⟩; exact ⟨x, hx, (sorted_low hx).symm.trans e, hv⟩
  · rintro ⟨x, hx, e, hv⟩; exact ⟨x, hx, (sorted_low hx).trans e, hv⟩
theorem sorted_idem (l : List Att) : sortedL (sortedL l) = sortedL l := sorted_ext (hasL_sorted l)
theorem mem_findA {s : List Att} (hs : NF s) (n v : Str) : v ∈ findA n s ↔ Has s n v := by
  have key : ∀ (s : List Att), (∀ x ∈ s, ∀ y ∈ s, x.1 = y.1 → x = y) → (v ∈ findA n s ↔ Has s n v) := by
    intro s
    induction s with
    | nil => intro _; simp [findA, Has]
    | cons a s ih =>
      intro hi; rw [findA]; split
      · rename_i h
        constructor
        · intro hv; exact ⟨a, by simp, h, hv⟩
        · rintro ⟨y, hy, e, hv⟩; rw [hi a (by simp) y hy (h.trans e.symm)]; exact hv
      · rename_i h
        rw [ih fun x hx y hy => hi x (by simp [hx]) y (by simp [hy])]; constructor
        · rintro ⟨y, hy, e, hv⟩; exact ⟨y, by simp [hy], e, hv⟩
        · rintro ⟨y, hy, e, hv⟩; rcases List.mem_cons.1 hy with rfl | hy
          · exact absurd e h
          · exact ⟨y, hy, e, hv⟩
  exact key s fun x hx y hy => nf_inj hs hx hy
theorem mem_getL (l : List Att) (name v : Str) : v ∈ getL l name ↔ HasL l (lower name) v := by
  rw [getL, mem_findA (nf_sorted l), sorted_has]
theorem findA_SS {s : List Att} (h : ∀ x ∈ s, SS x.2) (n : Str) : SS (findA n s) := by
  induction s with
  | nil => simp [findA, SS]
  | cons a s ih =>
    rw [findA]; split
    · exact h a (by simp)
    · exact ih fun x hx => h x (by simp [hx])
theorem SS_getL (l : List Att) (name : Str) : SS (getL l name) := findA_SS (nf_sorted l).vals _
theorem getL_ext {a b : List Att} {n m : Str} (h : ∀ v, HasL a (lower n) v ↔ HasL b (lower m) v) : getL a n = getL b m :=
  SS_ext (SS_getL _ _) (SS_getL _ _) fun v => by rw [mem_getL, mem_getL, h]
theorem hasL_app (a b : List Att) (n v : Str) : HasL (a ++ b) n v ↔ HasL a n v ∨ HasL b n v := by
  simp only [HasL, List.mem_append]; constructor
  · rintro ⟨x, h | h, h2⟩
    · exact .inl ⟨x, h, h2⟩
    · exact .inr ⟨x, h, h2⟩
  · rintro (⟨x, h, h2⟩ | ⟨x, h, h2⟩)
    · exact ⟨x, .inl h, h2⟩
    · exact ⟨x, .inr h, h2⟩
theorem hasL_one (m : Str) (w : List Str) (n v : Str) : HasL [(m, w)] n v ↔ lower m = n ∧ v ∈ w := by simp [HasL]
theorem hasL_fil (l : List Att) (m n v : Str) : HasL ((sortedL l).filter fun x => !decide (x.1 = m)) n v ↔ n ≠ m ∧ HasL l n v := by
  rw [← hasL_sorted l]; constructor
  · rintro ⟨x, hx, e, hv⟩; obtain ⟨h1, h2⟩ := List.mem_filter.1 hx; rw [sorted_low h1] at e; subst e; exact ⟨by simpa using h2, x, h1, sorted_low h1, hv⟩
  · rintro ⟨hne, x, hx, e, hv⟩; refine ⟨x, List.mem_filter.2 ⟨hx, ?_⟩, e, hv⟩; rw [sorted_low hx] at e; simp [e, hne]
theorem hasL_set (l : List Att) (name : Str) (w : List Str) (n v : Str) : HasL (setL (sortedL l) name w) n v ↔ (n ≠ lower name ∧ HasL l n v) ∨ (n = lower name ∧ v ∈ w) := by
  rw [setL, hasL_sorted, hasL_app, hasL_fil, hasL_one, lower_lower, eq_comm (a := lower name)]
theorem getL_other (l : List Att) {name other : Str} (w : List Str) (h : ¬ lower name = lower other) : getL (setL (sortedL l) name w) other = getL l other :=
  getL_ext fun v => by
    rw [hasL_set]; have h' : ¬ lower other = lower name := fun e => h e.symm
    simp [h, h']
theorem chkV_zero (old : List Str) : ∀ (l b : List Str), chkV old b l = 0 ↔ (∀ v ∈ l, cleanB v = true ∧ v ∉ old ∧ v ∉ b) ∧ l.Nodup
  | [], b => by simp [chkV]
  | x :: l, b => by
    rw [chkV]; by_cases h1 : cleanB x = false
    · simp [h1]
    · rw [if_neg h1]; by_cases h2 : x ∈ old ∨ x ∈ b
      · rw [if_pos h2]; simp only [List.mem_cons, forall_eq_or_imp]; constructor
        · intro h; simp at h
        · rintro ⟨⟨⟨_, h3, h4⟩, _⟩, _⟩; rcases h2 with h | h
          · exact absurd h h3
          · exact absurd h h4
      · rw [if_neg h2, chkV_zero old l (b ++ [x])]; simp only [not_or] at h2; simp only [List.mem_cons, forall_eq_or_imp, List.mem_append, List.nodup_cons, List.mem_nil_iff, or_false, not_or]; have h1' : cleanB x = true := (by simpa using h1); constructor
        · rintro ⟨h3, h4⟩; refine ⟨⟨⟨h1', h2⟩, fun v hv => ⟨(h3 v hv).1, (h3 v hv).2.1, (h3 v hv).2.2.1⟩⟩, fun hx => ?_, h4⟩; exact (h3 x hx).2.2.2 rfl
        · rintro ⟨⟨_, h3⟩, h4, h5⟩; exact ⟨fun v hv => ⟨(h3 v hv).1, (h3 v hv).2.1, (h3 v hv).2.2, fun e => h4 (e ▸ hv)⟩, h5⟩
theorem nodup_sub_len {α : Type} [DecidableEq α] : ∀ {a b : List α}, a.Nodup → (∀ x ∈ a, x ∈ b) → a.length ≤ b.length
  | [], _, _, _ => Nat.zero_le _
  | x :: a, b, hn, hs => by
    have hp := List.nodup_cons.1 hn; have hx := hs x (by simp); have ih := nodup_sub_len (a := a) (b := b.erase x) hp.2 fun y hy => (List.mem_erase_of_ne (fun e : y = x => hp.1 (e ▸ hy))).2 (hs y (by simp [hy]))
    rw [List.length_erase_of_mem hx] at ih; have := List.length_pos_of_mem hx; simp only [List.length_cons]; omega
theorem isLetter_low (c : UInt8) : isLetter (lowc c) = isLetter c := by
  by_cases h : 65 ≤ (c.toNat : Int) ∧ (c.toNat : Int) ≤ 90
  · have e := lowc_toNat c h.1 h.2; have h1 : isLetter c = true := by simp only [isLetter, Bool.or_eq_true, Bool.and_eq_true, decide_eq_true_eq]; omega
    have h2 : isLetter (lowc c) = true := by simp only [isLetter, Bool.or_eq_true, Bool.and_eq_true, decide_eq_true_eq]; omega
    rw [h1, h2]
  · rw [lowc, if_neg h]
theorem nameC_low (c : UInt8) : nameC (lowc c) = nameC c := by
  by_cases h : 65 ≤ (c.toNat : Int) ∧ (c.toNat : Int) ≤ 90
  · have e := lowc_toNat c h.1 h.2; have h1 : isLetter c = true := by simp only [isLetter, Bool.or_eq_true, Bool.and_eq_true, decide_eq_true_eq]; omega
    rw [nameC, nameC, isLetter_low, h1]; simp
  · rw [lowc, if_neg h]
theorem nameB_low (s : Str) : nameB (lower s) = nameB s := by
  have h1 : (lower s).head?.any isLetter = s.head?.any isLetter := by
    cases s with
    | nil => rfl
    | cons c s => simp [lower, isLetter_low]
  have h2 : (lower s).all nameC = s.all nameC := by
    rw [Bool.eq_iff_iff, List.all_eq_true, List.all_eq_true]; simp only [lower, List.mem_map, forall_exists_index, and_imp, forall_apply_eq_imp_iff₂, nameC_low]
  rw [nameB, nameB, h1, h2, lower_len]
structure Valid (l : List Att) : Prop where
  len : l.length ≤ 32
  each : ∀ a ∈ l, nameB a.1 = true ∧ a.2 ≠ [] ∧ a.2.length ≤ 16 ∧ ∀ v ∈ a.2, cleanB v = true
  nod : ∀ a ∈ l, a.2.Nodup
  names : (l.map fun a => lower a.1).Nodup
theorem valid_sorted {r : List Att} (h1 : (sortedL r).length ≤ 32) (h2 : ∀ n v, HasL r n v → nameB n = true ∧ cleanB v = true) (h3 : ∀ n, (getL r n).length ≤ 16) : Valid (sortedL r) := by
  have hN := nf_sorted r; refine ⟨h1, fun x hx => ?_, fun x hx => (hN.vals x hx).nodup, ?_⟩
  · have hne := hN.ne x hx; have hin : ∀ v ∈ x.2, HasL r x.1 v := fun v hv => (sorted_has r x.1 v).1 ⟨x, hx, rfl, hv⟩
    obtain ⟨v, hv⟩ := List.exists_mem_of_ne_nil _ hne; refine ⟨(h2 _ _ (hin v hv)).1, hne, ?_, fun u hu => (h2 _ _ (hin u hu)).2⟩; have e : getL r x.1 = x.2 := SS_ext (SS_getL _ _) (hN.vals x hx) fun u => by
      rw [mem_getL, sorted_low hx]; constructor
      · intro h; obtain ⟨y, hy, e, hu⟩ := (sorted_has r x.1 u).2 h; rw [← nf_inj hN hy hx e]; exact hu
      · exact hin u
    rw [← e]; exact h3 x.1
  · have : ((sortedL r).map fun a => lower a.1) = (sortedL r).map (·.1) := List.map_congr_left fun x hx => sorted_low hx
    rw [this]; exact hN.names.nodup
theorem Valid.get {l : List Att} (h : Valid l) (n : Str) : (getL l n).length ≤ 16 := by
  by_cases he : getL l n = []
  · simp [he]
  obtain ⟨v, hv⟩ := List.exists_mem_of_ne_nil _ he; obtain ⟨a, ha, ea, _⟩ := (mem_getL l n v).1 hv; refine Nat.le_trans (nodup_sub_len (SS_getL l n).nodup fun u hu => ?_) (h.each a ha).2.2.1; obtain ⟨b, hb, eb, hu⟩ := (mem_getL l n u).1 hu; have : b = a := by
    obtain ⟨i, hi, rfl⟩ := List.mem_iff_getElem.1 ha; obtain ⟨j, hj, rfl⟩ := List.mem_iff_getElem.1 hb; have := nodup_inj h.names (i := i) (j := j) (by simpa using hi) (by simpa using hj) (by simp [ea, eb]); subst this; rfl
  rw [← this]; exact hu
theorem Valid.has {l : List Att} (h : Valid l) {n v : Str} (hh : HasL l n v) : nameB n = true ∧ cleanB v = true := by
  obtain ⟨a, ha, rfl, hv⟩ := hh; exact ⟨by rw [nameB_low]; exact (h.each a ha).1, (h.each a ha).2.2.2 v hv⟩
theorem Valid.sorted {l : List Att} (h : Valid l) : Valid (sortedL l) :=
  valid_sorted (Nat.le_trans (sorted_len l) h.len) (fun _ _ hh => h.has hh) h.get
theorem getL_set' (l : List Att) (name : Str) (w : List Str) (n : Str) : getL (setL (sortedL l) name w) n = if lower name = lower n then getL (setL (sortedL l) name w) name else getL l n := by
  split
  · rename_i h
    simp only [getL, h]
  · rename_i h; exact getL_other l w h
theorem Valid.set {l : List Att} (h : Valid l) {name : Str} {w : List Str} (hn : nameB name = true) (hw : ∀ v ∈ w, cleanB v = true) (h32 : (setL (sortedL l) name w).length ≤ 32) (h16 : (getL (setL (sortedL l) name w) name).length ≤ 16) : Valid (setL (sortedL l) name w) := by
  have hH := hasL_set l name w; have hG := getL_set' l name w; have key : Valid (sortedL (setL (sortedL l) name w)) := by
    have hi : sortedL (setL (sortedL l) name w) = setL (sortedL l) name w := by rw [setL, sorted_idem]
    refine valid_sorted (by rw [hi]; exact h32) (fun n v hh => ?_) (fun n => ?_)
    · rcases (hH n v).1 hh with ⟨_, h1⟩ | ⟨rfl, h1⟩
      · exact h.has h1
      · exact ⟨by rw [nameB_low]; exact hn, hw v h1⟩
    · rw [hG n]; split
      · exact h16
      · exact h.get n
  have hi : sortedL (setL (sortedL l) name w) = setL (sortedL l) name w := by rw [setL, sorted_idem]
  rw [hi] at key; exact key
theorem limL_ok {l : List Att} {name : Str} (h : (limL l name).2 = 0) : (limL l name).1 = l ∧ l.length ≤ 32 ∧ (getL l name).length ≤ 16 := by
  unfold limL at h ⊢; split at h
  · simp at h
  · rename_i hc
    rw [if_neg hc]; simp only [not_or] at hc; exact ⟨rfl, by omega, by omega⟩
theorem addP_ok {l : List Att} {name : Str} {v : List Str} (h : (addP l name v).2 = 0) : nameB name = true ∧ v ≠ [] ∧ chkV (getL l name) [] v = 0 ∧ (addP l name v).1 = setL (sortedL l) name (getL l name ++ v) ∧ (addP l name v).1.length ≤ 32 ∧ (getL (addP l name v).1 name).length ≤ 16 := by
  unfold addP at h ⊢; split at h
  · simp at h
  rename_i h1
  split at h
  · simp at h
  rename_i h2
  split at h
  · rename_i h3; exact absurd h h3
  rename_i h3
  rw [if_neg h1, if_neg h2, if_neg h3]; obtain ⟨a, b, c⟩ := limL_ok h; rw [a]; exact ⟨by simpa using h1, h2, by simpa using h3, rfl, b, c⟩
theorem Valid.add {l : List Att} (h : Valid l) {name : Str} {v : List Str} (h0 : (addP l name v).2 = 0) : Valid (addP l name v).1 := by
  obtain ⟨h1, h2, h3, h4, h5, h6⟩ := addP_ok h0; rw [h4] at h5 h6 ⊢; refine h.set h1 (fun x hx => ?_) h5 h6; rcases List.mem_append.1 hx with hx | hx
  · exact (h.has ((mem_getL l name x).1 hx)).2
  · exact (((chkV_zero _ _ _).1 h3).1 x hx).1
end Go.Proofs.Tz
set_option maxRecDepth 100000
namespace Go.Proofs.Tz
open Go.Vw Go.RowKit Go.Proofs
def wordC (c : UInt8) : Bool := isLetter c || isDigit c || decide ((c.toNat : Int) = 45) || decide ((c.toNat : Int) = 95) || decide ((c.toNat : Int) = 46) || decide ((c.toNat : Int) = 58)
def wordB (s : Str) : Bool := s.all wordC && decide (1 ≤ s.length) && decide (s.length ≤ 64)
theorem allowedW_fn (c : UInt8) : Ctr prog 84 [.d (u8 c)] (.d (.bool (wordC c))) := by
  refine fv (fun _ => false) func84 (by kernel_rfl) rfl rfl rfl rfl rfl ?_; simp -implicitDefEqProofs [u8]; refine callK (fletter_fn c) ?_; by_cases h1 : isLetter c = true
  · simp -implicitDefEqProofs [u8, h1, wordC]
  · simp -implicitDefEqProofs [u8, h1]; refine callK (fdigit_fn c) ?_; by_cases h2 : isDigit c = true
    · simp -implicitDefEqProofs [u8, h1, h2, wordC]
    by_cases h3 : (c.toNat : Int) = 45
    · simp -implicitDefEqProofs [u8, h1, h2, h3, wordC]
    by_cases h4 : (c.toNat : Int) = 95
    · simp -implicitDefEqProofs [u8, h1, h2, h3, h4, wordC]
    by_cases h5 : (c.toNat : Int) = 46
    · simp -implicitDefEqProofs [u8, h1, h2, h3, h4, h5, wordC]
    · simp -implicitDefEqProofs [u8, h1, h2, h3, h4, h5, wordC]
theorem madeW_fn (s : Str) (hs : List.length s < 1000000) : Ctr prog 83 [.d (.str s), .d (.clo 84 [])] (.d (.bool (wordB s))) := by
  refine fv (fun _ => false) func83 (by kernel_rfl) rfl rfl rfl rfl rfl ?_; simp -implicitDefEqProofs; refine loopN (List.length s) (fun k τ => τ 0 = .d (.str s) ∧ τ 1 = .d (.clo 84 []) ∧ τ 7 = .d (.int .i64 (List.length s)) ∧ τ 8 = .d (.int .i64 k) ∧ ∀ x ∈ s.take k, wordC x = true) (by simp) ?_; rintro k τ hk ⟨h0, h1, h7, h8, ha⟩; by_cases hlt : k < List.length s
  · simp -implicitDefEqProofs [h0, h1, h7, h8, hlt]; refine callK (allowedW_fn s[k]) ?_; by_cases e1 : wordC s[k] = true
    · simp -implicitDefEqProofs [h0, h1, h7, h8, hlt, e1]; exact ⟨by omega, again hlt ⟨by simp [h0], by simp [h1], by simp [h7], by simp, all_take hlt ha e1⟩⟩
    · have e2 : wordB s = false := by simp [wordB, all_not hlt (show wordC s[k] = false by simpa using e1)]
      simp -implicitDefEqProofs [h0, h1, h7, h8, hlt, e1, e2]
  · rw [ttl (by omega)] at ha; have hall : List.all s wordC = true := (by simpa using ha); by_cases e2 : s = []
    · simp -implicitDefEqProofs [h0, h1, h7, h8, hlt, e2, wordB]
    · have e3 : 1 ≤ List.length s := List.length_pos_iff.2 e2; simp -implicitDefEqProofs [h0, h1, h7, h8, hlt, e2, hall, wordB, e3]
      all_goals omega
theorem fword_fn (s : Str) (hs : List.length s < 1000000) : Ctr prog 57 [.d (.str s)] (.d (.bool (wordB s))) := by
  refine fv (fun _ => false) func57 (by kernel_rfl) rfl rfl rfl rfl rfl ?_; simp -implicitDefEqProofs; refine callK (madeW_fn s hs) ?_; simp -implicitDefEqProofs
theorem word_fn (s : Str) (hs : List.length s < 1000000) : Ctr prog 58 [.d (.str s)] (.d (.bool (wordB s))) := by
  refine fv (fun _ => false) func58 (by kernel_rfl) rfl rfl rfl rfl rfl ?_; simp -implicitDefEqProofs; refine loopN (List.length s) (fun k τ => τ 0 = .d (.str s) ∧ τ 3 = .d (.int .i64 k) ∧ ∀ x ∈ s.take k, wordC x = true) (by simp) ?_; rintro k τ hk ⟨h0, h3, ha⟩; by_cases hlt : k < List.length s
  · have fin : wordC s[k] = true → ∀ x ∈ s.take (k + 1), wordC x = true := fun e => all_take hlt ha e
    simp -implicitDefEqProofs [h0, h3, hlt]; refine callK (letter_fn s[k]) ?_; by_cases e1 : isLetter s[k] = true
    · simp -implicitDefEqProofs [h0, h3, hlt, e1]; exact ⟨by omega, again hlt ⟨by simp [h0], by simp, fin (by simp [wordC, e1])⟩⟩
    simp -implicitDefEqProofs [h0, h3, hlt, e1]; refine callK (digit_fn s[k]) ?_; by_cases e2 : isDigit s[k] = true
    · simp -implicitDefEqProofs [h0, h3, hlt, e2]; exact ⟨by omega, again hlt ⟨by simp [h0], by simp, fin (by simp [wordC, e2])⟩⟩
    by_cases e3 : (s[k].toNat : Int) = 45
    · simp -implicitDefEqProofs [h0, h3, hlt, e2, e3]; exact ⟨by omega, again hlt ⟨by simp [h0], by simp, fin (by simp [wordC, e3])⟩⟩
    by_cases e4 : (s[k].toNat : Int) = 95
    · simp -implicitDefEqProofs [h0, h3, hlt, e2, e3, e4]; exact ⟨by omega, again hlt ⟨by simp [h0], by simp, fin (by simp [wordC, e4])⟩⟩
    by_cases e5 : (s[k].toNat : Int) = 46
    · simp -implicitDefEqProofs [h0, h3, hlt, e2, e3, e4, e5]; exact ⟨by omega, again hlt ⟨by simp [h0], by simp, fin (by simp [wordC, e5])⟩⟩
    by_cases e6 : (s[k].toNat : Int) = 58
    · simp -implicitDefEqProofs [h0, h3, hlt, e2, e3, e4, e5, e6]; exact ⟨by omega, again hlt ⟨by simp [h0], by simp, fin (by simp [wordC, e6])⟩⟩
    · have e7 : wordB s = false := by simp [wordB, all_not hlt (show wordC s[k] = false by simp [wordC, e1, e2, e3, e4, e5, e6])]
      simp -implicitDefEqProofs [h0, h3, hlt, e2, e3, e4, e5, e6, e7]
  · rw [ttl (by omega)] at ha; have hall : List.all s wordC = true := (by simpa using ha); by_cases h1 : (1 : Int) ≤ (List.length s : Int)
    · have h1' : 1 ≤ List.length s := (by omega); simp -implicitDefEqProofs [h0, h3, hlt, hall, wordB, h1, h1']
      all_goals omega
    · have h1' : ¬ 1 ≤ List.length s := (by omega); simp -implicitDefEqProofs [h0, h3, hlt, hall, wordB, h1, h1']
      all_goals omega
end Go.Proofs.Tz
namespace Go.Proofs.Tz
open Go.Vw Go.Lib
abbrev Acc := Str × Bool × List Att
def accD (a : Acc) : D := .agg [.str a.1, .bool a.2.1, atts a.2.2]
def ownA (a : Acc) : Acc := (a.1, a.2.1, sortedL a.2.2)
def aK (a : Acc) : Str := a.1
def offA (a : Acc) : Acc := (a.1, false, a.2.2)
abbrev Wsh := Acc × Int
def wK (w : Wsh) : Str := w.1.1
abbrev TSt := List Acc × Int
def erT (F : List Int) (n : Int) : Int := if n ∈ F then 30 else 0
def formE (a : Acc) : Int := if wordB a.1 then checkL a.2.2 else 5
def putT (F : List Int) (t : TSt) (a : Acc) : TSt × Int :=
  if t.2 ∈ F then ((t.1, t.2 + 1), 30)
  else if formE a ≠ 0 then ((t.1, t.2 + 1), formE a)
  else if hasK aK a.1 t.1 = false ∧ 256 ≤ t.1.length then ((t.1, t.2 + 1), 3)
  else ((putK aK (ownA a) t.1, t.2 + 1), 0)
def disT (F : List Int) (t : TSt) (s : Str) : TSt × Int :=
  if t.2 ∈ F then ((t.1, t.2 + 1), 30)
  else match getK aK s t.1 with
    | none => ((t.1, t.2 + 1), 6)
    | some a => ((putK aK (offA a) t.1, t.2 + 1), 0)
def remT (F : List Int) (t : TSt) (s : Str) : TSt × Int :=
  if t.2 ∈ F then ((t.1, t.2 + 1), 30)
  else if hasK aK s t.1 = false then ((t.1, t.2 + 1), 6)
  else ((delK aK s t.1, t.2 + 1), 0)
def lstT (F : List Int) (t : TSt) : TSt × (List Acc × Int) :=
  if t.2 ∈ F then ((t.1, t.2 + 1), ([], 30)) else ((t.1, t.2 + 1), (t.1, 0))
abbrev SSt := List Wsh × List Str
def limC (t : Int) : Int := min (max t 0) 1099511627776
def addC (a b : Int) : Int := limC (limC a + limC b)
def setS (s : SSt) (a : Acc) (due : Int) : SSt × Int :=
  if hasK wK a.1 s.1 = false ∧ 256 ≤ s.1.length then (s, 3)
  else ((putK wK (a, due) s.1, if a.1 ∈ s.2 then s.2 else s.2 ++ [a.1]), 0)
def wantS (s : SSt) (a : Acc) : SSt × Int := if formE a ≠ 0 then (s, formE a) else setS s (ownA a) 0
def leaveS (s : SSt) (id : Str) (now : Int) : SSt × Int := if wordB id = false then (s, 5) else setS s (id, false, []) (addC now 0)
def callW (F : List Int) (t : TSt) (a : Acc) : TSt × Int :=
  if a.2.1 then putT F t a else ((disT F t a.1).1, if (disT F t a.1).2 = 6 then 0 else (disT F t a.1).2)
structure StK where
  t : TSt
  V : List Wsh
  left : List Str
  n : Int
def stepO (F : List Int) (now delay : Int) (r : StK) (id : Str) : StK :=
  match getK wK id r.V with
  | none => { r with left := r.left ++ [id] }
  | some w =>
    if addC now 0 < w.2 then { r with left := r.left ++ [id] }
    else if (callW F r.t w.1).2 = 0 then { r with t := (callW F r.t w.1).1, n := r.n + 1 }
    else { t := (callW F r.t w.1).1, V := putK wK (w.1, addC now delay) r.V, left := r.left ++ [id], n := r.n + 1 }
def stepL (F : List Int) (now delay : Int) (t : TSt) (V : List Wsh) (q : List Str) : StK := q.foldl (stepO F now delay) ⟨t, V, [], 0⟩
def fitsW (w : Acc) (o : Option Acc) : Bool := match o with
  | none => !w.2.1
  | some a => if w.2.1 then a.2.1 && decide (sortedL a.2.2 = sortedL w.2.2) else !a.2.1
def oddS (A : List Acc) (V : List Wsh) : List Str := (V.filter fun w => !fitsW w.1 (getK aK w.1.1 A)).map wK
def chkS (F : List Int) (t : TSt) (V : List Wsh) : TSt × (List Str × Int) :=
  if t.2 ∈ F then ((t.1, t.2 + 1), ([], 30)) else ((t.1, t.2 + 1), (oddS t.1 V, 0))
structure AccB (a : Acc) : Prop where
  word : wordB a.1 = true
  normal : sortedL a.2.2 = a.2.2
  fit : Fit2 a.2.2
  fitV : FitV a.2.2
structure TI4 (A : List Acc) : Prop where
  ord : OrdK aK A
  acc : ∀ a ∈ A, AccB a
structure SI4 (s : SSt) : Prop where
  ord : OrdK wK s.1
  acc : ∀ w ∈ s.1, AccB w.1
  due : ∀ w ∈ s.1, 0 ≤ w.2 ∧ w.2 ≤ 1099511627776
  nodup : s.2.Nodup
  sub : ∀ id ∈ s.2, hasK wK id s.1 = true
theorem putT_n (F : List Int) (t : TSt) (a : Acc) : (putT F t a).1.2 = t.2 + 1 := by
  unfold putT; split
  · rfl
  · split
    · rfl
    · split <;> rfl
theorem disT_n (F : List Int) (t : TSt) (s : Str) : (disT F t s).1.2 = t.2 + 1 := by
  unfold disT; split
  · rfl
  · split <;> rfl
theorem remT_n (F : List Int) (t : TSt) (s : Str) : (remT F t s).1.2 = t.2 + 1 := by
  unfold remT; split
  · rfl
  · split <;> rfl
theorem lstT_n (F : List Int) (t : TSt) : (lstT F t).1 = (t.1, t.2 + 1) := by
  unfold lstT; split <;> rfl
theorem callW_n (F : List Int) (t : TSt) (a : Acc) : (callW F t a).1.2 = t.2 + 1 := by
  unfold callW; split
  · exact putT_n F t a
  · exact disT_n F t a.1
theorem putK_acc {A : List Acc} (h : TI4 A) {a : Acc} (ha : AccB a) : TI4 (putK aK a A) :=
  ⟨putK_OrdK h.ord, fun x hx => (mem_putK.1 hx).elim (fun e => e ▸ ha) fun h2 => h.acc x h2.1⟩
theorem disT_ok {F : List Int} {t : TSt} (h : TI4 t.1) (s : Str) : TI4 (disT F t s).1.1 := by
  unfold disT; split
  · exact h
  · split
    · exact h
    · rename_i a ha
      obtain ⟨h1, h2⟩ := getK_some ha; have := h.acc a h1; exact putK_acc h ⟨this.1, this.2, this.3, this.4⟩
theorem remT_ok {F : List Int} {t : TSt} (h : TI4 t.1) (s : Str) : TI4 (remT F t s).1.1 := by
  unfold remT; split
  · exact h
  · split
    · exact h
    · exact ⟨delK_OrdK h.ord, fun x hx => h.acc x (List.mem_filter.1 hx).1⟩
theorem putT_ok {F : List Int} {t : TSt} (h : TI4 t.1) {a : Acc} (ha : wordB a.1 = true → AccB (ownA a)) : TI4 (putT F t a).1.1 := by
  unfold putT; split
  · exact h
  · split
    · exact h
    · rename_i hf
      split
      · exact h
      · refine putK_acc h (ha ?_); unfold formE at hf; cases hw : wordB a.1 with
        | true => rfl
        | false => rw [hw] at hf; simp at hf
theorem AccB.own {a : Acc} (h : AccB a) : ownA a = a := by
  obtain ⟨x, y, z⟩ := a; simp only [ownA, h.normal]
theorem callW_ok {F : List Int} {t : TSt} (h : TI4 t.1) {a : Acc} (ha : AccB a) : TI4 (callW F t a).1.1 := by
  unfold callW; split
  · exact putT_ok h fun _ => by rw [ha.own]; exact ha
  · exact disT_ok h a.1
theorem limC_b (t : Int) : 0 ≤ limC t ∧ limC t ≤ 1099511627776 := by unfold limC; omega
theorem addC_b (a b : Int) : 0 ≤ addC a b ∧ addC a b ≤ 1099511627776 := limC_b _
theorem setS_ok {s : SSt} (h : SI4 s) {a : Acc} {due : Int} (ha : AccB a) (hd : 0 ≤ due ∧ due ≤ 1099511627776) : SI4 (setS s a due).1 := by
  unfold setS; split
  · exact h
  · refine ⟨putK_OrdK h.ord, fun x hx => (mem_putK.1 hx).elim (fun e => e ▸ ha) fun h2 => h.acc x h2.1, fun x hx => (mem_putK.1 hx).elim (fun e => e ▸ hd) fun h2 => h.due x h2.1, ?_, ?_⟩
    · simp only; split
      · exact h.nodup
      · rename_i hn
        exact List.nodup_append.2 ⟨h.nodup, by simp, fun x hx y hy => by simp only [List.mem_singleton] at hy; subst hy; rintro rfl; exact hn hx⟩
    · simp only; have hself : hasK wK a.1 (putK wK (a, due) s.1) = true := hasK_iff.2 (List.mem_map.2 ⟨(a, due), mem_putK.2 (.inl rfl), rfl⟩); have hold : ∀ id ∈ s.2, hasK wK id (putK wK (a, due) s.1) = true := fun id hid => by
        obtain ⟨w, hw, e⟩ := hasK_true (h.sub id hid); by_cases e2 : wK w = wK (a, due)
        · rw [← e, e2]; exact hself
        · exact hasK_iff.2 (List.mem_map.2 ⟨w, mem_putK.2 (.inr ⟨hw, e2⟩), e⟩)
      intro id hid; split at hid
      · exact hold id hid
      · rcases List.mem_append.1 hid with hid | hid
        · exact hold id hid
        · simp only [List.mem_singleton] at hid; subst hid; exact hself
end Go.Proofs.Tz
namespace Go.Proofs.Tz
open Go.Vw Go.RowKit Go.Proofs Go.Sort
abbrev va (b : Nat) : Value := .pointer (some ⟨b, 0, none⟩)
theorem givB {P : Program} {g : FuncId} {args : List AV} {σ : St} {d : Nat} {K : St → Prop} (ks : List Nat) (b : Nat) {hs : List AV} {Post : AV → List AV → Prop} (h : CtrG P g args hs Post) (h1 : ks.map σ = hs) (h2 : hs.all isH = true) (h3 : ks.Nodup)
    (hk : ∀ r hs', Post r hs' → K (putH (put (takeH σ ks) d r) ks b hs')) : GivK P g args σ d K :=
  ⟨ks, b, Post, fun k hk => by
    have : σ k ∈ hs := by rw [← h1]; exact List.mem_map.2 ⟨k, hk, rfl⟩
    exact List.all_eq_true.1 h2 _ this, h3, by rw [h1]; exact h, hk⟩
theorem rawFd {P : Program} {s f : Nat} {u : Value} {σ : St} {C : AV → Prop} (j : Nat) {e : TypeId} {ds : List D} (hj : σ j = .hb u e (.agg ds)) (h0 : 1000000 ≤ j) (h1 : f < ds.length) (h2 : fieldOff P s f = some (widths (ds.take f))) (h : C (.adr j [f])) : RawFd P s f u σ C :=
  ⟨j, e, ds, h0, hj, h1, h2, h⟩
theorem rawIx {e : TypeId} {m : Nat} {u : Value} {σ : St} {C : AV → Prop} (j : Nat) {e' : TypeId} {l : List D} (hj : σ j = .hs u e' l) (h0 : 1000000 ≤ j) (he : ety e' = e) (h1 : m < l.length) (h : C (.eadr j m [])) : RawIx e m u σ C :=
  ⟨j, e', l, h0, hj, he, h1, h⟩
def FM (F : List Int) : List (D × D) := F.foldl (fun m n => mset m (.int .i64 n) (.bool true)) []
theorem mget_mset_i (m : List (D × D)) (a b : Int) (v : D) : mget (mset m (.int .i64 a) v) (.int .i64 b) = if a = b then some v else mget m (.int .i64 b) := by
  unfold mset mget; by_cases hany : m.any (fun p => keyEq p.1 (.int .i64 a)) = true
  · rw [if_pos hany]
    induction m with
    | nil => simp at hany
    | cons p m ih =>
      rw [List.map_cons, List.find?_cons, List.find?_cons]; by_cases hp : keyEq p.1 (.int .i64 a) = true
      · have hpe := keyEq_eq hp; simp only [hp, if_true]; rw [hpe]; have kab : keyEq (.int .i64 a) (.int .i64 b) = decide (a = b) := (by simp [keyEq]); by_cases hab : a = b
        · have kbb : keyEq (.int .i64 b) (.int .i64 b) = true := (by simp [keyEq]); subst hab; simp [kbb]
        · simp only [kab, hab, decide_false, if_false]; by_cases hany2 : m.any (fun p => keyEq p.1 (.int .i64 a)) = true
          · have := ih hany2; rw [if_neg hab] at this; exact this
          · have : m.map (fun p => if keyEq p.1 (.int .i64 a) = true then (p.1, v) else p) = m := by
              conv => rhs; rw [← List.map_id m]
              refine List.map_congr_left fun q hq => ?_
              exact if_neg fun hq2 => hany2 (List.any_eq_true.2 ⟨q, hq, hq2⟩)
            rw [this]
      · rw [Bool.not_eq_true] at hp; simp only [hp, Bool.false_eq_true, if_false]; have hany2 : m.any (fun p => keyEq p.1 (.int .i64 a)) = true := by simpa [hp] using hany
        have := ih hany2; by_cases hpb : keyEq p.1 (.int .i64 b) = true
        · have hne : ¬ a = b := by
            rintro rfl; rw [hp] at hpb; cases hpb
          simp [hpb, hne]
        · rw [Bool.not_eq_true] at hpb; simp only [hpb]; exact this
  · rw [if_neg hany, List.find?_append]; by_cases hab : a = b
    · subst hab; have : m.find? (fun p => keyEq p.1 (.int .i64 a)) = none := by
        rw [List.find?_eq_none]; intro p hp hq; exact hany (List.any_eq_true.2 ⟨p, hp, hq⟩)
      rw [this]; simp [keyEq]
    · rw [if_neg hab]; have : List.find? (fun p : D × D => keyEq p.1 (.int .i64 b)) [(.int .i64 a, v)] = none := by simp [keyEq, hab]
      rw [this]; simp
theorem FM_snoc (F : List Int) (n : Int) : FM (F ++ [n]) = mset (FM F) (.int .i64 n) (.bool true) := by simp [FM]
theorem mget_FM (F : List Int) (n : Int) : mget (FM F) (.int .i64 n) = if n ∈ F then some (.bool true) else none := by
  have : ∀ G : List Int, mget (FM G.reverse) (.int .i64 n) = if n ∈ G.reverse then some (.bool true) else none := by
    intro G
    induction G with
    | nil => simp [FM, mget]
    | cons x G ih =>
      rw [List.reverse_cons, FM_snoc, mget_mset_i, ih]; by_cases hx : x = n
      · simp [hx]
      · simp [hx, Ne.symm hx]
  have := this F.reverse
  rwa [List.reverse_reverse] at this
theorem fit_str9 (s : Str) : keyFit (prog.underlying 9) (.str s) = true := by
  have : prog.underlying 9 = some .string := by kernel_rfl
  rw [this]; rfl
theorem fit_int3 (n : Int) : keyFit (prog.underlying 3) (.int .i64 n) = true := by
  have : prog.underlying 3 = some (.int .i64) := by kernel_rfl
  rw [this]; rfl
theorem map71 : prog.underlying 71 = some (.map 9 39) := by kernel_rfl
theorem map72 : prog.underlying 72 = some (.map 3 4) := by kernel_rfl
theorem map76 : prog.underlying 76 = some (.map 9 97) := by kernel_rfl
def tg (p u1 u2 : Nat) (F : List Int) (t : TSt) : List AV :=
  [.hb (va p) 74 (.agg [.raw (.map (some u1)), .raw (.map (some u2)), .int .i64 t.2]), .hm (.map (some u1)) 9 (mapK aK accD t.1) none, .hm (.map (some u2)) 3 (FM F) none]
theorem tready_fn (p u1 u2 : Nat) (F : List Int) (t : TSt) : CtrG prog 59 [.d (.raw (va p))] (tg p u1 u2 F t) (fun r hs' => r = .d (.bool true) ∧ hs' = tg p u1 u2 F t) := by
  refine fn_of_vwpG (fun _ => false) (by kernel_rfl) func59 (by kernel_rfl) rfl rfl (nbl rfl) (by kernel_rfl) rfl ?_; simp -implicitDefEqProofs [initG, takeH, putH, tg, ]; refine rawFd (e := 74) (ds := [.raw (.map (some u1)), .raw (.map (some u2)), .int .i64 (t.2)]) 1000000 (by simp [initG]) (by omega) (by simp) (by kernel_rfl) ?_; simp -implicitDefEqProofs [initG]; exact ⟨.d (.bool true), [1000000, 1000001, 1000002], by simp, by simp [initG, tg, isH], by simp [ResG], by simp, by simp [initG, tg]⟩
theorem tcall_fn (p u1 u2 : Nat) (F : List Int) (t : TSt) (hn : 0 ≤ t.2 ∧ t.2 < 1000000) : CtrG prog 45 [.d (.raw (va p))] (tg p u1 u2 F t) (fun r hs' => r = .d (.int .i64 (erT F t.2)) ∧ hs' = tg p u1 u2 F (t.1, t.2 + 1)) := by
  refine fn_of_vwpG (fun i => i == 5000004) (by kernel_rfl) func45 (by kernel_rfl) rfl rfl (nbl rfl) (by kernel_rfl) rfl ?_; have c1 := tready_fn p u1 u2 F t; have hm := mget_FM F t.2; unfold erT; obtain ⟨A, n⟩ := t; simp only at hn hm ⊢; have e1 : n + 1 - 1 = n := (by omega); simp -implicitDefEqProofs [initG, takeH, putH, tg, ]; refine givB [1000000, 1000001, 1000002] 1000000 c1 (by simp [initG, tg]) rfl (by simp) ?_; rintro r hs' ⟨rfl, rfl⟩; simp -implicitDefEqProofs [initG, takeH, putH, tg, ]; refine rawFd (e := 74) (ds := [.raw (.map (some u1)), .raw (.map (some u2)), .int .i64 (n)]) 1000000 (by simp [initG]) (by omega) (by simp) (by kernel_rfl) ?_; simp -implicitDefEqProofs [initG]; refine ⟨by omega, ?_⟩; refine rawFd (e := 74) (ds := [.raw (.map (some u1)), .raw (.map (some u2)), .int .i64 (n)]) 1000000 (by simp [initG]) (by omega) (by simp) (by kernel_rfl) ?_; simp -implicitDefEqProofs [initG]; refine rawFd (e := 74) (ds := [.raw (.map (some u1)), .raw (.map (some u2)), .int .i64 (n + 1)]) 1000000 (by simp [initG]) (by omega) (by simp) (by kernel_rfl) ?_; simp -implicitDefEqProofs [initG]; refine rawFd (e := 74) (ds := [.raw (.map (some u1)), .raw (.map (some u2)), .int .i64 (n + 1)]) 1000000 (by simp [initG]) (by omega) (by simp) (by kernel_rfl) ?_; simp -implicitDefEqProofs [initG]; refine ⟨by omega, ?_⟩; by_cases hF : n ∈ F
  · rw [if_pos hF] at hm ⊢; refine lookK (m := FM F) (E := none) 1000002 (by omega) map72 (by simp [initG]) (fit_int3 n) Tryz.zd_4 hm ?_; simp -implicitDefEqProofs [initG, ]; exact ⟨.d (.int .i64 30), [1000000, 1000001, 1000002], by simp, by simp [initG, tg, isH], by simp [ResG], by simp, by simp [initG, tg]⟩
  · rw [if_neg hF] at hm ⊢; refine lookK (m := FM F) (E := none) 1000002 (by omega) map72 (by simp [initG]) (fit_int3 n) Tryz.zd_4 hm ?_; simp -implicitDefEqProofs [initG, ]; exact ⟨.d (.int .i64 0), [1000000, 1000001, 1000002], by simp, by simp [initG, tg, isH], by simp [ResG], by simp, by simp [initG, tg]⟩
theorem own_fn (a : Acc) (hf : Fit2 a.2.2) : Ctr prog 47 [.d (accD a)] (.d (accD (ownA a))) := by
  refine fn_of_vwpN (rv := .cell 2 39) (rs := []) (r := .d (accD (ownA a))) (ys := []) (fun _ => false) (by kernel_rfl) func47 (by kernel_rfl) rfl rfl (by simp) (nbl rfl) (by kernel_rfl) rfl rfl ?_; have c1 := sorted_fn a.2.2 hf; obtain ⟨s, b, l⟩ := a; simp only [atts] at c1; simp -implicitDefEqProofs [accD, atts]; refine callK c1 ?_; simp -implicitDefEqProofs [ownA, accD, atts]
theorem formE_fn (a : Acc) (hs : List.length a.1 < 1000000) (hf : Fits a.2.2) (hv : FitV a.2.2) : Ctr prog 46 [.d (accD a)] (.d (.int .i64 (formE a))) := by
  refine fv (fun _ => false) func46 (by kernel_rfl) rfl rfl rfl rfl rfl ?_; have c1 := fword_fn a.1 hs; have c2 := check_fn a.2.2 hf hv; unfold formE; obtain ⟨s, b, l⟩ := a; simp only [atts] at c1 c2 ⊢; cases hw : wordB s with
  | false =>
    rw [hw] at c1; simp -implicitDefEqProofs [accD, atts]; refine callK c1 ?_; simp -implicitDefEqProofs
  | true =>
    rw [hw] at c1; generalize checkL l = q at *; simp -implicitDefEqProofs [accD, atts]; refine callK c1 ?_; simp -implicitDefEqProofs; refine callK c2 ?_; simp -implicitDefEqProofs
theorem limited_fn (t : Int) (ht : -9223372036854775808 ≤ t ∧ t < 9223372036854775808) : Ctr prog 72 [.d (.int .i64 t)] (.d (.int .i64 (limC t))) := by
  refine fv (fun _ => false) func72 (by kernel_rfl) rfl rfl rfl rfl rfl ?_; simp -implicitDefEqProofs; unfold limC; by_cases h1 : t < 0
  · by_cases h2 : (1099511627776 : Int) < 0
    · omega
    · simp [h1]; omega
  · by_cases h2 : 1099511627776 < t
    · simp [h1, h2]; omega
    · simp [h1, h2]; omega
theorem clockAdd_fn (a b : Int) (ha : -9223372036854775808 ≤ a ∧ a < 9223372036854775808) (hb : -9223372036854775808 ≤ b ∧ b < 9223372036854775808) : Ctr prog 39 [.d (.int .i64 a), .d (.int .i64 b)] (.d (.int .i64 (addC a b))) := by
  refine fv (fun _ => false) func39 (by kernel_rfl) rfl rfl rfl rfl rfl ?_; have h1 := limC_b a; have h2 := limC_b b; have c1 := limited_fn a ha; have c2 := limited_fn b hb; have c3 := limited_fn (limC a + limC b) (by omega); unfold addC; generalize limC a = x at *; generalize limC b = y at *; simp -implicitDefEqProofs; refine callK c1 ?_; simp -implicitDefEqProofs; refine callK c2 ?_; simp -implicitDefEqProofs; refine ⟨by omega, ?_⟩; refine callK c3 ?_; simp -implicitDefEqProofs
structure AccF (a : Acc) : Prop where
  id : List.length a.1 < 1000000
  fit : Fit2 a.2.2
  fitV : FitV a.2.2
theorem tput_fn (p u1 u2 : Nat) (F : List Int) (t : TSt) (hn : 0 ≤ t.2 ∧ t.2 < 1000000) (hO : OrdK aK t.1) (a : Acc) (ha : AccF a) :
    CtrG prog 15 [.d (.raw (va p)), .d (accD a)] (tg p u1 u2 F t) (fun r hs' => r = .d (.int .i64 (putT F t a).2) ∧ hs' = tg p u1 u2 F (putT F t a).1) := by
  refine fn_of_vwpG (fun i => i == 5000010 || i == 9000007) (by kernel_rfl) func15 (by kernel_rfl) rfl rfl (nbl rfl) (by kernel_rfl) rfl ?_; have c1 := tcall_fn p u1 u2 F t hn; have c2 := formE_fn a ha.id ha.fit.1 ha.fitV; have c3 := own_fn a ha.fit; have hm := mget_K (k := aK) (v := accD) t.1 a.1; have hp := mset_K (v := accD) hO (ownA a); obtain ⟨R, hR⟩ : ∃ R, putT F t a = R := ⟨_, rfl⟩; rw [hR]; unfold putT at hR; unfold erT at c1; rw [hasK_get] at hR; obtain ⟨A, n⟩ := t; obtain ⟨s, b, l⟩ := a; simp only at hn hm hR c1 hp; simp only [accD, atts, ownA] at c2 c3; by_cases h1 : n ∈ F
  · rw [if_pos h1] at hR c1; subst hR; simp -implicitDefEqProofs [initG, takeH, putH, tg, accD, atts]; refine givB [1000000, 1000001, 1000002] 1000000 c1 (by simp [initG, tg]) rfl (by simp) ?_; rintro r hs' ⟨rfl, rfl⟩; simp -implicitDefEqProofs [initG, takeH, putH, tg, ]; exact ⟨.d (.int .i64 30), [1000000, 1000001, 1000002], by simp, by simp [initG, tg, isH], by simp [ResG], by simp, by simp [initG, tg]⟩
  rw [if_neg h1] at hR c1; generalize formE (s, b, l) = fe at *; by_cases h2 : fe = 0
  · subst h2; rw [if_neg (by simp)] at hR; cases hg : getK aK s A with
    | none =>
      rw [hg] at hm hR; by_cases h3 : 256 ≤ A.length
      · have h3' : (256 : Int) ≤ A.length := (by omega); rw [if_pos ⟨by simp, h3⟩] at hR; subst hR; simp -implicitDefEqProofs [initG, takeH, putH, tg, accD, atts]; refine givB [1000000, 1000001, 1000002] 1000000 c1 (by simp [initG, tg]) rfl (by simp) ?_; rintro r hs' ⟨rfl, rfl⟩; simp -implicitDefEqProofs [initG, takeH, putH, tg, ]; refine callK c2 ?_; simp -implicitDefEqProofs [initG, ]; refine rawFd (e := 74) (ds := [.raw (.map (some u1)), .raw (.map (some u2)), .int .i64 (n + 1)]) 1000000 (by simp [initG]) (by omega) (by simp) (by kernel_rfl) ?_; simp -implicitDefEqProofs [initG]; refine lookK (m := mapK aK accD A) (E := none) 1000001 (by omega) map71 (by simp [initG]) (fit_str9 s) Tryz.zd_39 hm ?_; simp -implicitDefEqProofs [initG, ]; refine rawFd (e := 74) (ds := [.raw (.map (some u1)), .raw (.map (some u2)), .int .i64 (n + 1)]) 1000000 (by simp [initG]) (by omega) (by simp) (by kernel_rfl) ?_; simp -implicitDefEqProofs [initG]; refine lenK (m := mapK aK accD A) (E := none) 1000001 (by omega) map71 (by simp [initG]) ?_; simp -implicitDefEqProofs [initG, mapK_len, h3, h3']; exact ⟨.d (.int .i64 3), [1000000, 1000001, 1000002], by simp, by simp [initG, tg, isH], by simp [ResG], by simp, by simp [initG, tg]⟩
      · have h3' : ¬ (256 : Int) ≤ A.length := (by omega); rw [if_neg (by simp [h3])] at hR; subst hR; simp -implicitDefEqProofs [initG, takeH, putH, tg, accD, atts]; refine givB [1000000, 1000001, 1000002] 1000000 c1 (by simp [initG, tg]) rfl (by simp) ?_; rintro r hs' ⟨rfl, rfl⟩; simp -implicitDefEqProofs [initG, takeH, putH, tg, ]; refine callK c2 ?_; simp -implicitDefEqProofs [initG, ]; refine rawFd (e := 74) (ds := [.raw (.map (some u1)), .raw (.map (some u2)), .int .i64 (n + 1)]) 1000000 (by simp [initG]) (by omega) (by simp) (by kernel_rfl) ?_; simp -implicitDefEqProofs [initG]; refine lookK (m := mapK aK accD A) (E := none) 1000001 (by omega) map71 (by simp [initG]) (fit_str9 s) Tryz.zd_39 hm ?_; simp -implicitDefEqProofs [initG, ]; refine rawFd (e := 74) (ds := [.raw (.map (some u1)), .raw (.map (some u2)), .int .i64 (n + 1)]) 1000000 (by simp [initG]) (by omega) (by simp) (by kernel_rfl) ?_; simp -implicitDefEqProofs [initG]; refine lenK (m := mapK aK accD A) (E := none) 1000001 (by omega) map71 (by simp [initG]) ?_; simp -implicitDefEqProofs [initG, mapK_len, h3, h3']; refine rawFd (e := 74) (ds := [.raw (.map (some u1)), .raw (.map (some u2)), .int .i64 (n + 1)]) 1000000 (by simp [initG]) (by omega) (by simp) (by kernel_rfl) ?_; simp -implicitDefEqProofs [initG]; refine callP c3 ?_; simp -implicitDefEqProofs [initG, ]; refine updK (E := none) (m := mapK aK accD A) 1000001 map71 (by simp [initG]) (fit_str9 s) _ hp ?_; simp -implicitDefEqProofs [initG, ]; exact ⟨.d (.int .i64 0), [1000000, 1000001, 1000002], by simp, by simp [initG, tg, isH], by simp [ResG], by simp, by simp [initG, tg]⟩
    | some x =>
      rw [hg] at hm hR; rw [if_neg (by simp)] at hR; subst hR; obtain ⟨xs, xb, xl⟩ := x; simp -implicitDefEqProofs [initG, takeH, putH, tg, accD, atts]; refine givB [1000000, 1000001, 1000002] 1000000 c1 (by simp [initG, tg]) rfl (by simp) ?_; rintro r hs' ⟨rfl, rfl⟩; simp -implicitDefEqProofs [initG, takeH, putH, tg, ]; refine callK c2 ?_; simp -implicitDefEqProofs [initG, ]; refine rawFd (e := 74) (ds := [.raw (.map (some u1)), .raw (.map (some u2)), .int .i64 (n + 1)]) 1000000 (by simp [initG]) (by omega) (by simp) (by kernel_rfl) ?_; simp -implicitDefEqProofs [initG]; refine lookK (m := mapK aK accD A) (E := none) 1000001 (by omega) map71 (by simp [initG]) (fit_str9 s) Tryz.zd_39 hm ?_; simp -implicitDefEqProofs [initG, accD, atts]; refine rawFd (e := 74) (ds := [.raw (.map (some u1)), .raw (.map (some u2)), .int .i64 (n + 1)]) 1000000 (by simp [initG]) (by omega) (by simp) (by kernel_rfl) ?_; simp -implicitDefEqProofs [initG]; refine callP c3 ?_; simp -implicitDefEqProofs [initG, ]; refine updK (E := none) (m := mapK aK accD A) 1000001 map71 (by simp [initG]) (fit_str9 s) _ hp ?_; simp -implicitDefEqProofs [initG, ]; exact ⟨.d (.int .i64 0), [1000000, 1000001, 1000002], by simp, by simp [initG, tg, isH], by simp [ResG], by simp, by simp [initG, tg]⟩
  · rw [if_pos h2] at hR; subst hR; simp -implicitDefEqProofs [initG, takeH, putH, tg, accD, atts]; refine givB [1000000, 1000001, 1000002] 1000000 c1 (by simp [initG, tg]) rfl (by simp) ?_; rintro r hs' ⟨rfl, rfl⟩; simp -implicitDefEqProofs [initG, takeH, putH, tg, ]; refine callK c2 ?_; simp -implicitDefEqProofs [initG, h2]; exact ⟨.d (.int .i64 fe), [1000000, 1000001, 1000002], by simp, by simp [initG, tg, isH], by simp [ResG], by simp, by simp [initG, tg]⟩
theorem tdis_fn (p u1 u2 : Nat) (F : List Int) (t : TSt) (hn : 0 ≤ t.2 ∧ t.2 < 1000000) (hO : OrdK aK t.1) (s : Str) :
    CtrG prog 17 [.d (.raw (va p)), .d (.str s)] (tg p u1 u2 F t) (fun r hs' => r = .d (.int .i64 (disT F t s).2) ∧ hs' = tg p u1 u2 F (disT F t s).1) := by
  refine fn_of_vwpG (fun i => i == 5000009) (by kernel_rfl) func17 (by kernel_rfl) rfl rfl (nbl rfl) (by kernel_rfl) rfl ?_; have c1 := tcall_fn p u1 u2 F t hn; have hm := mget_K (k := aK) (v := accD) t.1 s; obtain ⟨R, hR⟩ : ∃ R, disT F t s = R := ⟨_, rfl⟩; rw [hR]; unfold disT at hR; unfold erT at c1; obtain ⟨A, n⟩ := t; simp only at hn hm hR c1 hO; by_cases h1 : n ∈ F
  · rw [if_pos h1] at hR c1; subst hR; simp -implicitDefEqProofs [initG, takeH, putH, tg, ]; refine givB [1000000, 1000001, 1000002] 1000000 c1 (by simp [initG, tg]) rfl (by simp) ?_; rintro r hs' ⟨rfl, rfl⟩; simp -implicitDefEqProofs [initG, takeH, putH, tg, ]; exact ⟨.d (.int .i64 30), [1000000, 1000001, 1000002], by simp, by simp [initG, tg, isH], by simp [ResG], by simp, by simp [initG, tg]⟩
  rw [if_neg h1] at hR c1; cases hg : getK aK s A with
  | none =>
    rw [hg] at hm hR; subst hR; simp -implicitDefEqProofs [initG, takeH, putH, tg, ]; refine givB [1000000, 1000001, 1000002] 1000000 c1 (by simp [initG, tg]) rfl (by simp) ?_; rintro r hs' ⟨rfl, rfl⟩; simp -implicitDefEqProofs [initG, takeH, putH, tg, ]; refine rawFd (e := 74) (ds := [.raw (.map (some u1)), .raw (.map (some u2)), .int .i64 (n + 1)]) 1000000 (by simp [initG]) (by omega) (by simp) (by kernel_rfl) ?_; simp -implicitDefEqProofs [initG]; refine lookK (m := mapK aK accD A) (E := none) 1000001 (by omega) map71 (by simp [initG]) (fit_str9 s) Tryz.zd_39 hm ?_; simp -implicitDefEqProofs [initG, ]; exact ⟨.d (.int .i64 6), [1000000, 1000001, 1000002], by simp, by simp [initG, tg, isH], by simp [ResG], by simp, by simp [initG, tg]⟩
  | some x =>
    rw [hg] at hm hR; subst hR; have hx := (getK_some hg).2; have hp := mset_K (v := accD) hO (offA x); obtain ⟨xs, xb, xl⟩ := x; have hx' : xs = s := hx; subst hx'; simp -implicitDefEqProofs [initG, takeH, putH, tg, ]; refine givB [1000000, 1000001, 1000002] 1000000 c1 (by simp [initG, tg]) rfl (by simp) ?_; rintro r hs' ⟨rfl, rfl⟩; simp -implicitDefEqProofs [initG, takeH, putH, tg, ]; refine rawFd (e := 74) (ds := [.raw (.map (some u1)), .raw (.map (some u2)), .int .i64 (n + 1)]) 1000000 (by simp [initG]) (by omega) (by simp) (by kernel_rfl) ?_; simp -implicitDefEqProofs [initG]; refine lookK (m := mapK aK accD A) (E := none) 1000001 (by omega) map71 (by simp [initG]) (fit_str9 xs) Tryz.zd_39 hm ?_; simp -implicitDefEqProofs [initG, accD, atts]; refine rawFd (e := 74) (ds := [.raw (.map (some u1)), .raw (.map (some u2)), .int .i64 (n + 1)]) 1000000 (by simp [initG]) (by omega) (by simp) (by kernel_rfl) ?_; simp -implicitDefEqProofs [initG]; refine updK (E := none) (m := mapK aK accD A) 1000001 map71 (by simp [initG]) (fit_str9 xs) _ hp ?_; simp -implicitDefEqProofs [initG, ]; exact ⟨.d (.int .i64 0), [1000000, 1000001, 1000002], by simp, by simp [initG, tg, isH], by simp [ResG], by simp, by simp [initG, tg]⟩
theorem trem_fn (p u1 u2 : Nat) (F : List Int) (t : TSt) (hn : 0 ≤ t.2 ∧ t.2 < 1000000) (s : Str) :
    CtrG prog 19 [.d (.raw (va p)), .d (.str s)] (tg p u1 u2 F t) (fun r hs' => r = .d (.int .i64 (remT F t s).2) ∧ hs' = tg p u1 u2 F (remT F t s).1) := by
  refine fn_of_vwpG (fun i => i == 5000009) (by kernel_rfl) func19 (by kernel_rfl) rfl rfl (nbl rfl) (by kernel_rfl) rfl ?_; have c1 := tcall_fn p u1 u2 F t hn; have hm := mget_K (k := aK) (v := accD) t.1 s; obtain ⟨R, hR⟩ : ∃ R, remT F t s = R := ⟨_, rfl⟩; rw [hR]; unfold remT at hR; unfold erT at c1; rw [hasK_get] at hR; obtain ⟨A, n⟩ := t; simp only at hn hm hR c1; by_cases h1 : n ∈ F
  · rw [if_pos h1] at hR c1; subst hR; simp -implicitDefEqProofs [initG, takeH, putH, tg, ]; refine givB [1000000, 1000001, 1000002] 1000000 c1 (by simp [initG, tg]) rfl (by simp) ?_; rintro r hs' ⟨rfl, rfl⟩; simp -implicitDefEqProofs [initG, takeH, putH, tg, ]; exact ⟨.d (.int .i64 30), [1000000, 1000001, 1000002], by simp, by simp [initG, tg, isH], by simp [ResG], by simp, by simp [initG, tg]⟩
  rw [if_neg h1] at hR c1; cases hg : getK aK s A with
  | none =>
    rw [hg] at hm hR; rw [if_pos (by simp)] at hR; subst hR; simp -implicitDefEqProofs [initG, takeH, putH, tg, ]; refine givB [1000000, 1000001, 1000002] 1000000 c1 (by simp [initG, tg]) rfl (by simp) ?_; rintro r hs' ⟨rfl, rfl⟩; simp -implicitDefEqProofs [initG, takeH, putH, tg, ]; refine rawFd (e := 74) (ds := [.raw (.map (some u1)), .raw (.map (some u2)), .int .i64 (n + 1)]) 1000000 (by simp [initG]) (by omega) (by simp) (by kernel_rfl) ?_; simp -implicitDefEqProofs [initG]; refine lookK (m := mapK aK accD A) (E := none) 1000001 (by omega) map71 (by simp [initG]) (fit_str9 s) Tryz.zd_39 hm ?_; simp -implicitDefEqProofs [initG, ]; exact ⟨.d (.int .i64 6), [1000000, 1000001, 1000002], by simp, by simp [initG, tg, isH], by simp [ResG], by simp, by simp [initG, tg]⟩
  | some x =>
    rw [hg] at hm hR; rw [if_neg (by simp)] at hR; subst hR; obtain ⟨xs, xb, xl⟩ := x; simp -implicitDefEqProofs [initG, takeH, putH, tg, ]; refine givB [1000000, 1000001, 1000002] 1000000 c1 (by simp [initG, tg]) rfl (by simp) ?_; rintro r hs' ⟨rfl, rfl⟩; simp -implicitDefEqProofs [initG, takeH, putH, tg, ]; refine rawFd (e := 74) (ds := [.raw (.map (some u1)), .raw (.map (some u2)), .int .i64 (n + 1)]) 1000000 (by simp [initG]) (by omega) (by simp) (by kernel_rfl) ?_; simp -implicitDefEqProofs [initG]; refine lookK (m := mapK aK accD A) (E := none) 1000001 (by omega) map71 (by simp [initG]) (fit_str9 s) Tryz.zd_39 hm ?_; simp -implicitDefEqProofs [initG, accD, atts]; refine rawFd (e := 74) (ds := [.raw (.map (some u1)), .raw (.map (some u2)), .int .i64 (n + 1)]) 1000000 (by simp [initG]) (by omega) (by simp) (by kernel_rfl) ?_; simp -implicitDefEqProofs [initG]; refine Go.Vw.delK (E := none) (m := mapK aK accD A) 1000001 map71 (by simp [initG]) (fit_str9 s) (mapK aK accD (delK aK s A)) (by rw [mdel_K]) ?_; simp -implicitDefEqProofs [initG, ]; exact ⟨.d (.int .i64 0), [1000000, 1000001, 1000002], by simp, by simp [initG, tg, isH], by simp [ResG], by simp, by simp [initG, tg]⟩
theorem tcalls_fn (p u1 u2 : Nat) (F : List Int) (t : TSt) : CtrG prog 35 [.d (.raw (va p))] (tg p u1 u2 F t) (fun r hs' => r = .d (.int .i64 t.2) ∧ hs' = tg p u1 u2 F t) := by
  refine fn_of_vwpG (fun i => i == 5000004) (by kernel_rfl) func35 (by kernel_rfl) rfl rfl (nbl rfl) (by kernel_rfl) rfl ?_; have c1 := tready_fn p u1 u2 F t; simp -implicitDefEqProofs [initG, takeH, putH, tg, ]; refine givB [1000000, 1000001, 1000002] 1000000 c1 (by simp [initG, tg]) rfl (by simp) ?_; rintro r hs' ⟨rfl, rfl⟩; simp -implicitDefEqProofs [initG, takeH, putH, tg, ]; refine rawFd (e := 74) (ds := [.raw (.map (some u1)), .raw (.map (some u2)), .int .i64 (t.2)]) 1000000 (by simp [initG]) (by omega) (by simp) (by kernel_rfl) ?_; simp -implicitDefEqProofs [initG]; exact ⟨.d (.int .i64 t.2), [1000000, 1000001, 1000002], by simp, by simp [initG, tg, isH], by simp [ResG], by simp, by simp [initG, tg]⟩
theorem sortsIn (m : Nat) : AnyZ.SortsIn prog Tryz.sorted_ren Fence.wide m :=
  ⟨fun blk off cap ss W hH hblk hsz => callsIn_wide.2 (AnyM.slices_Sort_string Tryz.layS blk off cap ss W hH hblk hsz),
   fun p cap W => callsIn_wide.2 (AnyM.slices_Sort_string_none Tryz.layS p cap W)⟩
theorem keysA_fn (mb : Option Nat) : CtrG prog 69 [.d (.raw (.map mb))] [] (fun r hs' => ∃ q, r = .d (.raw (keysV 93 q)) ∧ hs' = [.hb (va q) 71 (.raw (.map mb))]) :=
  keysG (ρk := Tryz.keysA_ren) Tryz.keysA (enters_of func69 (by kernel_rfl) rfl) mb
theorem keysW_fn (mb : Option Nat) : CtrG prog 66 [.d (.raw (.map mb))] [] (fun r hs' => ∃ q, r = .d (.raw (keysV 92 q)) ∧ hs' = [.hb (va q) 76 (.raw (.map mb))]) :=
  keysG (ρk := Tryz.keysW_ren) Tryz.keysW (enters_of func66 (by kernel_rfl) rfl) mb
theorem sortedA_fn (b q T : Nat) (m : List (D × D)) (X : Option (List (D × Nat) × Nat)) (hl : m.length ≤ 1000000) (hm : ∀ p ∈ m, (keyS p.1).length ≤ maxLen) :
    CtrG prog 65 [.d (.raw (keysV 93 q))] [.hm (.map (some b)) 9 m X, .hb (va q) T (.raw (.map (some b)))] (fun r hs' => r = .own true 9 ((keysS m).map .str) ∧ hs' = [.hm (.map (some b)) 9 m X, .hb (va q) T (.raw (.map (some b)))]) :=
  sortedKeys (ρ := Tryz.sorted_ren) (ρk := Tryz.keysA_ren) Tryz.sorted { Tryz.keysA with } (sortsIn 4) (enters_of func91 (by kernel_rfl) rfl) (enters_of func65 (by kernel_rfl) rfl) (enters_of func93 (by kernel_rfl) rfl) rfl (by decide) (by kernel_rfl) (by kernel_rfl) b q T m X hl hm
theorem sortedW_fn (b q T : Nat) (m : List (D × D)) (X : Option (List (D × Nat) × Nat)) (hl : m.length ≤ 1000000) (hm : ∀ p ∈ m, (keyS p.1).length ≤ maxLen) :
    CtrG prog 65 [.d (.raw (keysV 92 q))] [.hm (.map (some b)) 9 m X, .hb (va q) T (.raw (.map (some b)))] (fun r hs' => r = .own true 9 ((keysS m).map .str) ∧ hs' = [.hm (.map (some b)) 9 m X, .hb (va q) T (.raw (.map (some b)))]) :=
  sortedKeys (ρ := Tryz.sorted_ren) (ρk := Tryz.keysW_ren) Tryz.sorted { Tryz.keysW with } (sortsIn 4) (enters_of func91 (by kernel_rfl) rfl) (enters_of func65 (by kernel_rfl) rfl) (enters_of func92 (by kernel_rfl) rfl) rfl (by decide) (by kernel_rfl) (by kernel_rfl) b q T m X hl hm
@[simp] theorem width_accD (a : Acc) : width (accD a) = 3 := rfl
@[simp] theorem isAgg_accD (a : Acc) : (accD a).isAgg = true := rfl
theorem word_len {s : Str} (h : wordB s = true) : s.length ≤ 64 := by
  unfold wordB at h; simp only [Bool.and_eq_true, decide_eq_true_eq] at h; exact h.2
def AcI (p u1 u2 : Nat) (F : List Int) (t : TSt) (k : Nat) (τ : St) : Prop := τ 0 = .d (.raw (va p)) ∧ τ 14 = .own true 9 ((t.1.map aK).map .str) ∧ τ 15 = .d (.int .i64 t.1.length) ∧ τ 16 = .d (.int .i64 k) ∧ τ 3 = .own true 39 ((t.1.take k).map accD) ∧ [1000000, 1000001, 1000002].map τ = tg p u1 u2 F t
theorem tacc_fn (p u1 u2 : Nat) (F : List Int) (t : TSt) (hI : TI4 t.1) (hl : t.1.length < 1000000) :
    CtrG prog 33 [.d (.raw (va p))] (tg p u1 u2 F t) (fun r hs' => r = .own true 39 (t.1.map accD) ∧ hs' = tg p u1 u2 F t) := by
  refine fn_of_vwpG (fun i => i == 5000007 || i == 5000013 || i == 5000014 || i == 14 || i == 29 || i == 3 || i == 2 || i == 28) (by kernel_rfl) func33 (by kernel_rfl) rfl rfl (nbl rfl) (by kernel_rfl) rfl ?_; have c1 := tready_fn p u1 u2 F t; have hkl : ∀ x ∈ mapK aK accD t.1, (keyS x.1).length ≤ maxLen := fun x hx => Nat.le_trans (keyS_K (n := 64) (fun a ha => word_len (hI.acc a ha).word) x hx) (by decide)
  have hks := keysS_K (v := accD) hI.ord; obtain ⟨A, n⟩ := t; simp only at hI hl hks hkl; simp -implicitDefEqProofs [initG, takeH, putH, tg, ]; refine givB [1000000, 1000001, 1000002] 1000000 c1 (by simp [initG, tg]) rfl (by simp) ?_; rintro r hs' ⟨rfl, rfl⟩; simp -implicitDefEqProofs [initG, takeH, putH, tg, ]; refine rawFd (e := 74) (ds := [.raw (.map (some u1)), .raw (.map (some u2)), .int .i64 (n)]) 1000000 (by simp [initG]) (by omega) (by simp) (by kernel_rfl) ?_; simp -implicitDefEqProofs [initG]; refine givB [] 1000003 (keysA_fn (some u1)) (by simp [initG, tg]) rfl (by simp) ?_; rintro r hs' ⟨q, rfl, rfl⟩; simp -implicitDefEqProofs [initG, takeH, putH, tg, ]; have c2 := sortedA_fn u1 q 71 (mapK aK accD A) none (by rw [mapK_len]; omega) hkl; rw [hks] at c2; refine givB [1000001, 1000003] 1000010 c2 (by simp [initG, tg]) rfl (by simp) ?_; rintro r hs' ⟨rfl, rfl⟩; simp -implicitDefEqProofs [initG, takeH, putH, tg, ]; refine loopN A.length (AcI p u1 u2 F (A, n)) ⟨by simp [initG], by simp [initG], by simp [initG], by simp [initG], by simp [initG], by simp [initG, tg]⟩ ?_; rintro k τ hk ⟨g0, g14, g15, g16, g3, gH⟩; simp only [tg, List.map_cons, List.map_nil, List.cons.injEq, and_true] at gH g14 g15 g3; obtain ⟨gA, gB, gC⟩ := gH; by_cases hlt : k < A.length
  · have hlt' : (k : Int) < A.length := (by omega); have hm := mget_K (k := aK) (v := accD) A (aK A[k]); rw [getK_mem hI.ord (gmm hlt)] at hm; simp only [Option.map_some] at hm; have hB := hI.acc _ (gmm hlt); have c3 := own_fn A[k] hB.fit; rw [hB.own] at c3; have ht := take_s hlt; have hkk : (A.map aK)[k]'(by simpa using hlt) = aK A[k] := (by simp); generalize hx : A[k] = x at *; simp -implicitDefEqProofs [g0, g14, g15, g16, g3, gA, gB, gC, hlt, hlt', hkk, hx]; refine rawFd (e := 74) (ds := [.raw (.map (some u1)), .raw (.map (some u2)), .int .i64 (n)]) 1000000 (by simp [g0, g14, g15, g16, g3, gA, gB, gC]) (by omega) (by simp) (by kernel_rfl) ?_; simp -implicitDefEqProofs [g0, g14, g15, g16, g3, gA, gB, gC]; refine lookK (m := mapK aK accD A) (E := none) 1000001 (by omega) map71 (by simp [gB]) (fit_str9 _) Tryz.zd_39 hm ?_; simp -implicitDefEqProofs [g0, g14, g15, g16, g3, gA, gB, gC]; refine callK c3 ?_; simp -implicitDefEqProofs [g0, g14, g15, g16, g3, gA, gB, gC]; (repeat refine ai (by omega) ?_); exact again hlt ⟨by simp [g0], by simp [g14], by simp [g15], by simp, by simp [ht], by simp [gA, gB, gC, tg]⟩
  · have hlt' : ¬ (k : Int) < A.length := (by omega); obtain rfl : k = A.length := by omega
    rw [ttl (by omega)] at g3; simp -implicitDefEqProofs [g0, g14, g15, g16, g3, gA, gB, gC, hlt, hlt']; exact ⟨.own true 39 (A.map accD), [1000000, 1000001, 1000002], by simp, by simp [gA, gB, gC, tg, isH], by simp [ResG], by simp, by simp [gA, gB, gC, tg]⟩
theorem tlist_fn (p u1 u2 : Nat) (F : List Int) (t : TSt) (hn : 0 ≤ t.2 ∧ t.2 < 1000000) (hI : TI4 t.1) (hl : t.1.length < 1000000) :
    CtrG prog 21 [.d (.raw (va p))] (tg p u1 u2 F t) (fun r hs' => r = .tup [.d (.sl ((lstT F t).2.1.map accD)), .d (.int .i64 (lstT F t).2.2)] ∧ hs' = tg p u1 u2 F (lstT F t).1) := by
  refine fn_of_vwpGN (rs := [.tmp 2, .tmp 3]) (fun i => i == 5000006 || i == 5000011) (by kernel_rfl) func21 (by kernel_rfl) rfl rfl (by simp) (nbl rfl) (by kernel_rfl) rfl ?_; have c1 := tcall_fn p u1 u2 F t hn; have c2 := (tacc_fn p u1 u2 F (t.1, t.2 + 1) hI hl).asData (Post' := fun r hs' => r = .d (.sl (t.1.map accD)) ∧ hs' = tg p u1 u2 F (t.1, t.2 + 1)) (by rintro r hs' ⟨rfl, rfl⟩; exact ⟨_, _, rfl, rfl, rfl⟩); obtain ⟨R, hR⟩ : ∃ R, lstT F t = R := ⟨_, rfl⟩; rw [hR]; unfold lstT at hR; unfold erT at c1; obtain ⟨A, n⟩ := t; simp only at hn hR c1 c2; by_cases h1 : n ∈ F
  · rw [if_pos h1] at hR c1; subst hR; simp -implicitDefEqProofs [initG, takeH, putH, tg, ]; refine givB [1000000, 1000001, 1000002] 1000000 c1 (by simp [initG, tg]) rfl (by simp) ?_; rintro r hs' ⟨rfl, rfl⟩; simp -implicitDefEqProofs [initG, takeH, putH, tg, ]; exact ⟨[.d (.sl []), .d (.int .i64 30)], [1000000, 1000001, 1000002], by simp, by simp [initG, tg, isH], by simp [resDs, resD], by simp, by simp [initG, tg]⟩
  · rw [if_neg h1] at hR c1; subst hR; simp -implicitDefEqProofs [initG, takeH, putH, tg, ]; refine givB [1000000, 1000001, 1000002] 1000000 c1 (by simp [initG, tg]) rfl (by simp) ?_; rintro r hs' ⟨rfl, rfl⟩; simp -implicitDefEqProofs [initG, takeH, putH, tg, ]; refine givB [1000000, 1000001, 1000002] 1000000 c2 (by simp [initG, tg]) rfl (by simp) ?_; rintro r hs' ⟨rfl, rfl⟩; simp -implicitDefEqProofs [initG, takeH, putH, tg, ]; exact ⟨[.d (.sl (A.map accD)), .d (.int .i64 0)], [1000000, 1000001, 1000002], by simp, by simp [initG, tg, isH], by simp [resDs, resD], by simp, by simp [initG, tg]⟩
def ints (l : List Int) : D := .sl (l.map (.int .i64))
def NtI (F : List Int) (k : Nat) (τ : St) : Prop := ∃ p u1 u2, τ 10 = .d (ints F) ∧ τ 11 = .d (.int .i64 F.length) ∧ τ 12 = .d (.int .i64 k) ∧ τ 3 = .d (.raw (va p)) ∧ [1000000, 1000001, 1000002].map τ = tg p u1 u2 (F.take k) ([], 0)
theorem newTarget_fn (F : List Int) (hF : F.length < 1000000) : CtrG prog 11 [.d (ints F)] [] (fun r hs' => ∃ p u1 u2, r = .d (.raw (va p)) ∧ hs' = tg p u1 u2 F ([], 0)) := by
  refine fn_of_vwpG (fun i => i == 1000009) (by kernel_rfl) func11 (by kernel_rfl) rfl rfl (nbl rfl) (by kernel_rfl) rfl ?_; simp -implicitDefEqProofs [initG, ints]; refine makeK 9 1000001 (by simp [initG]) (fun u1 => ?_); simp -implicitDefEqProofs [initG, ]; refine makeK 3 1000002 (by simp [initG]) (fun u2 => ?_); simp -implicitDefEqProofs [initG, ]; refine ⟨1000000, by simp [initG], fun p => ?_⟩; simp -implicitDefEqProofs [initG, ]; refine loopN F.length (NtI F) ⟨p, u1, u2, by simp [initG, ints], by simp [initG], by simp [initG], by simp [initG], by simp [initG, tg, FM, mapK]⟩ ?_; rintro k τ hk ⟨p, u1, u2, g10, g11, g12, g3, gH⟩; simp only [tg, List.map_cons, List.map_nil, List.cons.injEq, and_true] at gH g10; obtain ⟨gA, gB, gC⟩ := gH; by_cases hlt : k < F.length
  · have hlt' : (k : Int) < F.length := (by omega); have hs : FM (F.take (k + 1)) = mset (FM (F.take k)) (.int .i64 F[k]) (.bool true) := by rw [take_s hlt, FM_snoc]
    generalize hx : F[k] = x at *; simp -implicitDefEqProofs [g10, g11, g12, g3, gA, gB, gC, hlt, hlt', hx, ints]; refine rawFd (e := 74) (ds := [.raw (.map (some u1)), .raw (.map (some u2)), .int .i64 (0)]) 1000000 (by simp [g10, g11, g12, g3, gA, gB, gC]) (by omega) (by simp) (by kernel_rfl) ?_; simp -implicitDefEqProofs [g10, g11, g12, g3, gA, gB, gC]; refine updK (E := none) (m := FM (F.take k)) 1000002 map72 (by simp [gC]) (fit_int3 x) (FM (F.take (k + 1))) (by rw [hs]) ?_; simp -implicitDefEqProofs [g10, g11, g12, g3, gA, gB, gC]; (repeat refine ai (by omega) ?_); exact again hlt ⟨p, u1, u2, by simp [g10, ints], by simp [g11], by simp, by simp [g3], by simp [gA, gB, gC, tg]⟩
  · have hlt' : ¬ (k : Int) < F.length := (by omega); obtain rfl : k = F.length := by omega
    rw [ttl (by omega)] at gC; simp -implicitDefEqProofs [g10, g11, g12, g3, gA, gB, gC, hlt, hlt']; exact ⟨.d (.raw (va p)), [1000000, 1000001, 1000002], by simp, by simp [gA, gB, gC, tg, isH], by simp [ResG], p, rfl, u1, u2, by simp [gA, gB, gC, tg]⟩
def cloN (a : Acc) : Nat := if a.2.1 then 81 else 82
def cloD (a : Acc) : D := .clo (cloN a) [.ref (accD a)]
def wshD (w : Wsh) : D := .agg [accD w.1, .int .i64 w.2, cloD w.1]
@[simp] theorem width_wshD (w : Wsh) : width (wshD w) = 5 := rfl
@[simp] theorem isAgg_wshD (w : Wsh) : (wshD w).isAgg = true := rfl
@[simp] theorem width_attsR (l : List Att) : width (atts l) = 1 := rfl
@[simp] theorem isAgg_attsR (l : List Att) : (atts l).isAgg = false := rfl
@[simp] theorem width_cloD (a : Acc) : width (cloD a) = 1 := rfl
@[simp] theorem isAgg_cloD (a : Acc) : (cloD a).isAgg = false := rfl
theorem calling_fn (a : Acc) : Ctr prog 55 [.d (accD a)] (.d (cloD a)) := by
  refine fv (fun _ => false) func55 (by kernel_rfl) rfl rfl rfl rfl rfl ?_; obtain ⟨s, b, l⟩ := a; cases b
  · simp -implicitDefEqProofs [accD, atts]; simp [cloD, cloN, accD, atts]
  · simp -implicitDefEqProofs [accD, atts]; simp [cloD, cloN, accD, atts]
theorem callW_fn (p u1 u2 : Nat) (F : List Int) (t : TSt) (hn : 0 ≤ t.2 ∧ t.2 < 1000000) (hO : OrdK aK t.1) (a : Acc) (ha : AccF a) :
    CtrG prog (cloN a) ([.d (.raw (va p))] ++ [D.ref (accD a)].map .d) (tg p u1 u2 F t) (fun r hs' => r = .d (.int .i64 (callW F t a).2) ∧ hs' = tg p u1 u2 F (callW F t a).1) := by
  unfold callW cloN; cases hb : a.2.1 with
  | true =>
    have c1 := tput_fn p u1 u2 F t hn hO a ha; simp only [if_true]; refine fn_of_vwpG (fun i => i == 5000006) (by kernel_rfl) func81 (by kernel_rfl) rfl rfl (nbl rfl) (by kernel_rfl) rfl ?_; generalize putT F t a = R at *; simp only [accD, atts] at c1 ⊢; simp -implicitDefEqProofs [initG, takeH, putH, tg, ]; refine givB [1000000, 1000001, 1000002] 1000000 c1 (by simp [initG, tg]) rfl (by simp) ?_; rintro r hs' ⟨rfl, rfl⟩; simp -implicitDefEqProofs [initG, takeH, putH, tg, ]; exact ⟨.d (.int .i64 R.2), [1000000, 1000001, 1000002], by simp, by simp [initG, tg, isH], by simp [ResG], by simp, by simp [initG, tg]⟩
  | false =>
    have c1 := tdis_fn p u1 u2 F t hn hO a.1; simp only [Bool.false_eq_true, if_false]; refine fn_of_vwpG (fun i => i == 5000008) (by kernel_rfl) func82 (by kernel_rfl) rfl rfl (nbl rfl) (by kernel_rfl) rfl ?_; generalize disT F t a.1 = R at *; obtain ⟨t2, e⟩ := R; simp only [accD, atts] at c1 ⊢; by_cases he : e = 6
    · subst he; simp -implicitDefEqProofs [initG, takeH, putH, tg, ]; refine givB [1000000, 1000001, 1000002] 1000000 c1 (by simp [initG, tg]) rfl (by simp) ?_; rintro r hs' ⟨rfl, rfl⟩; simp -implicitDefEqProofs [initG, takeH, putH, tg, ]; exact ⟨.d (.int .i64 0), [1000000, 1000001, 1000002], by simp, by simp [initG, tg, isH], by simp [ResG], by simp, by simp [initG, tg]⟩
    · simp only [he, if_false]; simp -implicitDefEqProofs [initG, takeH, putH, tg, ]; refine givB [1000000, 1000001, 1000002] 1000000 c1 (by simp [initG, tg]) rfl (by simp) ?_; rintro r hs' ⟨rfl, rfl⟩; simp -implicitDefEqProofs [initG, takeH, putH, tg, he]; exact ⟨.d (.int .i64 e), [1000000, 1000001, 1000002], by simp, by simp [initG, tg, isH], by simp [ResG], by simp, by simp [initG, tg]⟩
def sy (p u : Nat) (hd : Value) (dl : Int) (s : SSt) : List AV :=
  [.hb (va p) 78 (.agg [.int .i64 dl, .raw (.map (some u)), .raw hd]), .hm (.map (some u)) 9 (mapK wK wshD s.1) none, .hs hd 9 (s.2.map .str)]
def SYP (p u : Nat) (dl : Int) (s : SSt) (hs : List AV) : Prop := ∃ hd, hs = sy p u hd dl s
theorem sready_fn (p u : Nat) (hd : Value) (dl : Int) (s : SSt) : CtrG prog 53 [.d (.raw (va p))] (sy p u hd dl s) (fun r hs' => r = .d (.bool true) ∧ hs' = sy p u hd dl s) := by
  refine fn_of_vwpG (fun _ => false) (by kernel_rfl) func53 (by kernel_rfl) rfl rfl (nbl rfl) (by kernel_rfl) rfl ?_; simp -implicitDefEqProofs [initG, takeH, putH, sy, ]; refine rawFd (e := 78) (ds := [.int .i64 dl, .raw (.map (some u)), .raw hd]) 1000000 (by simp [initG]) (by omega) (by simp) (by kernel_rfl) ?_; simp -implicitDefEqProofs [initG]; exact ⟨.d (.bool true), [1000000, 1000001, 1000002], by simp, by simp [initG, sy, isH], by simp [ResG], by simp, by simp [initG, sy]⟩
theorem sready0_fn : Ctr prog 53 [.d .nilp] (.d (.bool false)) := by
  refine fv (fun _ => false) func53 (by kernel_rfl) rfl rfl rfl rfl rfl ?_; simp -implicitDefEqProofs
theorem sset_fn (p u : Nat) (hd : Value) (dl : Int) (s : SSt) (hO : OrdK wK s.1) (hq : s.2.length < 900000) (a : Acc) (due : Int) :
    CtrG prog 54 [.d (.raw (va p)), .d (wshD (a, due))] (sy p u hd dl s) (fun r hs' => r = .d (.int .i64 (setS s a due).2) ∧ SYP p u dl (setS s a due).1 hs') := by
  refine fn_of_vwpG (fun i => i == 5000041) (by kernel_rfl) func54 (by kernel_rfl) rfl rfl (nbl rfl) (by kernel_rfl) rfl ?_; have hm := mget_K (k := wK) (v := wshD) s.1 a.1; have hp := mset_K (v := wshD) hO (a, due); have c1 := CtrG.lend (pre := []) (post := [.d (.str a.1)]) (u := hd) (e := 9) (contains_fn s.2 a.1 (by omega)) (by simp) rfl; obtain ⟨R, hR⟩ : ∃ R, setS s a due = R := ⟨_, rfl⟩; rw [hR]; unfold setS at hR; rw [hasK_get] at hR; obtain ⟨V, q⟩ := s; have hA : accD a = .agg [.str a.1, .bool a.2.1, atts a.2.2] := rfl; have hC : cloD a = .clo (cloN a) [.ref (accD a)] := rfl; simp only [List.nil_append, strs] at hq hm hR hp c1; have hw : wshD (a, due) = .agg [accD a, .int .i64 due, cloD a] := rfl; cases hg : getK wK a.1 V with
  | none =>
    rw [hg] at hm hR; by_cases h3 : 256 ≤ V.length
    · have h3' : (256 : Int) ≤ V.length := (by omega); rw [if_pos ⟨by simp, h3⟩] at hR; subst hR; simp -implicitDefEqProofs [initG, takeH, putH, sy, hw, hA]; refine rawFd (e := 78) (ds := [.int .i64 dl, .raw (.map (some u)), .raw hd]) 1000000 (by simp [initG]) (by omega) (by simp) (by kernel_rfl) ?_; simp -implicitDefEqProofs [initG]; refine lookK (m := mapK wK wshD V) (E := none) 1000001 (by omega) map76 (by simp [initG]) (fit_str9 _) Tryz.zd_97 hm ?_; simp -implicitDefEqProofs [initG, ]; refine rawFd (e := 78) (ds := [.int .i64 dl, .raw (.map (some u)), .raw hd]) 1000000 (by simp [initG]) (by omega) (by simp) (by kernel_rfl) ?_; simp -implicitDefEqProofs [initG]; refine lenK (m := mapK wK wshD V) (E := none) 1000001 (by omega) map76 (by simp [initG]) ?_; simp -implicitDefEqProofs [initG, mapK_len, h3, h3']; exact ⟨.d (.int .i64 3), [1000000, 1000001, 1000002], by simp, by simp [initG, sy, isH], by simp [ResG], by simp, hd, by simp [initG, sy]⟩
    · have h3' : ¬ (256 : Int) ≤ V.length := (by omega); rw [if_neg (by simp [h3])] at hR; subst hR; simp -implicitDefEqProofs [initG, takeH, putH, sy, hw, hA]; refine rawFd (e := 78) (ds := [.int .i64 dl, .raw (.map (some u)), .raw hd]) 1000000 (by simp [initG]) (by omega) (by simp) (by kernel_rfl) ?_; simp -implicitDefEqProofs [initG]; refine lookK (m := mapK wK wshD V) (E := none) 1000001 (by omega) map76 (by simp [initG]) (fit_str9 _) Tryz.zd_97 hm ?_; simp -implicitDefEqProofs [initG, ]; refine rawFd (e := 78) (ds := [.int .i64 dl, .raw (.map (some u)), .raw hd]) 1000000 (by simp [initG]) (by omega) (by simp) (by kernel_rfl) ?_; simp -implicitDefEqProofs [initG]; refine lenK (m := mapK wK wshD V) (E := none) 1000001 (by omega) map76 (by simp [initG]) ?_; simp -implicitDefEqProofs [initG, mapK_len, h3, h3']; refine rawFd (e := 78) (ds := [.int .i64 dl, .raw (.map (some u)), .raw hd]) 1000000 (by simp [initG]) (by omega) (by simp) (by kernel_rfl) ?_; simp -implicitDefEqProofs [initG]; refine updK (E := none) (m := mapK wK wshD V) 1000001 map76 (by simp [initG]) (fit_str9 _) _ hp ?_; simp -implicitDefEqProofs [initG, ]; refine rawFd (e := 78) (ds := [.int .i64 dl, .raw (.map (some u)), .raw hd]) 1000000 (by simp [initG]) (by omega) (by simp) (by kernel_rfl) ?_; simp -implicitDefEqProofs [initG]; refine givB [1000002] 1000010 c1 (by simp [initG, initG]) rfl (by simp) ?_; rintro r hs' ⟨rfl, rfl⟩; by_cases h4 : a.1 ∈ q
      · simp -implicitDefEqProofs [initG, takeH, putH, sy, h4]; exact ⟨.d (.int .i64 0), [1000000, 1000001, 1000002], by simp, by simp [initG, sy, isH], by simp [ResG], by simp, hd, by simp [initG, sy]⟩
      · simp -implicitDefEqProofs [initG, takeH, putH, sy, h4]; refine rawFd (e := 78) (ds := [.int .i64 dl, .raw (.map (some u)), .raw hd]) 1000000 (by simp [initG]) (by omega) (by simp) (by kernel_rfl) ?_; simp -implicitDefEqProofs [initG]; refine appK (l := q.map .str) 1000002 (by simp [initG]) (by simp) (by simp; omega) (by simp; omega) (fun A c => ?_); simp -implicitDefEqProofs [initG, ]; refine rawFd (e := 78) (ds := [.int .i64 dl, .raw (.map (some u)), .raw hd]) 1000000 (by simp [initG]) (by omega) (by simp) (by kernel_rfl) ?_; simp -implicitDefEqProofs [initG]; exact ⟨.d (.int .i64 0), [1000000, 1000001, 1000002], by simp, by simp [initG, sy, isH], by simp [ResG], by simp, .slice A (q.length + 1) c, by simp [initG, sy]⟩
  | some x =>
    have hx : wshD x = .agg [accD x.1, .int .i64 x.2, cloD x.1] := rfl; have hxA : accD x.1 = .agg [.str x.1.1, .bool x.1.2.1, atts x.1.2.2] := rfl; rw [hg] at hm hR; rw [if_neg (by simp)] at hR; subst hR; simp -implicitDefEqProofs [initG, takeH, putH, sy, hw, hA]; refine rawFd (e := 78) (ds := [.int .i64 dl, .raw (.map (some u)), .raw hd]) 1000000 (by simp [initG]) (by omega) (by simp) (by kernel_rfl) ?_; simp -implicitDefEqProofs [initG]; refine lookK (m := mapK wK wshD V) (E := none) 1000001 (by omega) map76 (by simp [initG]) (fit_str9 _) Tryz.zd_97 hm ?_; simp -implicitDefEqProofs [initG, hx, hxA]; refine rawFd (e := 78) (ds := [.int .i64 dl, .raw (.map (some u)), .raw hd]) 1000000 (by simp [initG]) (by omega) (by simp) (by kernel_rfl) ?_; simp -implicitDefEqProofs [initG]; refine updK (E := none) (m := mapK wK wshD V) 1000001 map76 (by simp [initG]) (fit_str9 _) _ hp ?_; simp -implicitDefEqProofs [initG, ]; refine rawFd (e := 78) (ds := [.int .i64 dl, .raw (.map (some u)), .raw hd]) 1000000 (by simp [initG]) (by omega) (by simp) (by kernel_rfl) ?_; simp -implicitDefEqProofs [initG]; refine givB [1000002] 1000010 c1 (by simp [initG, initG]) rfl (by simp) ?_; rintro r hs' ⟨rfl, rfl⟩; by_cases h4 : a.1 ∈ q
    · simp -implicitDefEqProofs [initG, takeH, putH, sy, h4]; exact ⟨.d (.int .i64 0), [1000000, 1000001, 1000002], by simp, by simp [initG, sy, isH], by simp [ResG], by simp, hd, by simp [initG, sy]⟩
    · simp -implicitDefEqProofs [initG, takeH, putH, sy, h4]; refine rawFd (e := 78) (ds := [.int .i64 dl, .raw (.map (some u)), .raw hd]) 1000000 (by simp [initG]) (by omega) (by simp) (by kernel_rfl) ?_; simp -implicitDefEqProofs [initG]; refine appK (l := q.map .str) 1000002 (by simp [initG]) (by simp) (by simp; omega) (by simp; omega) (fun A c => ?_); simp -implicitDefEqProofs [initG, ]; refine rawFd (e := 78) (ds := [.int .i64 dl, .raw (.map (some u)), .raw hd]) 1000000 (by simp [initG]) (by omega) (by simp) (by kernel_rfl) ?_; simp -implicitDefEqProofs [initG]; exact ⟨.d (.int .i64 0), [1000000, 1000001, 1000002], by simp, by simp [initG, sy, isH], by simp [ResG], by simp, .slice A (q.length + 1) c, by simp [initG, sy]⟩
theorem swant_fn (p u : Nat) (hd : Value) (dl : Int) (s : SSt) (hO : OrdK wK s.1) (hq : s.2.length < 900000) (a : Acc) (ha : AccF a) :
    CtrG prog 24 [.d (.raw (va p)), .d (accD a)] (sy p u hd dl s) (fun r hs' => r = .d (.int .i64 (wantS s a).2) ∧ SYP p u dl (wantS s a).1 hs') := by
  refine fn_of_vwpG (fun i => i == 5000008 || i == 5000022) (by kernel_rfl) func24 (by kernel_rfl) rfl rfl (nbl rfl) (by kernel_rfl) rfl ?_; have c1 := sready_fn p u hd dl s; have c2 := formE_fn a ha.id ha.fit.1 ha.fitV; have c3 := own_fn a ha.fit; have c4 := calling_fn (ownA a); have c5 := sset_fn p u hd dl s hO hq (ownA a) 0; obtain ⟨R, hR⟩ : ∃ R, wantS s a = R := ⟨_, rfl⟩; rw [hR]; unfold wantS at hR; have hA : accD a = .agg [.str a.1, .bool a.2.1, atts a.2.2] := rfl; have hA2 : accD (ownA a) = .agg [.str a.1, .bool a.2.1, atts (sortedL a.2.2)] := rfl; have hw : wshD (ownA a, 0) = .agg [accD (ownA a), .int .i64 0, cloD (ownA a)] := rfl; rw [hw] at c5; by_cases h1 : formE a = 0
  · rw [if_neg (by simp [h1])] at hR; rw [h1] at c2; rw [hR] at c5; generalize hcl : cloD (ownA a) = cl at *; have hwc : width cl = 1 := by rw [← hcl]; rfl
    have hac : cl.isAgg = false := by rw [← hcl]; rfl
    rw [hA] at c2 c3; rw [hA2] at c3 c4 c5; simp -implicitDefEqProofs [initG, takeH, putH, sy, hA]; refine givB [1000000, 1000001, 1000002] 1000000 c1 (by simp [initG, sy]) rfl (by simp) ?_; rintro r hs' ⟨rfl, rfl⟩; simp -implicitDefEqProofs [initG, takeH, putH, sy, ]; refine callK c2 ?_; simp -implicitDefEqProofs [initG, ]; refine callK c3 ?_; simp -implicitDefEqProofs [initG, ]; refine callP c4 ?_; simp -implicitDefEqProofs [initG, hwc, hac]; refine givB [1000000, 1000001, 1000002] 1000000 c5 (by simp [initG, sy]) rfl (by simp) ?_; rintro r hs' ⟨rfl, hd2, rfl⟩; simp -implicitDefEqProofs [initG, takeH, putH, sy, ]; exact ⟨.d (.int .i64 R.2), [1000000, 1000001, 1000002], by simp, by simp [initG, sy, isH], by simp [ResG], by simp, hd2, by simp [initG, sy]⟩
  · rw [if_pos h1] at hR; subst hR; generalize formE a = fe at *; rw [hA] at c2; simp -implicitDefEqProofs [initG, takeH, putH, sy, hA]; refine givB [1000000, 1000001, 1000002] 1000000 c1 (by simp [initG, sy]) rfl (by simp) ?_; rintro r hs' ⟨rfl, rfl⟩; simp -implicitDefEqProofs [initG, takeH, putH, sy, ]; refine callK c2 ?_; simp -implicitDefEqProofs [initG, h1]; exact ⟨.d (.int .i64 fe), [1000000, 1000001, 1000002], by simp, by simp [initG, sy, isH], by simp [ResG], by simp, hd, by simp [initG, sy]⟩
theorem sleave_fn (p u : Nat) (hd : Value) (dl : Int) (s : SSt) (hO : OrdK wK s.1) (hq : s.2.length < 900000) (i : Str) (hi : List.length i < 1000000) (now : Int) (hn : -9223372036854775808 ≤ now ∧ now < 9223372036854775808) :
    CtrG prog 26 [.d (.raw (va p)), .d (.str i), .d (.int .i64 now)] (sy p u hd dl s) (fun r hs' => r = .d (.int .i64 (leaveS s i now).2) ∧ SYP p u dl (leaveS s i now).1 hs') := by
  refine fn_of_vwpG (fun i => i == 5000009 || i == 5000023) (by kernel_rfl) func26 (by kernel_rfl) rfl rfl (nbl rfl) (by kernel_rfl) rfl ?_; have c1 := sready_fn p u hd dl s; have c2 := fword_fn i hi; have c3 := clockAdd_fn now 0 hn (by omega); have c4 := calling_fn (i, false, []); have c5 := sset_fn p u hd dl s hO hq (i, false, []) (addC now 0); obtain ⟨R, hR⟩ : ∃ R, leaveS s i now = R := ⟨_, rfl⟩; rw [hR]; unfold leaveS at hR; have hA : accD (i, false, []) = .agg [.str i, .bool false, .sl []] := rfl; have hw : wshD ((i, false, []), addC now 0) = .agg [accD (i, false, []), .int .i64 (addC now 0), cloD (i, false, [])] := rfl; rw [hw] at c5; cases h1 : wordB i with
  | true =>
    rw [h1] at hR c2; rw [if_neg (by simp)] at hR; rw [hR] at c5; generalize hcl : cloD (i, false, []) = cl at *; have hwc : width cl = 1 := by rw [← hcl]; rfl
    have hac : cl.isAgg = false := by rw [← hcl]; rfl
    generalize addC now 0 = due at *; rw [hA] at c4 c5; simp -implicitDefEqProofs [initG, takeH, putH, sy, ]; refine givB [1000000, 1000001, 1000002] 1000000 c1 (by simp [initG, sy]) rfl (by simp) ?_; rintro r hs' ⟨rfl, rfl⟩; simp -implicitDefEqProofs [initG, takeH, putH, sy, ]; refine callK c2 ?_; simp -implicitDefEqProofs [initG, ]; refine callP c3 ?_; simp -implicitDefEqProofs [initG, ]; refine callP c4 ?_; simp -implicitDefEqProofs [initG, hwc, hac]; refine givB [1000000, 1000001, 1000002] 1000000 c5 (by simp [initG, sy]) rfl (by simp) ?_; rintro r hs' ⟨rfl, hd2, rfl⟩; simp -implicitDefEqProofs [initG, takeH, putH, sy, ]; exact ⟨.d (.int .i64 R.2), [1000000, 1000001, 1000002], by simp, by simp [initG, sy, isH], by simp [ResG], by simp, hd2, by simp [initG, sy]⟩
  | false =>
    rw [h1] at hR c2; rw [if_pos rfl] at hR; subst hR; simp -implicitDefEqProofs [initG, takeH, putH, sy, ]; refine givB [1000000, 1000001, 1000002] 1000000 c1 (by simp [initG, sy]) rfl (by simp) ?_; rintro r hs' ⟨rfl, rfl⟩; simp -implicitDefEqProofs [initG, takeH, putH, sy, ]; refine callK c2 ?_; simp -implicitDefEqProofs [initG, ]; exact ⟨.d (.int .i64 5), [1000000, 1000001, 1000002], by simp, by simp [initG, sy, isH], by simp [ResG], by simp, hd, by simp [initG, sy]⟩
theorem sleft_fn (p u : Nat) (hd : Value) (dl : Int) (s : SSt) (hq : s.2.length < 1000000) :
    CtrG prog 37 [.d (.raw (va p))] (sy p u hd dl s) (fun r hs' => r = .own true 9 (s.2.map .str) ∧ hs' = sy p u hd dl s) := by
  refine fn_of_vwpG (fun i => i == 5000004 || i == 5000010 || i == 2) (by kernel_rfl) func37 (by kernel_rfl) rfl rfl (nbl rfl) (by kernel_rfl) rfl ?_; have c1 := sready_fn p u hd dl s; have c2 := CtrG.lend (pre := []) (post := []) (u := hd) (e := 9) (clone_fn s.2 hq) (by simp) (by simp [flatA, flatD]); obtain ⟨V, q⟩ := s; simp only [List.nil_append] at c2 hq; simp -implicitDefEqProofs [initG, takeH, putH, sy, ]; refine givB [1000000, 1000001, 1000002] 1000000 c1 (by simp [initG, sy]) rfl (by simp) ?_; rintro r hs' ⟨rfl, rfl⟩; simp -implicitDefEqProofs [initG, takeH, putH, sy, ]; refine rawFd (e := 78) (ds := [.int .i64 dl, .raw (.map (some u)), .raw hd]) 1000000 (by simp [initG]) (by omega) (by simp) (by kernel_rfl) ?_; simp -implicitDefEqProofs [initG]; refine givB [1000002] 1000010 c2 (by simp [initG, initG]) rfl (by simp) ?_; rintro r hs' ⟨rfl, rfl⟩; simp -implicitDefEqProofs [initG, takeH, putH, sy, ]; exact ⟨.own true 9 (q.map .str), [1000000, 1000001, 1000002], by simp, by simp [initG, sy, isH], by simp [ResG], by simp, by simp [initG, sy]⟩
def nsP (dl : Int) (r : AV) (hs : List AV) : Prop := (dl < 1 ∧ r = .tup [.d .nilp, .d (.int .i64 2)] ∧ hs = [.hs (.slice none 0 0) 9 []]) ∨ (1 ≤ dl ∧ ∃ p u, r = .tup [.d (.raw (va p)), .d (.int .i64 0)] ∧ hs = sy p u (.slice none 0 0) dl ([], []))
theorem newSync0_fn (dl : Int) : CtrG prog 13 [.d (.int .i64 dl)] [] (fun r hs => (dl < 1 ∧ r = .tup [.d .nilp, .d (.int .i64 2)] ∧ hs = []) ∨ (1 ≤ dl ∧ ∃ p u, r = .tup [.d (.raw (va p)), .d (.int .i64 0)] ∧ hs = (sy p u (.slice none 0 0) dl ([], [])).take 2)) := by
  refine fn_of_vwpGN (rs := [.tmp 2, .tmp 3]) (fun i => i == 1000008 || i == 1000009) (by kernel_rfl) func13 (by kernel_rfl) rfl rfl (by simp) (nbl rfl) (by kernel_rfl) rfl ?_; by_cases h1 : dl < 1
  · simp -implicitDefEqProofs [initG, h1]; exact ⟨[.d .nilp, .d (.int .i64 2)], [], by simp, by simp, by simp [resDs, resD], .inl ⟨rfl, rfl⟩⟩
  · have h78 : structDX prog true 78 = some [.int .i64 0, .raw (.map none), .raw (.slice none 0 0)] := by kernel_rfl
    simp -implicitDefEqProofs [initG, h1, h78]; refine makeK 9 1000001 (by simp [initG]) (fun u => ?_); simp -implicitDefEqProofs [initG, h78]; refine ⟨1000000, by simp [initG], fun p => ?_⟩; simp -implicitDefEqProofs [initG, ]; exact ⟨[.d (.raw (va p)), .d (.int .i64 0)], [1000000, 1000001], by simp, by simp [initG, isH], by simp [resDs, resD, initG], ⟨by omega, p, rfl, u, by simp [initG, sy, mapK]⟩⟩
theorem newSync_fn (dl : Int) : CtrG prog 13 [.d (.int .i64 dl)] [] (nsP dl) := by
  refine CtrG.addNil (e := 9) ⟨1, by kernel_rfl⟩ (newSync0_fn dl) ?_; rintro r hs' (⟨h1, rfl, rfl⟩ | ⟨h1, p, u, rfl, rfl⟩)
  · exact .inl ⟨h1, rfl, rfl⟩
  · exact .inr ⟨h1, p, u, rfl, rfl⟩
end Go.Proofs.Tz
namespace Go.Proofs.Tz
open Go.Vw Go.Lib
structure StB (t0 : TSt) (q : List Str) (k : Nat) (r : StK) : Prop where
  ord : OrdK wK r.V
  acc : ∀ w ∈ r.V, AccB w.1
  due : ∀ w ∈ r.V, 0 ≤ w.2 ∧ w.2 ≤ 1099511627776
  sub : ∀ id ∈ q, hasK wK id r.V = true
  ti : TI4 r.t.1
  n0 : 0 ≤ r.n ∧ r.n ≤ k
  calls : r.t.2 = t0.2 + r.n
  left : r.left.length ≤ k
  len : r.t.1.length ≤ t0.1.length + k
theorem putT_len {F : List Int} {t : TSt} (h : TI4 t.1) (a : Acc) : (putT F t a).1.1.length ≤ t.1.length + 1 := by
  unfold putT; split
  · exact Nat.le_succ _
  · split
    · exact Nat.le_succ _
    · split
      · exact Nat.le_succ _
      · exact putK_le h.ord
theorem hasK_put {α : Type} {k : α → Str} {a : α} {l : List α} {s : Str} (h : hasK k s l = true) : hasK k s (putK k a l) = true := by
  obtain ⟨w, hw, e⟩ := hasK_true h; by_cases e2 : k w = k a
  · exact hasK_iff.2 (List.mem_map.2 ⟨a, mem_putK.2 (.inl rfl), by rw [← e, e2]⟩)
  · exact hasK_iff.2 (List.mem_map.2 ⟨w, mem_putK.2 (.inr ⟨hw, e2⟩), e⟩)
theorem disT_len {F : List Int} {t : TSt} (h : TI4 t.1) (s : Str) : (disT F t s).1.1.length ≤ t.1.length := by
  unfold disT; split
  · exact Nat.le_refl _
  · split
    · exact Nat.le_refl _
    · rename_i a ha
      have h1 : hasK aK (aK (offA a)) t.1 = true := by
        have := getK_some ha; exact hasK_iff.2 (List.mem_map.2 ⟨a, this.1, rfl⟩)
      simp only; rw [putK_len h.ord, h1]; simp
theorem callW_len {F : List Int} {t : TSt} (h : TI4 t.1) (a : Acc) : (callW F t a).1.1.length ≤ t.1.length + 1 := by
  unfold callW; split
  · exact putT_len h a
  · exact Nat.le_succ_of_le (disT_len h a.1)
theorem stepO_ok {F : List Int} {now delay : Int} {t0 : TSt} {q : List Str} {k : Nat} {r : StK} (h : StB t0 q k r) {id : Str} (hid : id ∈ q) : StB t0 q (k + 1) (stepO F now delay r id) ∧ ∃ w, getK wK id r.V = some w := by
  have hs := h.sub id hid; rw [hasK_get] at hs; obtain ⟨w, hw⟩ := Option.isSome_iff_exists.1 hs; refine ⟨?_, w, hw⟩; have hwm := (getK_some hw).1; have hB := h.acc w hwm; unfold stepO; rw [hw]; simp only; have hl : (r.left ++ [id]).length ≤ k + 1 := by have := h.left; simp; omega
  have hc := callW_n F r.t w.1; have hcl := callW_len (F := F) h.ti w.1; have hn := h.n0; have hca := h.calls; have hle := h.left; have hlen := h.len; split
  · exact ⟨h.ord, h.acc, h.due, h.sub, h.ti, by simp only; omega, h.calls, hl, by simp only; omega⟩
  · split
    · exact ⟨h.ord, h.acc, h.due, h.sub, callW_ok h.ti hB, by simp only; omega, by simp only; omega, by simp only; omega, by simp only; omega⟩
    · refine ⟨putK_OrdK h.ord, fun x hx => (mem_putK.1 hx).elim (fun e => e ▸ hB) fun h2 => h.acc x h2.1, fun x hx => (mem_putK.1 hx).elim (fun e => e ▸ addC_b _ _) fun h2 => h.due x h2.1, fun i hi => hasK_put (h.sub i hi), callW_ok h.ti hB, by simp only; omega, by simp only; omega, hl, by simp only; omega⟩
def stepK (F : List Int) (now delay : Int) (t : TSt) (V : List Wsh) (q : List Str) (k : Nat) : StK := (q.take k).foldl (stepO F now delay) ⟨t, V, [], 0⟩
theorem stepK_zero {F : List Int} {now delay : Int} {t : TSt} {V : List Wsh} {q : List Str} : stepK F now delay t V q 0 = ⟨t, V, [], 0⟩ := by simp [stepK]
theorem stepK_succ {F : List Int} {now delay : Int} {t : TSt} {V : List Wsh} {q : List Str} {k : Nat} (h : k < q.length) : stepK F now delay t V q (k + 1) = stepO F now delay (stepK F now delay t V q k) q[k] := by
  unfold stepK; rw [take_s h, List.foldl_append]; rfl
theorem stepK_all {F : List Int} {now delay : Int} {t : TSt} {V : List Wsh} {q : List Str} : stepK F now delay t V q q.length = stepL F now delay t V q := by
  unfold stepK stepL; rw [ttl (Nat.le_refl _)]
theorem stepK_ok {F : List Int} {now delay : Int} {t : TSt} {V : List Wsh} {q : List Str} (hs : SI4 (V, q)) (ht : TI4 t.1) : ∀ k, k ≤ q.length → StB t q k (stepK F now delay t V q k)
  | 0, _ => by
    rw [stepK_zero]; exact ⟨hs.ord, hs.acc, hs.due, hs.sub, ht, by simp, by simp, by simp, by simp⟩
  | k + 1, hk => by
    rw [stepK_succ (by omega)]; exact (stepO_ok (stepK_ok hs ht k (by omega)) (gmm _)).1
end Go.Proofs.Tz
namespace Go.Proofs.Tz
open Go.Vw Go.RowKit Go.Proofs Go.Sort
theorem AccB.f {a : Acc} (h : AccB a) : AccF a := ⟨by have := word_len h.word; omega, h.fit, h.fitV⟩
def StI (p u : Nat) (hd : Value) (dl : Int) (p2 u1 u2 : Nat) (F : List Int) (now : Int) (t : TSt) (V : List Wsh) (q : List Str) (k : Nat) (τ : St) : Prop :=
  τ 1000020 = .undef ∧ τ 0 = .d (.raw (va p)) ∧ τ 1 = .d (.raw (va p2)) ∧ τ 2 = .d (.int .i64 now) ∧ τ 23 = .d (.raw hd) ∧ τ 24 = .d (.int .i64 q.length) ∧ τ 25 = .d (.int .i64 k) ∧ τ 7 = .d (.int .i64 (stepK F now dl t V q k).n) ∧ τ 8 = .own true 9 ((stepK F now dl t V q k).left.map .str) ∧
  [1000000, 1000001, 1000002, 1000003, 1000004, 1000005].map τ = sy p u hd dl ((stepK F now dl t V q k).V, q) ++ tg p2 u1 u2 F (stepK F now dl t V q k).t
theorem sstep_fn (p u : Nat) (hd : Value) (dl : Int) (hdl : -9223372036854775808 ≤ dl ∧ dl < 9223372036854775808) (V : List Wsh) (q : List Str) (hs : SI4 (V, q)) (hq : q.length < 10000) (p2 u1 u2 : Nat) (F : List Int) (t : TSt) (hn : 0 ≤ t.2 ∧ t.2 < 500000) (ht : TI4 t.1) (now : Int) (hnow : -9223372036854775808 ≤ now ∧ now < 9223372036854775808) :
    CtrG prog 28 [.d (.raw (va p)), .d (.raw (va p2)), .d (.int .i64 now)] (sy p u hd dl (V, q) ++ tg p2 u1 u2 F t)
      (fun r hs' => r = .d (.int .i64 (stepL F now dl t V q).n) ∧ ∃ hd2, hs' = sy p u hd2 dl ((stepL F now dl t V q).V, (stepL F now dl t V q).left) ++ tg p2 u1 u2 F (stepL F now dl t V q).t) := by
  refine CtrG.inShape (pre := [.hb (va p) 78 (.agg [.int .i64 dl, .raw (.map (some u)), .raw hd]), .hm (.map (some u)) 9 (mapK wK wshD V) none]) (post := tg p2 u1 u2 F t) (enters_of func28 (by kernel_rfl) rfl) ?_; rintro HA HC hhd; rw [List.length_map] at hhd
  show CtrG prog 28 _ (sy p u hd dl (V, q) ++ tg p2 u1 u2 F t) _
  refine fn_of_vwpG (fun i => i == 5000013 || i == 5000017 || i == 5000049 || i == 21000070 || i == 8 || i == 43 || i == 67) (by kernel_rfl) func28 (by kernel_rfl) rfl rfl (nbl rfl) (by kernel_rfl) rfl ?_; have c1 := sready_fn p u hd dl (V, q); have c2 := tready_fn p2 u1 u2 F t; subst hhd; simp -implicitDefEqProofs [initG, takeH, putH, sy, tg]; refine givB [1000000, 1000001, 1000002] 1000010 c1 (by simp [initG, sy]) rfl (by simp) ?_; rintro r hs' ⟨rfl, rfl⟩; simp -implicitDefEqProofs [initG, takeH, putH, sy, tg]; refine givB [1000003, 1000004, 1000005] 1000010 c2 (by simp [initG, tg]) rfl (by simp) ?_; rintro r hs' ⟨rfl, rfl⟩; simp -implicitDefEqProofs [initG, takeH, putH, sy, tg]; refine rawFd (e := 78) (ds := [.int .i64 dl, .raw (.map (some u)), .raw (.slice HA q.length HC)]) 1000000 (by simp [initG]) (by omega) (by simp) (by kernel_rfl) ?_; simp -implicitDefEqProofs [initG, ]; refine loopN q.length (StI p u (.slice HA q.length HC) dl p2 u1 u2 F now t V q) ⟨by simp [initG], by simp [initG], by simp [initG], by simp [initG], by simp [initG], by simp [initG], by simp [initG], by simp [initG, stepK_zero], by simp [initG, stepK_zero], by simp [initG, sy, tg, stepK_zero]⟩ ?_; rintro k τ hk ⟨gU, g0, g1, g2, g23, g24, g25, g7, g8, gH⟩; have hB := stepK_ok (F := F) (now := now) (delay := dl) hs ht k hk; simp only [tg, sy, List.map_cons, List.map_nil, List.cons_append, List.nil_append, List.cons.injEq, and_true] at gH; obtain ⟨gA, gB, gC, gD, gE, gF⟩ := gH; by_cases hlt : k < q.length
  · have hlt' : (k : Int) < q.length := (by omega); have hst := stepK_succ (F := F) (now := now) (delay := dl) (t := t) (V := V) hlt; obtain ⟨hB2, w, hw⟩ := stepO_ok (F := F) (now := now) (delay := dl) hB (gmm hlt); unfold stepO at hst; rw [hw] at hst; simp only at hst; have hqk : (q.map D.str)[k]? = some (.str q[k]) := (by simp [hlt]); generalize hx : q[k] = id at *; generalize stepK F now dl t V q k = r at *; have hwk := (getK_some hw); have hm := mget_K (k := wK) (v := wshD) r.V id; rw [hw] at hm; have hwB := hB.acc w hwk.1; have hdue := hB.due w hwk.1; have c3 := clockAdd_fn now 0 hnow (by omega); have c4 := clockAdd_fn now dl hnow hdl; have hnn := hB.n0; have hcc := hB.calls; have hll := hB.left; have c5 := callW_fn p2 u1 u2 F r.t (by omega) hB.ti.ord w.1 hwB.f; have hwD : wshD w = .agg [accD w.1, .int .i64 w.2, cloD w.1] := rfl; have hA : accD w.1 = .agg [.str w.1.1, .bool w.1.2.1, atts w.1.2.2] := rfl; simp -implicitDefEqProofs [gU, g0, g1, g2, g23, g24, g25, g7, g8, gA, gB, gC, gD, gE, gF, hlt, hlt']; refine rawIx (e' := 9) (l := q.map .str) 1000002 (by simp [gC]) (by omega) rfl (by simpa using hlt) ?_; simp -implicitDefEqProofs [gU, g0, g1, g2, g23, g24, g25, g7, g8, gA, gB, gC, gD, gE, gF, hlt, hx]; refine rawFd (e := 78) (ds := [.int .i64 dl, .raw (.map (some u)), .raw (.slice HA q.length HC)]) 1000000 (by simp [gA]) (by omega) (by simp) (by kernel_rfl) ?_; simp -implicitDefEqProofs [gU, g0, g1, g2, g23, g24, g25, g7, g8, gA, gB, gC, gD, gE, gF]; refine lookK (m := mapK wK wshD r.V) (E := none) 1000001 (by omega) map76 (by simp [gB]) (fit_str9 _) Tryz.zd_97 hm ?_; simp -implicitDefEqProofs [gU, g0, g1, g2, g23, g24, g25, g7, g8, gA, gB, gC, gD, gE, gF, hwD, hA]; refine callP c3 ?_; simp -implicitDefEqProofs [gU, g0, g1, g2, g23, g24, g25, g7, g8, gA, gB, gC, gD, gE, gF]; by_cases h1 : addC now 0 < w.2
    · rw [if_pos h1] at hst; simp -implicitDefEqProofs [gU, g0, g1, g2, g23, g24, g25, g7, g8, gA, gB, gC, gD, gE, gF, h1]; (repeat refine ai (by omega) ?_); exact again hlt ⟨by simp [gU], by simp [g0], by simp [g1], by simp [g2], by simp [g23], by simp [g24], by simp, by simp [hst, g7], by simp [hst], by simp [hst, gA, gB, gC, gD, gE, gF, sy, tg]⟩
    rw [if_neg h1] at hst; obtain ⟨C, hC⟩ : ∃ C, callW F r.t w.1 = C := ⟨_, rfl⟩; rw [hC] at c5 hst; obtain ⟨t2, e⟩ := C; simp only at c5 hst; have hcl : cloD w.1 = .clo (cloN w.1) [.ref (accD w.1)] := rfl; have hpp := mset_K (v := wshD) hB.ord (w.1, addC now dl); rw [show wK (w.1, addC now dl) = id from hwk.2] at hpp; by_cases h2 : e = 0
    · subst h2; rw [if_pos rfl] at hst; simp -implicitDefEqProofs [gU, g0, g1, g2, g23, g24, g25, g7, g8, gA, gB, gC, gD, gE, gF, h1, hcl]; refine ⟨by omega, ?_⟩; refine givB [1000003, 1000004, 1000005] 1000003 c5 (by simp [gD, gE, gF, tg]) rfl (by simp) ?_; rintro r hs' ⟨rfl, rfl⟩; simp -implicitDefEqProofs [gU, g0, g1, g2, g23, g24, g25, g7, g8, gA, gB, gC, gD, gE, gF, takeH, putH, tg]; (repeat refine ai (by omega) ?_); exact again hlt ⟨by simp [gU], by simp [g0], by simp [g1], by simp [g2], by simp [g23], by simp [g24], by simp, by simp [hst], by simp [hst, g8], by simp [hst, gA, gB, gC, sy, tg]⟩
    · rw [if_neg h2] at hst; simp -implicitDefEqProofs [gU, g0, g1, g2, g23, g24, g25, g7, g8, gA, gB, gC, gD, gE, gF, h1, hcl]; refine ⟨by omega, ?_⟩; refine givB [1000003, 1000004, 1000005] 1000003 c5 (by simp [gD, gE, gF, tg]) rfl (by simp) ?_; rintro r hs' ⟨rfl, rfl⟩; simp -implicitDefEqProofs [gU, g0, g1, g2, g23, g24, g25, g7, g8, gA, gB, gC, gD, gE, gF, takeH, putH, tg, h2]; refine rawFd (e := 78) (ds := [.int .i64 dl, .raw (.map (some u)), .raw (.slice HA q.length HC)]) 1000000 (by simp [gA]) (by omega) (by simp) (by kernel_rfl) ?_; simp -implicitDefEqProofs [gU, g0, g1, g2, g23, g24, g25, g7, g8, gA, gB, gC, gD, gE, gF]; refine callK c4 ?_; simp -implicitDefEqProofs [gU, g0, g1, g2, g23, g24, g25, g7, g8, gA, gB, gC, gD, gE, gF]; refine rawFd (e := 78) (ds := [.int .i64 dl, .raw (.map (some u)), .raw (.slice HA q.length HC)]) 1000000 (by simp [gA]) (by omega) (by simp) (by kernel_rfl) ?_; simp -implicitDefEqProofs [gU, g0, g1, g2, g23, g24, g25, g7, g8, gA, gB, gC, gD, gE, gF]; refine updK (E := none) (m := mapK wK wshD r.V) 1000001 map76 (by simp [gB]) (fit_str9 _) _ hpp ?_; simp -implicitDefEqProofs [gU, g0, g1, g2, g23, g24, g25, g7, g8, gA, gB, gC, gD, gE, gF]; (repeat refine ai (by omega) ?_); exact again hlt ⟨by simp [gU], by simp [g0], by simp [g1], by simp [g2], by simp [g23], by simp [g24], by simp, by simp [hst], by simp [hst], by simp [hst, gA, gC, sy, tg]⟩
  · have hlt' : ¬ (k : Int) < q.length := (by omega); obtain rfl : k = q.length := by omega
    rw [stepK_all] at g7 g8 gB gD gE; generalize stepL F now dl t V q = r at *; simp -implicitDefEqProofs [gU, g0, g1, g2, g23, g24, g25, g7, g8, gA, gB, gC, gD, gE, gF, hlt, hlt']; refine namK 1000020 (by omega) (by simp [gU]) (fun A c => ?_); simp -implicitDefEqProofs [gU, g0, g1, g2, g23, g24, g25, g7, g8, gA, gB, gC, gD, gE, gF]; refine rawFd (e := 78) (ds := [.int .i64 dl, .raw (.map (some u)), .raw (.slice HA q.length HC)]) 1000000 (by simp [gA]) (by omega) (by simp) (by kernel_rfl) ?_; simp -implicitDefEqProofs [gU, g0, g1, g2, g23, g24, g25, g7, g8, gA, gB, gC, gD, gE, gF]; exact ⟨.d (.int .i64 r.n), [1000000, 1000001, 1000020, 1000003, 1000004, 1000005], by simp, by simp [gA, gB, gC, gD, gE, gF, isH], by simp [ResG], rfl, .slice A r.left.length c, by simp [gA, gB, gC, gD, gE, gF, sy, tg]⟩
end Go.Proofs.Tz