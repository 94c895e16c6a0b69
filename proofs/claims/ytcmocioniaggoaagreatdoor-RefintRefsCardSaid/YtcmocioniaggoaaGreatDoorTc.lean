/-
  What the functions that the statements about layer 13 (refint) reach compute, part 3 of 5: contracts and plain laws, for lists and strings of bounded size (each theorem states its bound).
-/
import Derived.Test.YtcmocioniaggoaaGreatDoorTb
import Derived.Test.YtcmocioniaggoaaGreatDoorWc
import Derived.Test.YtcmocioniaggoaaGreatDoorTa

set_option linter.unusedSimpArgs false
set_option linter.unusedVariables false

namespace Go.Proofs.Tz
open Go.Vw
set_option maxRecDepth 100000
set_option maxHeartbeats 8000000

theorem fz_rows (H : List AV) : ∀ rs : List Row, (∀ r ∈ rs, hnd r ∈ H) → FzL H (rs.map rowD) ((rs.map nv).map att)
  | [], _ => .nil
  | r :: rs, h => .cons (.agg (.cons (.same _) (.cons (.sl (h r (by simp))) .nil))) (fz_rows H rs fun x hx => h x (by simp [hx]))

theorem sorted_fn (l : List Att) (hl : Fit2 l) : Ctr Tryz.prog 45 [.d (atts l)] (.own true 89 ((sortedL l).map att)) := by
  refine (sortedG_fn l hl).frozen (by simp) ?_
  rintro r hs ⟨rs, rfl, rfl, hp, ha⟩
  refine ⟨_, rfl, ?_⟩
  have := normal_eq l (rs.map nv) hp (fun i j hij hj => by
    have := ha i j hij (by simpa using hj)
    simpa [nv] using this)
  rw [← this]
  exact fz_rows _ rs fun r hr => List.mem_map.2 ⟨r, hr, rfl⟩
end Go.Proofs.Tz

namespace Go.Proofs.Tz
open Go.Vw
set_option maxRecDepth 100000
set_option maxHeartbeats 8000000

theorem findQ_fn (x : Str × Sl) (n : Str) : Ctr Tryz.prog 206 [.d (rw2 x), .d (.ref (.str n))] (.d (.bool (decide (x.1 = n)))) := by
  refine fn_of_vwp (fun _ => false) (by kernel_rfl) Tryz.func206 (by kernel_rfl) rfl rfl (Nat.le_of_ble_eq_true rfl) (by kernel_rfl) rfl rfl ?_
  simp -implicitDefEqProofs [rw2]

theorem findRows_fn (rows : List (Str × Sl)) (name : Str) (hl : rows.length < 1000000) (hn : List.length name < 1000000) : Ctr Tryz.prog 167 [.d (.sl (rows.map rw2)), .d (.str name)] (.d (.int .i64 (idxR (fun x => decide (x.1 = lower name)) 0 rows))) := by
  refine fn_of_vwp (fun _ => false) (by kernel_rfl) Tryz.func167 (by kernel_rfl) rfl rfl (Nat.le_of_ble_eq_true rfl) (by kernel_rfl) rfl rfl ?_
  simp -implicitDefEqProofs
  refine callK (foldLower_fn _ hn) ?_
  simp -implicitDefEqProofs
  refine callK (indexR_fn 206 [.ref (.str (lower name))] rfl (fun x => decide (x.1 = lower name)) rows hl (fun a _ => findQ_fn a _)) ?_
  simp -implicitDefEqProofs

theorem findA_idx (n : Str) : ∀ (l : List Att) (k : Nat), (idxR (fun x : Att => decide (x.1 = n)) k l = -1 ∧ findA n l = []) ∨ ∃ i, ∃ h : i < l.length, idxR (fun x : Att => decide (x.1 = n)) k l = ((k + i : Nat) : Int) ∧ findA n l = l[i].2
  | [], k => .inl ⟨rfl, rfl⟩
  | x :: l, k => by
    rw [idxR, findA]
    by_cases hx : x.1 = n
    · exact .inr ⟨0, by simp, by simp [hx]⟩
    · simp only [hx, decide_false, Bool.false_eq_true, if_false]
      rcases findA_idx n l (k + 1) with h | ⟨i, h1, h2, h3⟩
      · exact .inl h
      · exact .inr ⟨i + 1, by simpa using h1, by rw [h2]; omega, by simpa using h3⟩

theorem get_fn (l : List Att) (name : Str) (hl : Fit2 l) (hn : List.length name < 1000000) : Ctr Tryz.prog 117 [.d (atts l), .d (.str name)] (.own true 9 ((getL l name).map .str)) := by
  refine fn_of_vwp (fun i => i == 4 || i == 5000009 || i == 2000012) (by kernel_rfl) Tryz.func117 (by kernel_rfl) rfl rfl (Nat.le_of_ble_eq_true rfl) (by kernel_rfl) rfl rfl ?_
  simp -implicitDefEqProofs
  refine givK0 (sortedG_fn l hl).shaped ?_ ?_
  · rintro r hs ⟨⟨rs, rfl, rfl, _⟩, _⟩ x hx
    obtain ⟨r, _, rfl⟩ := List.mem_map.1 hx
    rfl
  rintro r hs τ ⟨⟨rs, rfl, rfl, hp, ha⟩, hsh⟩ hhi hlo
  have h1 : τ 1 = .d (.str name) := (hlo 1 (by decide) (by simp [initG])).trans (by simp [initG])
  have h9 : τ 9 = .own true 89 (rs.map rowD) := (hlo 9 (by decide) (by simp)).trans (by simp)
  have hn2 : rs.map nv = sortedL l := normal_eq l (rs.map nv) hp (fun i j hij hj => by
    have := ha i j hij (by simpa using hj)
    simpa [nv] using this)
  have hrl : rs.length ≤ l.length := by
    have := sorted_len l
    rw [← hn2] at this
    simpa using this
  have hl1 := hl.1.1
  have hH : ∀ i (h : i < rs.length), τ (1000000 + i) = hnd rs[i] := fun i h => by rw [hhi i (by simpa using h)]; simp
  clear hhi hlo hp ha
  simp -implicitDefEqProofs [h1, h9]
  have hmr : rs.map rowD = (rs.map pr).map rw2 := by simp [rowD]
  rw [hmr]
  refine lendK (findRows_fn (rs.map pr) name (by simp; omega) hn) rfl ?_
  rw [← hmr]
  have hidx : idxR (fun x : Str × Sl => decide (x.1 = lower name)) 0 (rs.map pr) = idxR (fun x : Att => decide (x.1 = lower name)) 0 (sortedL l) := by
    rw [← hn2, idxR_map, idxR_map]; rfl
  rw [hidx]
  rcases findA_idx (lower name) (sortedL l) 0 with ⟨e1, e2⟩ | ⟨i, hi, e1, e2⟩
  · simp -implicitDefEqProofs [h1, h9, e1, getL, e2]
  · have hir : i < rs.length := by rw [← hn2] at hi; simpa using hi
    have hi0 : ¬ (i : Int) < 0 := by omega
    simp only [Nat.zero_add] at e1
    have e3 : (sortedL l)[i].2 = rs[i].2.2 := by
      have : (rs.map nv)[i]'(by simpa using hir) = nv rs[i] := by simp
      have h2 : (sortedL l)[i] = nv rs[i] := by rw [← this]; congr 1; exact hn2.symm
      rw [h2]; rfl
    obtain ⟨A, c, he⟩ := hsh (hd rs[i]) 9 (rs[i].2.2.map .str) (List.mem_map.2 ⟨rs[i], List.getElem_mem hir, rfl⟩)
    simp only [hd, Value.slice.injEq, List.length_map] at he
    simp -implicitDefEqProofs [h1, h9, e1, hi0, hir, rowD, rw2, pr, he.2.1]
    refine ⟨1000000 + i, 9, rs[i].2.2.map .str, ?_, rfl, by simp, ?_⟩
    · simp [hh_ne, hh_ne', hH i hir, hnd, hd, he.2.1]
    have e4 : (rs[i].2.2.map D.str).take rs[i].2.2.length = rs[i].2.2.map .str := List.take_of_length_le (by simp)
    simp -implicitDefEqProofs [getL, e2, e3, e4]
end Go.Proofs.Tz

namespace Go.Proofs.Tz
open Go.Vw
set_option maxRecDepth 100000
set_option maxHeartbeats 4000000

end Go.Proofs.Tz

namespace Go.Proofs.Tz
open Go.Vw
set_option maxRecDepth 100000
set_option maxHeartbeats 4000000

end Go.Proofs.Tz

namespace Go.Proofs.Tz
open Go.Vw
set_option maxRecDepth 100000
set_option maxHeartbeats 4000000

end Go.Proofs.Tz

namespace Go.Proofs.Tz
open Go.Vw
set_option maxRecDepth 100000
set_option maxHeartbeats 4000000

end Go.Proofs.Tz

namespace Go.Proofs.Tz
open Go.Vw
set_option maxRecDepth 100000
set_option maxHeartbeats 4000000

end Go.Proofs.Tz

namespace Go.Proofs.Tz
open Go.Vw
set_option maxRecDepth 100000
set_option maxHeartbeats 4000000

def ReachS (l : List Str) : Prop := ∀ v ∈ l, List.length v ≤ 140737488351232
theorem ReachS.take {l : List Str} (h : ReachS l) (k : Nat) : ReachS (l.take k) := fun v hv => h v (List.mem_of_mem_take hv)
end Go.Proofs.Tz

namespace Go.Proofs.Tz
open Go.Vw
set_option maxRecDepth 100000
set_option maxHeartbeats 4000000

end Go.Proofs.Tz

namespace Go.Proofs.Tz
open Go.Vw Go.Lib

theorem sorted_perm (l : List Att) : (sortedL l).Perm (((grp l).filter nonE).map normA) := by
  have hp : ((((grp l).filter nonE).map normA).mergeSort fun a b => decide (a.1 ≤ b.1)).Perm (((grp l).filter nonE).map normA) := List.mergeSort_perm _ _
  have hs := List.pairwise_mergeSort (le := fun a b : Att => decide (a.1 ≤ b.1)) (fun a b c h1 h2 => by
    simp only [decide_eq_true_eq] at *
    exact List.le_trans h1 h2) (fun a b => by
    simp only [Bool.or_eq_true, decide_eq_true_eq]
    exact List.le_total a.1 b.1) (((grp l).filter nonE).map normA)
  rw [← normal_eq l _ hp (fun i j hij hj => by
    have := List.pairwise_iff_getElem.1 hs i j (by omega) hj hij
    rw [bl_f]
    simpa using this)]
  exact hp

theorem compact_len (l : List Str) : (compact l).length ≤ l.length := by
  have key : ∀ m, (compactUpTo l.toArray m).length ≤ m := by
    intro m
    induction m with
    | zero => simp [compactUpTo]
    | succ m ih =>
      rw [compactUpTo_succ]
      split <;> simp <;> omega
  exact key l.length
theorem total_perm {a b : List Att} (h : a.Perm b) : total a = total b := (h.map _).sum_nat
theorem total_norm (l : List Att) : total ((l.filter nonE).map normA) ≤ total l := by
  induction l with
  | nil => simp [total]
  | cons a l ih =>
    have hc := compact_len (sortS a.2)
    have hs : (sortS a.2).length = a.2.length := by simp [sortS]
    rw [List.filter_cons]
    split
    · simp only [List.map_cons, total, List.sum_cons] at ih ⊢
      simp only [normA]
      omega
    · simp only [total, List.map_cons, List.sum_cons] at ih ⊢
      omega
theorem total_sorted (l : List Att) : total (sortedL l) ≤ total l := by
  rw [total_perm (sorted_perm l), ← total_grp l]
  exact total_norm _
theorem sorted_name {l : List Att} {x : Att} (h : x ∈ sortedL l) : ∃ a ∈ l, a.2 ≠ [] ∧ lower a.1 = x.1 := by
  obtain ⟨n, hn, rfl⟩ := List.mem_map.1 h
  have hN := (namesF_spec l [] (by simp [SS])).2 n
  rw [show l.foldl namesS [] = namesF l from rfl] at hN
  rcases hN.1 hn with h | h
  · simp at h
  · exact h
theorem sorted_val {l : List Att} {x : Att} (h : x ∈ sortedL l) {v : Str} (hv : v ∈ x.2) : ∃ a ∈ l, lower a.1 = x.1 ∧ v ∈ a.2 := by
  obtain ⟨n, hn, rfl⟩ := List.mem_map.1 h
  have hV := (valsF_spec n l [] (by simp [SS])).2 v
  rw [show l.foldl (valsS n) [] = valsF l n from rfl] at hV
  rcases hV.1 hv with h | h
  · simp at h
  · exact h
theorem sorted_fit2 {l : List Att} (hl : Fit2 l) : Fit2 (sortedL l) := by
  refine ⟨⟨Nat.lt_of_le_of_lt (sorted_len l) hl.1.1, fun x hx => ⟨?_, ?_⟩⟩, Nat.lt_of_le_of_lt (total_sorted l) hl.2⟩
  · obtain ⟨a, ha, _, e⟩ := sorted_name hx
    rw [← e, lower_len]
    exact (hl.1.2 a ha).1
  · have h1 := total_mem hx
    have h2 := total_sorted l
    have h3 := hl.2
    omega
end Go.Proofs.Tz

namespace Go.Proofs.Tz
open Go.Vw Go.Lib

def HasL (l : List Att) (n v : Str) : Prop := ∃ a ∈ l, lower a.1 = n ∧ v ∈ a.2
structure NF (s : List Att) : Prop where
  names : SS (s.map (·.1))
  vals : ∀ x ∈ s, SS x.2
  ne : ∀ x ∈ s, x.2 ≠ []

theorem lowc_lowc (c : UInt8) : lowc (lowc c) = lowc c := by
  unfold lowc
  by_cases h : 65 ≤ (c.toNat : Int) ∧ (c.toNat : Int) ≤ 90
  · rw [if_pos h, if_neg]
    rw [UInt8.toNat_add]
    have : (32 : UInt8).toNat = 32 := rfl
    omega
  · rw [if_neg h, if_neg h]
theorem lower_lower (s : Str) : lower (lower s) = lower s := by simp [lower, lowc_lowc]

theorem nf_sorted (l : List Att) : NF (sortedL l) := by
  have hN := namesF_spec l [] (by simp [SS])
  refine ⟨?_, fun x hx => ?_, fun x hx => ?_⟩
  · rw [sortedL, List.map_map]
    rw [show ((fun x : Att => x.1) ∘ fun n => (n, valsF l n)) = id from rfl, List.map_id]
    exact hN.1
  · obtain ⟨n, _, rfl⟩ := List.mem_map.1 hx
    exact (valsF_spec n l [] (by simp [SS])).1
  · obtain ⟨n, hn, rfl⟩ := List.mem_map.1 hx
    have hV := (valsF_spec n l [] (by simp [SS])).2
    rcases (hN.2 n).1 hn with h | ⟨a, ha, hne, e⟩
    · simp at h
    · obtain ⟨v, hv⟩ := List.exists_mem_of_ne_nil _ hne
      exact List.ne_nil_of_mem ((hV v).2 (.inr ⟨a, ha, e, hv⟩))
theorem sorted_has (l : List Att) (n v : Str) : Has (sortedL l) n v ↔ HasL l n v := by
  have hN := namesF_spec l [] (by simp [SS])
  constructor
  · rintro ⟨x, hx, rfl, hv⟩
    obtain ⟨a, ha, e, h⟩ := sorted_val hx hv
    exact ⟨a, ha, e, h⟩
  · rintro ⟨a, ha, e, hv⟩
    refine ⟨(n, valsF l n), List.mem_map.2 ⟨n, ?_, rfl⟩, rfl, ?_⟩
    · exact (hN.2 n).2 (.inr ⟨a, ha, List.ne_nil_of_mem hv, e⟩)
    · exact ((valsF_spec n l [] (by simp [SS])).2 v).2 (.inr ⟨a, ha, e, hv⟩)
theorem nodup_inj {α : Type} {l : List α} (h : l.Nodup) {i j : Nat} (hi : i < l.length) (hj : j < l.length) (e : l[i] = l[j]) : i = j := by
  have h1 := List.pairwise_iff_getElem.1 h
  rcases Nat.lt_trichotomy i j with h2 | h2 | h2
  · exact absurd e (h1 i j hi hj h2)
  · exact h2
  · exact absurd e.symm (h1 j i hj hi h2)
theorem nf_inj {s : List Att} (hs : NF s) {x y : Att} (hx : x ∈ s) (hy : y ∈ s) (h : x.1 = y.1) : x = y := by
  have hnd := hs.names.nodup
  obtain ⟨i, hi, rfl⟩ := List.mem_iff_getElem.1 hx
  obtain ⟨j, hj, rfl⟩ := List.mem_iff_getElem.1 hy
  have := nodup_inj hnd (i := i) (j := j) (by simpa using hi) (by simpa using hj) (by simpa using h)
  subst this; rfl
theorem nf_ext {s t : List Att} (hs : NF s) (ht : NF t) (h : ∀ n v, Has s n v ↔ Has t n v) : s = t := by
  have e1 : s.map (·.1) = t.map (·.1) := by
    refine SS_ext hs.names ht.names fun n => ?_
    constructor
    · intro hn
      obtain ⟨x, hx, rfl⟩ := List.mem_map.1 hn
      obtain ⟨v, hv⟩ := List.exists_mem_of_ne_nil _ (hs.ne x hx)
      obtain ⟨y, hy, e, _⟩ := (h x.1 v).1 ⟨x, hx, rfl, hv⟩
      exact List.mem_map.2 ⟨y, hy, e⟩
    · intro hn
      obtain ⟨x, hx, rfl⟩ := List.mem_map.1 hn
      obtain ⟨v, hv⟩ := List.exists_mem_of_ne_nil _ (ht.ne x hx)
      obtain ⟨y, hy, e, _⟩ := (h x.1 v).2 ⟨x, hx, rfl, hv⟩
      exact List.mem_map.2 ⟨y, hy, e⟩
  have hl : s.length = t.length := by simpa using congrArg List.length e1
  refine List.ext_getElem hl fun i h1 h2 => ?_
  have en : s[i].1 = t[i].1 := by
    have := List.getElem_of_eq e1 (i := i) (by simpa using h1)
    simpa using this
  refine Prod.ext en ?_
  refine SS_ext (hs.vals _ (List.getElem_mem h1)) (ht.vals _ (List.getElem_mem h2)) fun v => ?_
  constructor
  · intro hv
    obtain ⟨y, hy, e, hv⟩ := (h s[i].1 v).1 ⟨_, List.getElem_mem h1, rfl, hv⟩
    rw [← nf_inj ht hy (List.getElem_mem h2) (e.trans en)]
    exact hv
  · intro hv
    obtain ⟨y, hy, e, hv⟩ := (h t[i].1 v).2 ⟨_, List.getElem_mem h2, rfl, hv⟩
    rw [← nf_inj hs hy (List.getElem_mem h1) (e.trans en.symm)]
    exact hv
theorem sorted_ext {a b : List Att} (h : ∀ n v, HasL a n v ↔ HasL b n v) : sortedL a = sortedL b :=
  nf_ext (nf_sorted a) (nf_sorted b) fun n v => by rw [sorted_has, sorted_has, h]
theorem sorted_low {l : List Att} {x : Att} (h : x ∈ sortedL l) : lower x.1 = x.1 := by
  obtain ⟨a, _, _, e⟩ := sorted_name h
  rw [← e, lower_lower]
theorem hasL_sorted (l : List Att) (n v : Str) : HasL (sortedL l) n v ↔ HasL l n v := by
  rw [← sorted_has l n v]
  constructor
  · rintro ⟨x, hx, e, hv⟩; exact ⟨x, hx, (sorted_low hx).symm.trans e, hv⟩
  · rintro ⟨x, hx, e, hv⟩; exact ⟨x, hx, (sorted_low hx).trans e, hv⟩
theorem sorted_idem (l : List Att) : sortedL (sortedL l) = sortedL l := sorted_ext (hasL_sorted l)

end Go.Proofs.Tz

/- The tree of entries: its plain law, first part: names, lists in order. -/
namespace Go.Proofs.Tz
open Go.Vw Go.RowKit Go.Proofs Go.Sort

theorem valid_norm {s : Str} : validU s = true ↔ ∃ l, normU s = some l := by
  unfold validU
  rw [Option.isSome_iff_exists]
theorem norm_nil : normU [] = some [] := by decide
theorem norm_ne {s : Str} {l : List Pair} (h : normU s = some l) : s = [] ↔ l = [] := by
  constructor
  · rintro rfl; rw [norm_nil] at h; simpa using h.symm
  · rintro rfl; exact normU_inj h norm_nil
theorem fmtC_len {p : Pair} (h : NP p) : (fmtC p).length ≤ 577 := by
  obtain ⟨h1, h2⟩ := compU_ok h
  simp only [nameB, cleanB, Bool.and_eq_true, decide_eq_true_eq] at h1 h2
  have e1 : (escV (foldS p.2)).length ≤ 2 * (foldS p.2).length := by
    unfold escV
    generalize foldS p.2 = s
    induction s with
    | nil => simp
    | cons c s ih =>
      rw [List.flatMap_cons, List.length_append, List.length_cons]
      have : (if specB c = true then [92, c] else [c]).length ≤ 2 := by split <;> simp
      omega
  have e2 : (foldS p.2).length ≤ p.2.length := by
    have hq : ∀ (s : Str) (c : UInt8), (sqz c s).length ≤ s.length := by
      intro s
      induction s with
      | nil => intro c; simp [sqz]
      | cons x s ih =>
        intro c
        simp only [sqz]
        have := ih x
        split <;> simp <;> omega
    unfold foldS
    have h3 := hq (lower (trimB p.2)) 0
    have h4 : (lower (trimB p.2)).length = (trimB p.2).length := by simp [lower]
    have h5 : (trimB p.2).length ≤ p.2.length := trimB_len p.2
    omega
  have e3 : (lower p.1).length = p.1.length := by simp [lower]
  simp only [fmtC, List.length_append, List.length_cons]
  omega
theorem valid_len {s : Str} (h : validU s = true) : s.length ≤ 5000 := by
  obtain ⟨l, hl⟩ := valid_norm.1 h
  obtain ⟨h1, h8, hs, _⟩ := normU_inv hl
  have key : ∀ l : List Pair, (∀ p ∈ l, NP p) → (joinB 44 (l.map fmtC)).length ≤ l.length * 578 := by
    intro l
    induction l with
    | nil => intro _; simp [joinB]
    | cons p l ih =>
      intro h
      have hp := fmtC_len (h p (by simp))
      have ih := ih (fun q hq => h q (by simp [hq]))
      cases l with
      | nil => simp [joinB]; omega
      | cons q l =>
        simp only [List.map_cons, joinB, List.length_append, List.length_cons] at ih ⊢
        omega
  have := key l h1
  rw [← hs] at this
  omega
theorem parent_norm {s : Str} {p : Pair} {l : List Pair} (h : normU s = some (p :: l)) : ∃ t, parentU s = (t, true) ∧ normU t = some l := by
  have h8 := (normU_inv h).2.1
  have ha := normU_app h h (n := l) (fun q hq => .inl (by simp [hq])) (by simp at h8; omega)
  refine ⟨_, ?_, ha.2⟩
  unfold parentU
  rw [h]
  simp only [ha.1]
theorem under_iff {s b : Str} : underU s b = true ↔ ∃ l m, normU s = some l ∧ normU b = some m ∧ m <:+ l := by
  unfold underU
  split
  · rename_i l m h1 h2
    rw [show (decide (m.length ≤ l.length) && decide (l.drop (l.length - m.length) = m)) = sufB l m from rfl, sufB_iff]
    constructor
    · intro h; exact ⟨l, m, h1, h2, h⟩
    · rintro ⟨l', m', e1, e2, h⟩
      rw [h1] at e1; rw [h2] at e2
      cases e1; cases e2
      exact h
  · rename_i h
    constructor
    · intro h2; cases h2
    · rintro ⟨l, m, h1, h2, _⟩; exact absurd h2 (h l m h1)
theorem under_self {s : Str} (h : validU s = true) : underU s s = true := by
  obtain ⟨l, hl⟩ := valid_norm.1 h
  exact under_iff.2 ⟨l, l, hl, hl, List.suffix_refl l⟩
theorem under_trans {a b c : Str} (h1 : underU a b = true) (h2 : underU b c = true) : underU a c = true := by
  obtain ⟨l, m, e1, e2, s1⟩ := under_iff.1 h1
  obtain ⟨m', n, e3, e4, s2⟩ := under_iff.1 h2
  rw [e2] at e3; cases e3
  exact under_iff.2 ⟨l, n, e1, e4, s2.trans s1⟩
theorem under_valid {a b : Str} (h : underU a b = true) : validU a = true ∧ validU b = true := by
  obtain ⟨l, m, e1, e2, _⟩ := under_iff.1 h
  exact ⟨valid_norm.2 ⟨l, e1⟩, valid_norm.2 ⟨m, e2⟩⟩
theorem under_nil {s : Str} : underU s [] = validU s := by
  rw [Bool.eq_iff_iff]
  constructor
  · intro h; exact (under_valid h).1
  · intro h
    obtain ⟨l, hl⟩ := valid_norm.1 h
    exact under_iff.2 ⟨l, [], hl, norm_nil, List.nil_suffix⟩
theorem rebase_norm {s fr to : Str} {k m n : List Pair} (h1 : normU s = some (k ++ m)) (h2 : normU fr = some m) (h3 : normU to = some n) :
    (k.length + n.length ≤ 8 → ∃ t, rebaseU s fr to = (t, 0) ∧ normU t = some (k ++ n)) ∧ (8 < k.length + n.length → rebaseU s fr to = ([], 3)) := by
  have hsuf : sufB (k ++ m) m = true := sufB_iff.2 (List.suffix_append k m)
  have htk : (k ++ m).take ((k ++ m).length - m.length) = k := by simp
  have hnp : ∀ p ∈ k ++ n, NP p := fun p hp => by
    rcases List.mem_append.1 hp with hp | hp
    · exact (normU_inv h1).1 p (List.mem_append_left _ hp)
    · exact (normU_inv h3).1 p hp
  have hrb : rebaseU s fr to = formatU (k ++ n) := by
    unfold rebaseU
    rw [h1, h2, h3]
    simp only [hsuf, if_true, htk]
  constructor
  · intro h8
    have ha := normU_of hnp (by simpa using h8)
    exact ⟨_, by rw [hrb]; exact ha.1, ha.2⟩
  · intro h8
    rw [hrb]
    have hE : pairsE (k ++ n) = 0 := pairsE_zero.2 fun p hp => (hnp p hp).pairE
    have hc : checkU (k ++ n) = 3 := by rw [checkU, if_pos hE, if_pos (by simpa using h8)]
    rw [formatU, hc]; rfl
theorem under_parts {s b : Str} (h : underU s b = true) : ∃ k m, normU s = some (k ++ m) ∧ normU b = some m := by
  obtain ⟨l, m, e1, e2, t, rfl⟩ := under_iff.1 h
  exact ⟨t, m, e1, e2⟩
theorem depth_norm {s : Str} {l : List Pair} (h : normU s = some l) : depthU s = l.length := by simp [depthU, h]

abbrev Ent := Str × List Att
def keysE (E : List Ent) : List Str := E.map (·.1)
def hasE (E : List Ent) (s : Str) : Bool := E.any fun e => decide (e.1 = s)
def getE (E : List Ent) (s : Str) : Option (List Att) := (E.find? fun e => decide (e.1 = s)).map (·.2)
def insE (e : Ent) : List Ent → List Ent
  | [] => [e]
  | x :: l => if 0 < cmpN x.1 e.1 then e :: x :: l else x :: insE e l
def delE (E : List Ent) (s : Str) : List Ent := E.filter fun e => !decide (e.1 = s)
def OrdE (E : List Ent) : Prop := NS (keysE E)
theorem hasE_iff {E : List Ent} {s : Str} : hasE E s = true ↔ s ∈ keysE E := by simp [hasE, keysE]
theorem getE_mem {E : List Ent} (h : OrdE E) {e : Ent} (he : e ∈ E) : getE E e.1 = some e.2 := by
  induction E with
  | nil => simp at he
  | cons x l ih =>
    have hn := List.nodup_cons.1 (NS.nodup h)
    rcases List.mem_cons.1 he with rfl | he
    · simp [getE]
    · have hne : ¬ x.1 = e.1 := fun q => hn.1 (List.mem_map.2 ⟨e, he, q.symm⟩)
      have := ih (List.pairwise_cons.1 h).2 he
      simp only [getE, List.find?_cons, hne, decide_false] at this ⊢
      exact this
theorem getE_none {E : List Ent} {s : Str} (h : hasE E s = false) : getE E s = none := by
  simp only [getE, Option.map_eq_none_iff, List.find?_eq_none, decide_eq_true_eq]
  intro e he q
  have : hasE E s = true := hasE_iff.2 (List.mem_map.2 ⟨e, he, q⟩)
  rw [h] at this; cases this
theorem getE_some {E : List Ent} {s : Str} (h : hasE E s = true) : ∃ a, getE E s = some a ∧ (s, a) ∈ E := by
  obtain ⟨e, he, hs⟩ := List.any_eq_true.1 h
  cases hf : E.find? (fun e => decide (e.1 = s)) with
  | none => rw [List.find?_eq_none] at hf; exact absurd hs (hf e he)
  | some x =>
    have h1 := List.find?_some hf
    have h2 := List.mem_of_find?_eq_some hf
    simp only [decide_eq_true_eq] at h1
    exact ⟨x.2, by simp [getE, hf], by rw [← h1]; exact h2⟩
theorem insE_perm (e : Ent) : ∀ E : List Ent, (insE e E).Perm (e :: E)
  | [] => .refl _
  | x :: l => by
    rw [insE]
    split
    · exact .refl _
    · exact ((insE_perm e l).cons x).trans (.swap _ _ _)
theorem insE_mem {e x : Ent} {E : List Ent} : x ∈ insE e E ↔ x = e ∨ x ∈ E := by rw [(insE_perm e E).mem_iff]; simp
theorem insE_keys {e : Ent} {E : List Ent} {s : Str} : s ∈ keysE (insE e E) ↔ s = e.1 ∨ s ∈ keysE E := by
  unfold keysE
  rw [((insE_perm e E).map _).mem_iff]; simp
theorem insE_ord {e : Ent} : ∀ {E : List Ent}, OrdE E → e.1 ∉ keysE E → OrdE (insE e E)
  | [], _, _ => by simp [OrdE, NS, insE, keysE]
  | x :: l, h, hn => by
    have hp := List.pairwise_cons.1 h
    have hne : cmpN x.1 e.1 ≠ 0 := fun q => hn (by rw [← cmpN_zero.1 q]; simp [keysE])
    rw [insE]
    split
    · rename_i hc
      have hxe : cmpN e.1 x.1 < 0 := by rw [cmpN_swap x.1 e.1]; omega
      refine List.pairwise_cons.2 ⟨fun y hy => ?_, h⟩
      rcases List.mem_cons.1 hy with rfl | hy
      · exact hxe
      · exact cmpN_trans hxe (hp.1 y hy)
    · rename_i hc
      refine List.pairwise_cons.2 ⟨fun y hy => ?_, insE_ord hp.2 (fun q => hn (by simp [keysE] at q ⊢; exact .inr q))⟩
      rcases insE_keys.1 hy with rfl | hy
      · show cmpN x.1 e.1 < 0
        omega
      · exact hp.1 y hy
theorem OrdE.ext {A B : List Ent} (ha : OrdE A) (hb : OrdE B) (h : A.Perm B) : A = B := by
  refine h.eq_of_pairwise (le := fun x y : Ent => cmpN x.1 y.1 < 0) (fun x y _ _ h1 h2 => ?_) (List.pairwise_map.1 ha) (List.pairwise_map.1 hb)
  have := cmpN_trans h1 h2
  rw [cmpN_self] at this; omega
theorem OrdE.filter {E : List Ent} (h : OrdE E) (f : Ent → Bool) : OrdE (E.filter f) := (List.Pairwise.sublist (List.filter_sublist.map _) h)
theorem foldIns_perm : ∀ (L E : List Ent), (L.foldl (fun E e => insE e E) E).Perm (L ++ E)
  | [], E => .refl _
  | e :: L, E => by
    rw [List.foldl_cons]
    refine (foldIns_perm L _).trans ?_
    refine ((insE_perm e E).append_left L).trans ?_
    simp only [List.cons_append]
    exact List.perm_middle
theorem foldIns_ord : ∀ {L E : List Ent}, OrdE E → (keysE L).Nodup → (∀ e ∈ L, e.1 ∉ keysE E) → OrdE (L.foldl (fun E e => insE e E) E)
  | [], E, h, _, _ => h
  | e :: L, E, h, hn, hd => by
    rw [List.foldl_cons]
    have hn' := List.nodup_cons.1 hn
    refine foldIns_ord (insE_ord h (hd e (by simp))) hn'.2 (fun x hx q => ?_)
    rcases insE_keys.1 q with q | q
    · exact hn'.1 (List.mem_map.2 ⟨x, hx, q⟩)
    · exact hd x (by simp [hx]) q

theorem swo_names : SWO (ltOf cmpN) where
  irrefl x := by simp [ltOf, cmpN_self]
  trans x y z h1 h2 := by
    simp only [ltOf, decide_eq_true_eq] at *
    exact cmpN_trans h1 h2
  ntrans x y z h1 h2 := by
    simp only [ltOf, decide_eq_false_iff_not] at *
    intro h3
    have hs1 := cmpN_swap x y
    have hs2 := cmpN_swap y z
    have key : cmpN z x < 0 ∨ z = x := by
      by_cases e1 : cmpN z y = 0
      · have e1' := cmpN_zero.1 e1
        subst e1'
        by_cases e2 : cmpN z x = 0
        · exact .inr (cmpN_zero.1 e2)
        · exact .inl (by omega)
      · by_cases e2 : cmpN y x = 0
        · have e2' := cmpN_zero.1 e2
          subst e2'
          exact .inl (by omega)
        · exact .inl (cmpN_trans (by omega : cmpN z y < 0) (by omega))
    rcases key with h | rfl
    · have := cmpN_trans h h3
      rw [cmpN_self] at this; omega
    · rw [cmpN_self] at h3; omega
theorem sort_names {l K : List Str} (hK : NS K) (hp : l.Perm K) : sortL cmpN l = K := by
  obtain ⟨h1, h2⟩ := sortL_perm swo_names l
  have hn : (sortL cmpN l).Nodup := ((h1.trans hp).nodup_iff).2 hK.nodup
  refine NS_ext (List.pairwise_iff_getElem.2 fun i j hi hj hij => ?_) hK (fun x => (h1.trans hp).mem_iff)
  have h3 := h2 i j hij hj
  simp only [ltOf, decide_eq_false_iff_not] at h3
  have h4 := cmpN_swap (sortL cmpN l)[i] (sortL cmpN l)[j]
  have h5 : cmpN (sortL cmpN l)[i] (sortL cmpN l)[j] ≠ 0 := fun q => (List.pairwise_iff_getElem.1 hn) i j hi hj hij (cmpN_zero.1 q)
  omega
end Go.Proofs.Tz

/- The tree of entries: its plain law, second part: calls, and what stays true. -/
namespace Go.Proofs.Tz
open Go.Vw Go.RowKit Go.Proofs Go.Sort

def properU (s : Str) : Bool := !decide (s = []) && validU s
def parentedE (E : List Ent) (s : Str) : Bool := (parentU s).2 && hasE E (parentU s).1
def kidsE (E : List Ent) (s : Str) : List Str := (keysE E).filter fun x => (parentU x).2 && decide ((parentU x).1 = s)
def subE (E : List Ent) (b : Str) : List Ent := E.filter fun e => decide (b = []) || underU e.1 b
def subtreeE (E : List Ent) (b : Str) : List Ent := if b ≠ [] ∧ hasE E b = false then [] else subE E b
def addE (E : List Ent) (n : Str) (a : List Att) : List Ent × Int :=
  if properU n = false then (E, 5) else if hasE E n = true then (E, 7) else if parentedE E n = false then (E, 6) else if 256 ≤ E.length then (E, 3) else (insE (n, sortedL a) E, 0)
def putE (E : List Ent) (n : Str) (a : List Att) : List Ent × Int :=
  if hasE E n = false then (E, 6) else (insE (n, sortedL a) (delE E n), 0)
def deleteE (E : List Ent) (s : Str) : List Ent × Int :=
  if hasE E s = false then (E, 6) else if depthU s = 1 ∨ kidsE E s ≠ [] then (E, 12) else (delE E s, 0)
def deepE (E : List Ent) (fr to : Str) : Bool := (subE E fr).any fun e => decide ((8 : Int) < depthU e.1 - depthU fr + depthU to)
def obsE (E : List Ent) (fr to : Str) : Int :=
  if hasE E fr = false then 6 else if properU to = false then 5 else if hasE E to = true then 7 else if underU to fr = true then 28 else if parentedE E to = false then 6 else if depthU fr = 1 then 12 else if deepE E fr to = true then 3 else 0
def renU (fr to s : Str) : Str := if underU s fr = true then (rebaseU s fr to).1 else s
def movedE (E : List Ent) (fr to : Str) : List Ent := ((subE E fr).map fun e => ((rebaseU e.1 fr to).1, e.2)).foldl (fun E e => insE e E) (E.filter fun e => !underU e.1 fr)
def moveE (E : List Ent) (fr to : Str) : List Ent × Int := if obsE E fr to = 0 then (movedE E fr to, 0) else (E, obsE E fr to)

structure TI (E : List Ent) : Prop where
  ord : OrdE E
  proper : ∀ e ∈ E, properU e.1 = true
  normal : ∀ e ∈ E, sortedL e.2 = e.2
  linked : ∀ e ∈ E, depthU e.1 ≠ 1 → hasE E (parentU e.1).1 = true
  few : E.length ≤ 256

theorem proper_norm {s : Str} (h : properU s = true) : ∃ p l, normU s = some (p :: l) := by
  simp only [properU, Bool.and_eq_true, Bool.not_eq_true', decide_eq_false_iff_not] at h
  obtain ⟨l, hl⟩ := valid_norm.1 h.2
  cases l with
  | nil => exact absurd ((norm_ne hl).2 rfl) h.1
  | cons p l => exact ⟨p, l, hl⟩
theorem proper_of {s : Str} {l : List Pair} (h : normU s = some l) (hl : l ≠ []) : properU s = true := by
  simp only [properU, Bool.and_eq_true, Bool.not_eq_true', decide_eq_false_iff_not]
  exact ⟨fun e => hl ((norm_ne h).1 e), valid_norm.2 ⟨l, h⟩⟩
theorem proper_len {s : Str} (h : properU s = true) : s.length ≤ 5000 := by
  simp only [properU, Bool.and_eq_true] at h
  exact valid_len h.2
theorem proper_valid {s : Str} (h : properU s = true) : validU s = true := by
  simp only [properU, Bool.and_eq_true] at h
  exact h.2
theorem TI.key {E : List Ent} (h : TI E) {s : Str} (hs : s ∈ keysE E) : properU s = true := by
  obtain ⟨e, he, rfl⟩ := List.mem_map.1 hs
  exact h.proper e he
theorem TI.nodup {E : List Ent} (h : TI E) : (keysE E).Nodup := NS.nodup h.ord

theorem delE_keys {E : List Ent} {s x : Str} : x ∈ keysE (delE E s) ↔ x ∈ keysE E ∧ x ≠ s := by
  simp only [keysE, delE, List.mem_map, List.mem_filter, Bool.not_eq_true', decide_eq_false_iff_not]
  constructor
  · rintro ⟨e, ⟨h1, h2⟩, rfl⟩; exact ⟨⟨e, h1, rfl⟩, h2⟩
  · rintro ⟨⟨e, h1, rfl⟩, h2⟩; exact ⟨e, ⟨h1, h2⟩, rfl⟩
theorem delE_len {E : List Ent} {s : Str} (h : OrdE E) (hs : hasE E s = true) : (delE E s).length + 1 = E.length := by
  induction E with
  | nil => simp [hasE] at hs
  | cons x l ih =>
    have hn := List.nodup_cons.1 (NS.nodup h)
    by_cases hx : x.1 = s
    · have : delE l s = l := List.filter_eq_self.2 (fun e he => by
        simp only [Bool.not_eq_true', decide_eq_false_iff_not]
        intro q; exact hn.1 (List.mem_map.2 ⟨e, he, q.trans hx.symm⟩))
      simp only [delE] at this
      simp [delE, hx, this]
    · have hs' : hasE l s = true := by simpa [hasE, hx] using hs
      have := ih (List.pairwise_cons.1 h).2 hs'
      simp only [delE] at this
      simp [delE, hx]; omega

theorem TI.up {E : List Ent} (h : TI E) {n : List Pair} {t : Str} (ht : normU t = some n) (hn : n ≠ []) : ∀ (k : List Pair) {s : Str}, normU s = some (k ++ n) → s ∈ keysE E → t ∈ keysE E
  | [], s, hs, hm => by
    rw [List.nil_append] at hs
    rw [normU_inj ht hs]; exact hm
  | p :: k, s, hs, hm => by
    obtain ⟨e, he, rfl⟩ := List.mem_map.1 hm
    obtain ⟨q, h1, h2⟩ := parent_norm (p := p) (l := k ++ n) hs
    have hd : depthU e.1 ≠ 1 := by
      rw [depth_norm hs]
      have : 0 < n.length := List.length_pos_iff.2 hn
      simp only [List.cons_append, List.length_cons, List.length_append]; omega
    have h3 := h.linked e he hd
    rw [h1] at h3
    exact h.up ht hn k h2 (hasE_iff.1 h3)
theorem TI.not_below {E : List Ent} (h : TI E) {t s : Str} (ht : properU t = true) (hn : hasE E t = false) (hs : s ∈ keysE E) : underU s t = false := by
  cases hu : underU s t with
  | false => rfl
  | true =>
    obtain ⟨k, m, e1, e2⟩ := under_parts hu
    obtain ⟨p, l, e3⟩ := proper_norm ht
    rw [e2] at e3
    cases e3
    have := hasE_iff.2 (h.up e2 (by simp) k e1 hs)
    rw [hn] at this; cases this

theorem TI.ins {E : List Ent} (h : TI E) {n : Str} {a : List Att} (h1 : properU n = true) (h2 : hasE E n = false) (h3 : depthU n ≠ 1 → hasE E (parentU n).1 = true) (h4 : E.length < 256) : TI (insE (n, sortedL a) E) where
  ord := insE_ord h.ord (fun q => by rw [hasE_iff.2 q] at h2; cases h2)
  proper e he := by
    rcases insE_mem.1 he with rfl | he
    · exact h1
    · exact h.proper e he
  normal e he := by
    rcases insE_mem.1 he with rfl | he
    · exact sorted_idem a
    · exact h.normal e he
  linked e he hd := by
    rcases insE_mem.1 he with rfl | he
    · exact hasE_iff.2 (insE_keys.2 (.inr (hasE_iff.1 (h3 hd))))
    · exact hasE_iff.2 (insE_keys.2 (.inr (hasE_iff.1 (h.linked e he hd))))
  few := by rw [(insE_perm _ _).length_eq]; simp; omega
theorem parented_depth {E : List Ent} {n : Str} (h : parentedE E n = true) : hasE E (parentU n).1 = true := by
  simp only [parentedE, Bool.and_eq_true] at h; exact h.2
theorem TI.add {E : List Ent} (h : TI E) (n : Str) (a : List Att) : TI (addE E n a).1 := by
  unfold addE
  split
  · exact h
  split
  · exact h
  split
  · exact h
  split
  · exact h
  rename_i h1 h2 h3 h4
  exact h.ins (by simpa using h1) (by simpa using h2) (fun _ => parented_depth (by simpa using h3)) (by omega)
theorem TI.put {E : List Ent} (h : TI E) (n : Str) (a : List Att) : TI (putE E n a).1 := by
  unfold putE
  split
  · exact h
  rename_i h1
  have h1' : hasE E n = true := by simpa using h1
  have hk : ∀ x, x ∈ keysE (insE (n, sortedL a) (delE E n)) ↔ x ∈ keysE E := fun x => by
    rw [insE_keys, delE_keys]
    by_cases hx : x = n
    · subst hx; simp [hasE_iff.1 h1']
    · simp [hx]
  have hnot : n ∉ keysE (delE E n) := fun q => (delE_keys.1 q).2 rfl
  exact {
    ord := insE_ord (h.ord.filter _) hnot
    proper := fun e he => h.key ((hk e.1).1 (List.mem_map.2 ⟨e, he, rfl⟩))
    normal := fun e he => by
      rcases insE_mem.1 he with rfl | he
      · exact sorted_idem a
      · exact h.normal e (List.mem_filter.1 he).1
    linked := fun e he hd => by
      obtain ⟨e', he', hs⟩ := List.mem_map.1 ((hk e.1).1 (List.mem_map.2 ⟨e, he, rfl⟩))
      have := h.linked e' he' (by rw [show e'.1 = e.1 from hs]; exact hd)
      rw [show e'.1 = e.1 from hs] at this
      exact hasE_iff.2 ((hk _).2 (hasE_iff.1 this))
    few := by
      rw [(insE_perm _ _).length_eq]
      have := delE_len h.ord h1'
      have := h.few
      simp; omega }
theorem TI.delete {E : List Ent} (h : TI E) (s : Str) : TI (deleteE E s).1 := by
  unfold deleteE
  split
  · exact h
  split
  · exact h
  rename_i h1 h2
  have hk : kidsE E s = [] := Classical.byContradiction fun q => h2 (.inr q)
  exact {
    ord := h.ord.filter _
    proper := fun e he => h.proper e (List.mem_filter.1 he).1
    normal := fun e he => h.normal e (List.mem_filter.1 he).1
    linked := fun e he hd => by
      have he' := (List.mem_filter.1 he).1
      have hl := h.linked e he' hd
      refine hasE_iff.2 (delE_keys.2 ⟨hasE_iff.1 hl, fun q => ?_⟩)
      obtain ⟨p, l, hn⟩ := proper_norm (h.proper e he')
      obtain ⟨t, ht, _⟩ := parent_norm hn
      have : e.1 ∈ kidsE E s := List.mem_filter.2 ⟨List.mem_map.2 ⟨e, he', rfl⟩, by rw [ht] at q ⊢; simpa using q⟩
      rw [hk] at this; cases this
    few := Nat.le_trans (List.length_filter_le _ _) h.few }

structure MV (E : List Ent) (fr to : Str) : Prop where
  ti : TI E
  src : hasE E fr = true
  tgt : properU to = true
  free : hasE E to = false
  out : underU to fr = false
  par : parentedE E to = true
  low : depthU fr ≠ 1
  deep : deepE E fr to = false
theorem MV.of {E : List Ent} {fr to : Str} (h : TI E) (ho : obsE E fr to = 0) : MV E fr to := by
  unfold obsE at ho
  split at ho
  · cases ho
  split at ho
  · cases ho
  split at ho
  · cases ho
  split at ho
  · cases ho
  split at ho
  · cases ho
  split at ho
  · cases ho
  split at ho
  · cases ho
  rename_i h1 h2 h3 h4 h5 h6 h7
  exact ⟨h, by simpa using h1, by simpa using h2, by simpa using h3, by simpa using h4, by simpa using h5, h6, by simpa using h7⟩
theorem mem_subE {E : List Ent} {b : Str} (hb : b ≠ []) {e : Ent} : e ∈ subE E b ↔ e ∈ E ∧ underU e.1 b = true := by
  simp [subE, List.mem_filter, hb]
section
variable {E : List Ent} {fr to : Str} (h : MV E fr to)
include h
theorem MV.frp : properU fr = true := h.ti.key (hasE_iff.1 h.src)
theorem MV.frn : fr ≠ [] := fun e => by have := h.frp; subst e; simp [properU] at this
theorem MV.below {s : Str} (hs : s ∈ keysE E) (hu : underU s fr = true) : ∃ k m n t, normU s = some (k ++ m) ∧ normU fr = some m ∧ normU to = some n ∧ m ≠ [] ∧ n ≠ [] ∧ k.length + n.length ≤ 8 ∧ rebaseU s fr to = (t, 0) ∧ normU t = some (k ++ n) ∧ renU fr to s = t := by
  obtain ⟨k, m, e1, e2⟩ := under_parts hu
  obtain ⟨q, n, e3⟩ := proper_norm h.tgt
  obtain ⟨p, m', e4⟩ := proper_norm h.frp
  rw [e2] at e4
  obtain ⟨e, he, rfl⟩ := List.mem_map.1 hs
  have hd : k.length + (q :: n).length ≤ 8 := by
    have := h.deep
    simp only [deepE, List.any_eq_false, decide_eq_true_eq, Int.not_lt] at this
    have := this e ((mem_subE h.frn).2 ⟨he, hu⟩)
    rw [depth_norm e1, depth_norm e2, depth_norm e3] at this
    simp only [List.length_append, List.length_cons] at this ⊢
    omega
  obtain ⟨t, h1, h2⟩ := (rebase_norm e1 e2 e3).1 hd
  refine ⟨k, m, q :: n, t, e1, e2, e3, by cases e4; simp, by simp, hd, h1, h2, ?_⟩
  rw [renU, if_pos hu, h1]
omit h in
theorem MV.ren_above {s : Str} (hu : underU s fr = false) : renU fr to s = s := by rw [renU, hu]; simp
theorem MV.ren_under {s : Str} (hs : s ∈ keysE E) (hu : underU s fr = true) : underU (renU fr to s) to = true := by
  obtain ⟨k, m, n, t, e1, e2, e3, _, _, _, _, e4, e5⟩ := h.below hs hu
  rw [e5]
  exact under_iff.2 ⟨k ++ n, n, e4, e3, List.suffix_append k n⟩
theorem MV.inj {s t : Str} (hs : s ∈ keysE E) (ht : t ∈ keysE E) (e : renU fr to s = renU fr to t) : s = t := by
  cases hu : underU s fr <;> cases hv : underU t fr
  · rwa [MV.ren_above hu, MV.ren_above hv] at e
  · have := h.ren_under ht hv
    rw [← e, MV.ren_above hu, h.ti.not_below h.tgt h.free hs] at this; cases this
  · have := h.ren_under hs hu
    rw [e, MV.ren_above hv, h.ti.not_below h.tgt h.free ht] at this; cases this
  · obtain ⟨k, m, n, x, e1, e2, e3, _, _, _, _, e4, e5⟩ := h.below hs hu
    obtain ⟨k', m', n', y, f1, f2, f3, _, _, _, _, f4, f5⟩ := h.below ht hv
    rw [e2] at f2; cases f2
    rw [e3] at f3; cases f3
    rw [e5, f5] at e
    subst e
    rw [e4] at f4
    simp only [Option.some.injEq] at f4
    have : k = k' := List.append_cancel_right f4
    subst this
    exact normU_inj e1 f1
theorem MV.perm : (movedE E fr to).Perm (E.map fun e => (renU fr to e.1, e.2)) := by
  have h1 := foldIns_perm ((subE E fr).map fun e => ((rebaseU e.1 fr to).1, e.2)) (E.filter fun e => !underU e.1 fr)
  have h2 : ((subE E fr).map fun e => ((rebaseU e.1 fr to).1, e.2)) = ((subE E fr).map fun e => (renU fr to e.1, e.2)) := List.map_congr_left fun e he => by
    have := ((mem_subE h.frn).1 he).2
    simp [renU, this]
  have h3 : (E.filter fun e => !underU e.1 fr) = ((E.filter fun e => !underU e.1 fr).map fun e => (renU fr to e.1, e.2)) := by
    refine (List.map_id _).symm.trans (List.map_congr_left fun e he => ?_)
    have := (List.mem_filter.1 he).2
    simp only [Bool.not_eq_true'] at this
    rw [MV.ren_above this]; rfl
  refine h1.trans ?_
  rw [h2, h3, ← List.map_append]
  refine List.Perm.map _ ?_
  have h4 : subE E fr = E.filter fun e => underU e.1 fr := by
    unfold subE
    refine List.filter_congr fun e _ => ?_
    simp [h.frn]
  rw [h4]
  exact List.filter_append_perm _ E
theorem MV.keys {x : Str} : x ∈ keysE (movedE E fr to) ↔ ∃ s ∈ keysE E, renU fr to s = x := by
  unfold keysE
  rw [(h.perm.map _).mem_iff]
  simp only [List.map_map, List.mem_map, Function.comp_apply]
  constructor
  · rintro ⟨e, he, rfl⟩; exact ⟨e.1, ⟨e, he, rfl⟩, rfl⟩
  · rintro ⟨_, ⟨e, he, rfl⟩, rfl⟩; exact ⟨e, he, rfl⟩
theorem MV.ord : OrdE (movedE E fr to) := by
  refine foldIns_ord (h.ti.ord.filter _) ?_ ?_
  · unfold keysE
    rw [List.map_map]
    have : (subE E fr).map ((fun e : Ent => e.1) ∘ fun e => ((rebaseU e.1 fr to).1, e.2)) = (keysE (subE E fr)).map (renU fr to) := by
      unfold keysE
      rw [List.map_map]
      refine List.map_congr_left fun e he => ?_
      have := ((mem_subE h.frn).1 he).2
      simp [renU, this]
    rw [this]
    have hsub : ∀ x ∈ keysE (subE E fr), x ∈ keysE E := fun x hx => by
      obtain ⟨e, he, rfl⟩ := List.mem_map.1 hx
      exact List.mem_map.2 ⟨e, (List.mem_filter.1 he).1, rfl⟩
    have hnd : (keysE (subE E fr)).Nodup := NS.nodup (h.ti.ord.filter _)
    exact List.pairwise_map.2 (List.Pairwise.imp_of_mem (fun {x y} hx hy hne e => hne (h.inj (hsub x hx) (hsub y hy) e)) hnd)
  · intro e he q
    obtain ⟨e', he', rfl⟩ := List.mem_map.1 he
    obtain ⟨h1, h2⟩ := (mem_subE h.frn).1 he'
    have h3 := h.ren_under (List.mem_map.2 ⟨e', h1, rfl⟩) h2
    have h4 : renU fr to e'.1 = (rebaseU e'.1 fr to).1 := by simp [renU, h2]
    rw [h4] at h3
    obtain ⟨x, hx, hq⟩ := List.mem_map.1 q
    have h5 := h.ti.not_below h.tgt h.free (List.mem_map.2 ⟨x, (List.mem_filter.1 hx).1, rfl⟩)
    rw [show x.1 = (rebaseU e'.1 fr to).1 from hq, h3] at h5; cases h5
theorem MV.moved : TI (movedE E fr to) where
  ord := h.ord
  proper e he := by
    obtain ⟨s, hs, hr⟩ := h.keys.1 (List.mem_map.2 ⟨e, he, rfl⟩)
    have hr : renU fr to s = e.1 := hr
    rw [← hr]
    cases hu : underU s fr
    · rw [MV.ren_above hu]; exact h.ti.key hs
    · obtain ⟨k, m, n, t, e1, e2, e3, e4, e5, _, _, e6, e7⟩ := h.below hs hu
      rw [e7]; exact proper_of e6 (by simp [e5])
  normal e he := by
    obtain ⟨e', he', rfl⟩ := List.mem_map.1 (h.perm.mem_iff.1 he)
    exact h.ti.normal e' he'
  linked e he hd := by
    obtain ⟨s, hs, hr⟩ := h.keys.1 (List.mem_map.2 ⟨e, he, rfl⟩)
    have hr : renU fr to s = e.1 := hr
    rw [← hr] at hd ⊢
    refine hasE_iff.2 (h.keys.2 ?_)
    obtain ⟨e', he', rfl⟩ := List.mem_map.1 hs
    cases hu : underU e'.1 fr
    · rw [MV.ren_above hu] at hd ⊢
      have hl := h.ti.linked e' he' hd
      refine ⟨(parentU e'.1).1, hasE_iff.1 hl, MV.ren_above ?_⟩
      cases hv : underU (parentU e'.1).1 fr with
      | false => rfl
      | true =>
        obtain ⟨p, l, hn⟩ := proper_norm (h.ti.proper e' he')
        obtain ⟨t, ht, ht2⟩ := parent_norm hn
        rw [ht] at hv
        have : underU e'.1 t = true := under_iff.2 ⟨_, _, hn, ht2, List.suffix_cons p l⟩
        rw [under_trans this hv] at hu; cases hu
    · obtain ⟨k, m, n, t, e1, e2, e3, e4, e5, e6, _, e7, e8⟩ := h.below hs hu
      rw [e8] at hd ⊢
      cases k with
      | nil =>
        rw [List.nil_append] at e7
        obtain rfl := normU_inj e7 e3
        have hp := parented_depth h.par
        refine ⟨(parentU t).1, hasE_iff.1 hp, MV.ren_above ?_⟩
        cases hv : underU (parentU t).1 fr with
        | false => rfl
        | true =>
          obtain ⟨p, l, hn⟩ := proper_norm h.tgt
          obtain ⟨q, hq, hq2⟩ := parent_norm hn
          rw [hq] at hv
          have : underU t q = true := under_iff.2 ⟨_, _, hn, hq2, List.suffix_cons p l⟩
          have h9 := h.out
          rw [under_trans this hv] at h9; cases h9
      | cons p k =>
        obtain ⟨q, hq, hq2⟩ := parent_norm (p := p) (l := k ++ n) e7
        obtain ⟨r, hr', hr2⟩ := parent_norm (p := p) (l := k ++ m) e1
        have hl := h.ti.linked e' he' (by rw [depth_norm e1]; have := List.length_pos_iff.2 e4; simp only [List.cons_append, List.length_cons, List.length_append]; omega)
        rw [hr'] at hl
        refine ⟨r, hasE_iff.1 hl, ?_⟩
        have hru : underU r fr = true := under_iff.2 ⟨_, _, hr2, e2, List.suffix_append k m⟩
        obtain ⟨k2, m2, n2, t2, g1, g2, g3, _, _, _, _, g6, g7⟩ := h.below (hasE_iff.1 hl) hru
        rw [g7, hq]
        rw [e2] at g2; cases g2
        rw [e3] at g3; cases g3
        rw [hr2] at g1
        simp only [Option.some.injEq] at g1
        have : k = k2 := List.append_cancel_right g1
        subst this
        exact normU_inj g6 hq2
  few := by rw [h.perm.length_eq]; simpa using h.ti.few
end
theorem TI.move {E : List Ent} (h : TI E) (fr to : Str) : TI (moveE E fr to).1 := by
  unfold moveE
  split
  · rename_i ho; exact (MV.of h ho).moved
  · exact h
end Go.Proofs.Tz

/- The tree of entries: its plain law, third part: roots, moves taken back, subtrees. -/
namespace Go.Proofs.Tz
open Go.Vw Go.RowKit Go.Proofs Go.Sort

theorem parented_two {E : List Ent} (h : TI E) {n : Str} (hp : properU n = true) (hq : parentedE E n = true) : 2 ≤ depthU n := by
  obtain ⟨p, l, hn⟩ := proper_norm hp
  obtain ⟨t, ht, ht2⟩ := parent_norm hn
  have := h.key (hasE_iff.1 (parented_depth hq))
  rw [ht] at this
  obtain ⟨q, m, hm⟩ := proper_norm this
  rw [ht2] at hm
  cases hm
  rw [depth_norm hn]; simp
def RootI (R : List Str) (E : List Ent) : Prop := ∀ s, (s ∈ keysE E ∧ depthU s = 1) ↔ s ∈ R
theorem RootI.add {R : List Str} {E : List Ent} (h : TI E) (hr : RootI R E) (n : Str) (a : List Att) : RootI R (addE E n a).1 := by
  unfold addE
  split
  · exact hr
  split
  · exact hr
  split
  · exact hr
  split
  · exact hr
  rename_i h1 h2 h3 h4
  intro s
  rw [insE_keys, ← hr s]
  have h5 := parented_two h (by simpa using h1) (by simpa using h3)
  constructor
  · rintro ⟨rfl | h6, h7⟩
    · omega
    · exact ⟨h6, h7⟩
  · rintro ⟨h6, h7⟩; exact ⟨.inr h6, h7⟩
theorem RootI.put {R : List Str} {E : List Ent} (hr : RootI R E) (n : Str) (a : List Att) : RootI R (putE E n a).1 := by
  unfold putE
  split
  · exact hr
  rename_i h1
  have h1' : hasE E n = true := by simpa using h1
  intro s
  rw [insE_keys, delE_keys, ← hr s]
  constructor
  · rintro ⟨rfl | h6, h7⟩
    · exact ⟨hasE_iff.1 h1', h7⟩
    · exact ⟨h6.1, h7⟩
  · rintro ⟨h6, h7⟩
    refine ⟨?_, h7⟩
    by_cases e : s = n
    · exact .inl e
    · exact .inr ⟨h6, e⟩
theorem RootI.delete {R : List Str} {E : List Ent} (hr : RootI R E) (n : Str) : RootI R (deleteE E n).1 := by
  unfold deleteE
  split
  · exact hr
  split
  · exact hr
  rename_i h1 h2
  intro s
  rw [delE_keys, ← hr s]
  constructor
  · rintro ⟨h6, h7⟩; exact ⟨h6.1, h7⟩
  · rintro ⟨h6, h7⟩
    exact ⟨⟨h6, fun e => h2 (.inl (e ▸ h7))⟩, h7⟩
theorem RootI.move {R : List Str} {E : List Ent} (h : TI E) (hr : RootI R E) (fr to : Str) : RootI R (moveE E fr to).1 := by
  unfold moveE
  by_cases ho : obsE E fr to = 0
  case neg => rw [if_neg ho]; exact hr
  rw [if_pos ho]
  have hm := MV.of h ho
  have hto := parented_two h hm.tgt hm.par
  have key : ∀ s ∈ keysE E, underU s fr = true → depthU s ≠ 1 ∧ depthU (renU fr to s) ≠ 1 := fun s hs hu => by
    obtain ⟨k, m, n, t, e1, e2, e3, e4, e5, _, _, e7, e8⟩ := hm.below hs hu
    have hl := hm.low
    rw [depth_norm e2] at hl
    rw [depth_norm e3] at hto
    rw [e8, depth_norm e7, depth_norm e1]
    have := List.length_pos_iff.2 e4
    simp only [List.length_append]
    omega
  intro s
  rw [hm.keys, ← hr s]
  constructor
  · rintro ⟨⟨x, hx, rfl⟩, h7⟩
    cases hu : underU x fr
    · rw [MV.ren_above hu] at h7 ⊢; exact ⟨hx, h7⟩
    · exact absurd h7 (key x hx hu).2
  · rintro ⟨h6, h7⟩
    refine ⟨⟨s, h6, MV.ren_above ?_⟩, h7⟩
    cases hu : underU s fr with
    | false => rfl
    | true => exact absurd h7 (key s h6 hu).1

theorem MV.back {E : List Ent} {fr to : Str} (h : MV E fr to) : MV (movedE E fr to) to fr ∧ movedE (movedE E fr to) to fr = E := by
  have hfrk := hasE_iff.1 h.src
  have hfrv := proper_valid h.frp
  obtain ⟨k0, m, n, t0, a1, a2, a3, a4, a5, a6, _, a7, a8⟩ := h.below hfrk (under_self hfrv)
  have hk0 : k0 = [] := by
    rw [a2] at a1
    simp only [Option.some.injEq] at a1
    exact List.append_cancel_right (a1.symm.trans (List.nil_append m).symm)
  subst hk0
  rw [List.nil_append] at a7
  obtain rfl := normU_inj a7 a3
  have hto2 := parented_two h.ti h.tgt h.par
  have hmem : t0 ∈ keysE (movedE E fr t0) := h.keys.2 ⟨fr, hfrk, a8⟩
  -- nothing below 'from' is left
  have hgone : ∀ x ∈ keysE (movedE E fr t0), underU x fr = false := fun x hx => by
    obtain ⟨s, hs, rfl⟩ := h.keys.1 hx
    cases hu : underU s fr
    · rw [MV.ren_above hu]; exact hu
    · cases hv : underU (renU fr t0 s) fr with
      | false => rfl
      | true =>
        obtain ⟨k, m', n', t, e1, e2, e3, _, _, _, _, e4, e5⟩ := h.below hs hu
        rw [a2] at e2; cases e2
        rw [a3] at e3; cases e3
        rw [e5] at hv
        obtain ⟨k2, m2, f1, f2⟩ := under_parts hv
        rw [a2] at f2; cases f2
        rw [e4] at f1
        simp only [Option.some.injEq] at f1
        -- k ++ n = k2 ++ m
        rcases List.append_eq_append_iff.1 f1 with ⟨x, hx1, hx2⟩ | ⟨x, hx1, hx2⟩
        · have : underU t0 fr = true := under_iff.2 ⟨n, m, a3, a2, ⟨x, hx2.symm⟩⟩
          rw [h.out] at this; cases this
        · have hb : underU fr t0 = true := under_iff.2 ⟨m, n, a2, a3, ⟨x, hx2.symm⟩⟩
          rw [h.ti.not_below h.tgt h.free hfrk] at hb; cases hb
  have hti := h.moved
  have hparfr : hasE E (parentU fr).1 = true := by
    obtain ⟨e, he, hs⟩ := List.mem_map.1 hfrk
    have := h.ti.linked e he (by rw [show e.1 = fr from hs]; exact h.low)
    rwa [show e.1 = fr from hs] at this
  obtain ⟨p, l, hn⟩ := proper_norm h.frp
  obtain ⟨q, hq, hq2⟩ := parent_norm hn
  rw [hq] at hparfr
  have hqn : underU q fr = false := by
    cases hv : underU q fr with
    | false => rfl
    | true =>
      obtain ⟨k2, m2, f1, f2⟩ := under_parts hv
      rw [hn] at f2; cases f2
      rw [hq2] at f1
      simp only [Option.some.injEq] at f1
      have := congrArg List.length f1
      simp at this
      omega
  have hren : ∀ s ∈ keysE E, renU t0 fr (renU fr t0 s) = s := fun s hs => by
    cases hu : underU s fr
    · rw [MV.ren_above hu]
      exact MV.ren_above (h.ti.not_below h.tgt h.free hs)
    · obtain ⟨k, m', n', t, e1, e2, e3, _, _, _, _, e4, e5⟩ := h.below hs hu
      rw [a2] at e2; cases e2
      rw [a3] at e3; cases e3
      rw [e5]
      have h8 := (normU_inv e1).2.1
      obtain ⟨t2, g1, g2⟩ := (rebase_norm e4 a3 a2).1 (by simpa using h8)
      have hu2 : underU t t0 = true := under_iff.2 ⟨_, _, e4, a3, List.suffix_append k n⟩
      rw [renU, if_pos hu2, g1]
      exact normU_inj g2 e1
  have hb : MV (movedE E fr t0) t0 fr := {
    ti := hti
    src := hasE_iff.2 hmem
    tgt := h.frp
    free := by
      cases hv : hasE (movedE E fr t0) fr with
      | false => rfl
      | true => have := hgone fr (hasE_iff.1 hv); rw [under_self hfrv] at this; cases this
    out := by
      cases hv : underU fr t0 with
      | false => rfl
      | true => rw [h.ti.not_below h.tgt h.free hfrk] at hv; cases hv
    par := by
      simp only [parentedE, hq, Bool.true_and]
      exact hasE_iff.2 (h.keys.2 ⟨q, hasE_iff.1 hparfr, MV.ren_above hqn⟩)
    low := by omega
    deep := by
      simp only [deepE, List.any_eq_false, decide_eq_true_eq, Int.not_lt]
      intro e he
      have htn : t0 ≠ [] := fun e => by have := h.tgt; subst e; simp [properU] at this
      obtain ⟨he1, he2⟩ := (mem_subE htn).1 he
      obtain ⟨s, hs, hr⟩ := h.keys.1 (List.mem_map.2 ⟨e, he1, rfl⟩)
      have hr : renU fr t0 s = e.1 := hr
      cases hu : underU s fr
      · rw [MV.ren_above hu] at hr
        rw [← hr, h.ti.not_below h.tgt h.free hs] at he2; cases he2
      · obtain ⟨k, m', n', t, e1, e2, e3, _, _, _, _, e4, e5⟩ := h.below hs hu
        rw [a2] at e2; cases e2
        rw [a3] at e3; cases e3
        rw [← hr, e5, depth_norm e4, depth_norm a3, depth_norm a2]
        have h8 := (normU_inv e1).2.1
        simp only [List.length_append] at h8 ⊢
        omega }
  refine ⟨hb, OrdE.ext hb.ord h.ti.ord ?_⟩
  refine hb.perm.trans ((h.perm.map _).trans ?_)
  rw [List.map_map]
  have : E.map ((fun e : Ent => (renU t0 fr e.1, e.2)) ∘ fun e => (renU fr t0 e.1, e.2)) = E := by
    refine (List.map_congr_left fun e he => ?_).trans (List.map_id E)
    simp only [Function.comp_apply, hren e.1 (List.mem_map.2 ⟨e, he, rfl⟩)]
    rfl
  rw [this]
end Go.Proofs.Tz

/- Layer 13 (refint), plain law: the walk through groups, depth first. -/
namespace Go.Proofs.Tz
open Go.Vw Go.RowKit Go.Proofs Go.Sort

section
-- 'ks n': none, if there is no such entry; some none, if it is a user; some (some l), if it is a group that lists l.
variable (ks : Str → Option (Option (List Str)))
def dfs : Nat → Str → List Str × List Str → List Str × List Str
  | 0, _, st => st
  | f + 1, n, st => match ks n with
    | none => st
    | some k => if n ∈ st.1 then st else match k with
      | none => (n :: st.1, st.2 ++ [n])
      | some l => l.foldl (fun st m => dfs f m st) (n :: st.1, st.2)
inductive Via (g0 : Str) : Str → Prop
  | here : Via g0 g0
  | step {g m : Str} {l : List Str} (h : Via g0 g) (hg : ks g = some (some l)) (hm : m ∈ l) (hk : (ks m).isSome = true) : Via g0 m
theorem Via.trans {a b c : Str} (h1 : Via ks a b) (h2 : Via ks b c) : Via ks a c := by
  induction h2 with
  | here => exact h1
  | step _ hg hm hk ih => exact .step ih hg hm hk

structure Walked (from' : Str → Prop) (st st' : List Str × List Str) : Prop where
  grow : ∀ x ∈ st.1, x ∈ st'.1
  users : ∃ us, st'.2 = st.2 ++ us ∧ us.Nodup ∧ (∀ x, x ∈ us ↔ x ∈ st'.1 ∧ x ∉ st.1 ∧ ks x = some none)
  sound : ∀ x ∈ st'.1, x ∉ st.1 → (ks x).isSome = true ∧ ∃ a, from' a ∧ Via ks a x
  closed : ∀ g ∈ st'.1, g ∉ st.1 → ∀ l, ks g = some (some l) → ∀ m ∈ l, (ks m).isSome = true → m ∈ st'.1
theorem Walked.refl {Fr : Str → Prop} (st : List Str × List Str) : Walked ks Fr st st where
  grow := fun x h => h
  users := ⟨[], by simp, by simp, fun x => by simp; intro h1 h2; exact absurd h1 h2⟩
  sound := fun x h h' => absurd h h'
  closed := fun g h h' => absurd h h'
theorem Walked.trans {Fr : Str → Prop} {a b c : List Str × List Str} (h1 : Walked ks Fr a b) (h2 : Walked ks Fr b c) : Walked ks Fr a c where
  grow := fun x h => h2.grow x (h1.grow x h)
  users := by
    obtain ⟨u, hu, nu, mu⟩ := h1.users
    obtain ⟨v, hv, nv, mv⟩ := h2.users
    refine ⟨u ++ v, by rw [hv, hu, List.append_assoc], List.nodup_append.2 ⟨nu, nv, fun x hx y hy e => ?_⟩, fun x => ?_⟩
    · subst e
      exact ((mv x).1 hy).2.1 ((mu x).1 hx).1
    · rw [List.mem_append, mu, mv]
      constructor
      · rintro (⟨q1, q2, q3⟩ | ⟨q1, q2, q3⟩)
        · exact ⟨h2.grow x q1, q2, q3⟩
        · exact ⟨q1, fun q => q2 (h1.grow x q), q3⟩
      · rintro ⟨q1, q2, q3⟩
        by_cases hb : x ∈ b.1
        · exact .inl ⟨hb, q2, q3⟩
        · exact .inr ⟨q1, hb, q3⟩
  sound := fun x hx hn => by
    by_cases hb : x ∈ b.1
    · exact h1.sound x hb hn
    · exact h2.sound x hx hb
  closed := fun g hg hn l hl m hm hk => by
    by_cases hb : g ∈ b.1
    · exact h2.grow m (h1.closed g hb hn l hl m hm hk)
    · exact h2.closed g hg hb l hl m hm hk
theorem Walked.mono {Fr Fr' : Str → Prop} (hf : ∀ a, Fr a → ∃ b, Fr' b ∧ Via ks b a) {a b : List Str × List Str} (h : Walked ks Fr a b) : Walked ks Fr' a b where
  grow := h.grow
  users := h.users
  sound := fun x hx hn => by
    obtain ⟨q, c, hc, hv⟩ := h.sound x hx hn
    obtain ⟨d, hd, hv'⟩ := hf c hc
    exact ⟨q, d, hd, hv'.trans ks hv⟩
  closed := h.closed
def unseen (K : List Str) (seen : List Str) : Nat := K.countP fun x => decide (x ∉ seen)
theorem unseen_mono {K seen seen' : List Str} (h : ∀ x ∈ seen, x ∈ seen') : unseen K seen' ≤ unseen K seen := by
  refine List.countP_mono_left fun x _ hx => ?_
  simp only [decide_eq_true_eq] at hx ⊢
  exact fun q => hx (h x q)
theorem unseen_lt {K seen : List Str} {n : Str} (hn : n ∈ K) (hs : n ∉ seen) : unseen K (n :: seen) < unseen K seen := by
  unfold unseen
  induction K with
  | nil => cases hn
  | cons y K ih =>
    have hm : K.countP (fun x => decide (x ∉ n :: seen)) ≤ K.countP (fun x => decide (x ∉ seen)) := unseen_mono (K := K) (fun x hx => List.mem_cons_of_mem n hx)
    rw [List.countP_cons, List.countP_cons]
    by_cases hy : y = n
    · subst hy
      have hA : decide (y ∉ y :: seen) = false := by simp
      have hB : decide (y ∉ seen) = true := by simp [hs]
      rw [hA, hB]
      simp only [Bool.false_eq_true, if_false, if_true]
      omega
    · have hn' : n ∈ K := by
        rcases List.mem_cons.1 hn with e | e
        · exact absurd e.symm hy
        · exact e
      have := ih hn'
      have e : decide (y ∉ n :: seen) = decide (y ∉ seen) := by simp [hy]
      rw [e]
      omega
theorem dfs_ok {K : List Str} (hK : ∀ n, (ks n).isSome = true → n ∈ K) : ∀ (f : Nat) (n : Str) (st : List Str × List Str), unseen K st.1 < f →
    Walked ks (fun a => a = n) st (dfs ks f n st) ∧ ((ks n).isSome = true → n ∈ (dfs ks f n st).1)
  | 0, n, st, h => by omega
  | f + 1, n, st, h => by
    rw [dfs]
    cases hk : ks n with
    | none => exact ⟨Walked.refl ks st, by simp⟩
    | some k =>
      simp only
      by_cases hs : n ∈ st.1
      · rw [if_pos hs]
        exact ⟨Walked.refl ks st, fun _ => hs⟩
      · rw [if_neg hs]
        have hnK := hK n (by simp [hk])
        cases k with
        | none =>
          refine ⟨⟨fun x hx => List.mem_cons_of_mem n hx, ⟨[n], rfl, by simp, fun x => ?_⟩, fun x hx hn => ?_, fun g hg hn l hl => ?_⟩, fun _ => by simp⟩
          · rw [List.mem_singleton, List.mem_cons]
            constructor
            · rintro rfl; exact ⟨.inl rfl, hs, hk⟩
            · rintro ⟨q1, q2, _⟩
              rcases q1 with q | q
              · exact q
              · exact absurd q q2
          · rcases List.mem_cons.1 hx with rfl | q
            · exact ⟨by simp [hk], _, rfl, .here⟩
            · exact absurd q hn
          · rcases List.mem_cons.1 hg with rfl | q
            · rw [hk] at hl; cases hl
            · exact absurd q hn
        | some l =>
          have hu : unseen K (n :: st.1) < f := by have := unseen_lt hnK hs; omega
          -- the listed ones, one behind the other
          have main : ∀ (r : List Str) (s0 : List Str × List Str), unseen K s0.1 < f → Walked ks (fun a => a ∈ r) s0 (r.foldl (fun st m => dfs ks f m st) s0) ∧ ∀ m ∈ r, (ks m).isSome = true → m ∈ (r.foldl (fun st m => dfs ks f m st) s0).1 := by
            intro r
            induction r with
            | nil => intro s0 _; exact ⟨Walked.refl ks s0, fun m hm => by cases hm⟩
            | cons y r ih =>
              intro s0 h0
              obtain ⟨w1, w2⟩ := dfs_ok hK f y s0 h0
              have h1 : unseen K (dfs ks f y s0).1 < f := Nat.lt_of_le_of_lt (unseen_mono w1.grow) h0
              obtain ⟨w3, w4⟩ := ih _ h1
              rw [List.foldl_cons]
              refine ⟨(w1.mono ks (fun a ha => ⟨a, by simp [ha], .here⟩)).trans ks (w3.mono ks (fun a ha => ⟨a, by simp [ha], .here⟩)), fun m hm hkm => ?_⟩
              rcases List.mem_cons.1 hm with rfl | hm
              · exact w3.grow m (w2 hkm)
              · exact w4 m hm hkm
          change Walked ks _ st (l.foldl (fun st m => dfs ks f m st) (n :: st.1, st.2)) ∧ (_ → n ∈ (l.foldl (fun st m => dfs ks f m st) (n :: st.1, st.2)).1)
          obtain ⟨w, wl⟩ := main l (n :: st.1, st.2) hu
          generalize l.foldl (fun st m => dfs ks f m st) (n :: st.1, st.2) = st' at *
          have hn1 : n ∈ st'.1 := w.grow n (by simp)
          refine ⟨⟨fun x hx => w.grow x (List.mem_cons_of_mem n hx), ?_, fun x hx hnx => ?_, fun g hg hn l' hl' m hm hkm => ?_⟩, fun _ => hn1⟩
          · obtain ⟨us, h1, h2, h3⟩ := w.users
            refine ⟨us, h1, h2, fun x => (h3 x).trans ⟨?_, ?_⟩⟩
            · rintro ⟨q1, q2, q3⟩
              exact ⟨q1, fun q => q2 (List.mem_cons_of_mem n q), q3⟩
            · rintro ⟨q1, q2, q3⟩
              refine ⟨q1, fun q => ?_, q3⟩
              rcases List.mem_cons.1 q with rfl | q
              · rw [hk] at q3; cases q3
              · exact q2 q
          · by_cases hxn : x = n
            · subst hxn
              exact ⟨by simp [hk], _, rfl, .here⟩
            · obtain ⟨q, a, ha, hv⟩ := w.sound x hx (fun q => (List.mem_cons.1 q).elim hxn hnx)
              exact ⟨q, n, rfl, Via.trans ks (.step .here hk ha (by
                cases hv with
                | here => exact q
                | step h1 hg hm hkx =>
                  have : ∀ {z : Str}, Via ks a z → (ks z).isSome = true → (ks a).isSome = true := fun h => by
                    induction h with
                    | here => exact id
                    | step _ hg _ _ ih => exact fun _ => ih (by simp [hg])
                  exact this (.step h1 hg hm hkx) hkx)) hv⟩
          · by_cases hgn : g = n
            · subst hgn
              rw [hk] at hl'
              cases hl'
              exact wl m hm hkm
            · exact w.closed g hg (fun q => (List.mem_cons.1 q).elim hgn hn) l' hl' m hm hkm
end
end Go.Proofs.Tz

/- Layer 13 (refint), plain law: the reference's queue of groups. -/
namespace Go.Proofs.Tz
open Go.Vw Go.RowKit Go.Proofs Go.Sort

def placeN : List Str → Str → List Str
  | [], s => [s]
  | x :: l, s => if 0 < cmpN x s then s :: x :: l else x :: placeN l s
def placedN (l : List Str) (s : Str) : List Str := if s ∈ l then l else placeN l s
theorem placeN_perm : ∀ (l : List Str) (s : Str), (placeN l s).Perm (s :: l)
  | [], s => List.Perm.refl _
  | x :: l, s => by
    unfold placeN
    split
    · exact List.Perm.refl _
    · exact ((placeN_perm l s).cons x).trans (List.Perm.swap s x l)
theorem placeN_NS : ∀ {l : List Str} {s : Str}, NS l → s ∉ l → NS (placeN l s)
  | [], s, _, _ => by simp [NS, placeN]
  | x :: l, s, h, hn => by
    have hp := List.pairwise_cons.1 h
    have hne : cmpN x s ≠ 0 := fun q => hn (by rw [← cmpN_zero.1 q]; simp)
    unfold placeN
    split
    · rename_i hc
      have hxe : cmpN s x < 0 := by rw [cmpN_swap x s]; omega
      refine List.pairwise_cons.2 ⟨fun y hy => ?_, h⟩
      rcases List.mem_cons.1 hy with rfl | hy
      · exact hxe
      · exact cmpN_trans hxe (hp.1 y hy)
    · rename_i hc
      refine List.pairwise_cons.2 ⟨fun y hy => ?_, placeN_NS hp.2 (fun q => hn (List.mem_cons_of_mem x q))⟩
      rcases List.mem_cons.1 ((placeN_perm l s).mem_iff.1 hy) with rfl | hy
      · show cmpN x y < 0
        omega
      · exact hp.1 y hy
theorem placedN_mem {l : List Str} {s x : Str} : x ∈ placedN l s ↔ x ∈ l ∨ x = s := by
  unfold placedN
  split
  · rename_i h
    exact ⟨.inl, fun q => q.elim id (fun e => e ▸ h)⟩
  · rw [(placeN_perm l s).mem_iff, List.mem_cons]; exact Or.comm
theorem placedN_NS {l : List Str} {s : Str} (h : NS l) : NS (placedN l s) := by
  unfold placedN
  split
  · exact h
  · rename_i hn; exact placeN_NS h hn
section
variable (ks : Str → Option (Option (List Str)))
def refer (st : List Str × List Str) (m : Str) : List Str × List Str := match ks m with
  | none => st
  | some none => (st.1, placedN st.2 m)
  | some (some _) => if m ∈ st.1 then st else (st.1 ++ [m], st.2)
structure Qv (g0 : Str) (S : Str → Prop) (op out : List Str) : Prop where
  nd : op.Nodup
  first : g0 ∈ op
  grp : ∀ g ∈ op, (∃ l, ks g = some (some l)) ∧ Via ks g0 g
  ns : NS out
  outs : ∀ x, x ∈ out ↔ S x ∧ ks x = some none
  done : ∀ m, S m → ∀ l, ks m = some (some l) → m ∈ op
  via : ∀ m, S m → (ks m).isSome = true → Via ks g0 m
theorem Qv.congr {g0 : Str} {S S' : Str → Prop} {op out : List Str} (h : Qv ks g0 S op out) (e : ∀ x, S x ↔ S' x) : Qv ks g0 S' op out := by
  have : S = S' := funext fun x => propext (e x)
  exact this ▸ h
theorem Qv.step {g0 : Str} {S : Str → Prop} {op out : List Str} (h : Qv ks g0 S op out) {g m : Str} {l : List Str} (hg : g ∈ op) (hl : ks g = some (some l)) (hm : m ∈ l) :
    Qv ks g0 (fun x => S x ∨ x = m) (refer ks (op, out) m).1 (refer ks (op, out) m).2 := by
  have hv : (ks m).isSome = true → Via ks g0 m := fun q => .step (h.grp g hg).2 hl hm q
  unfold refer
  cases hk : ks m with
  | none =>
    refine ⟨h.nd, h.first, h.grp, h.ns, fun x => (h.outs x).trans ⟨fun q => ⟨.inl q.1, q.2⟩, fun q => ⟨q.1.resolve_right (fun e => ?_), q.2⟩⟩, fun x hx l' hl' => ?_, fun x hx hs => ?_⟩
    · subst e; rw [hk] at q; cases q.2
    · rcases hx with hx | rfl
      · exact h.done x hx l' hl'
      · rw [hk] at hl'; cases hl'
    · rcases hx with hx | rfl
      · exact h.via x hx hs
      · exact hv hs
  | some k =>
    have hv' : Via ks g0 m := hv (by simp [hk])
    have hvia : ∀ x, (S x ∨ x = m) → (ks x).isSome = true → Via ks g0 x := fun x hx hs => hx.elim (fun q => h.via x q hs) (fun e => e ▸ hv')
    cases k with
    | none =>
      refine ⟨h.nd, h.first, h.grp, placedN_NS h.ns, fun x => ?_, fun x hx l' hl' => ?_, hvia⟩
      · rw [placedN_mem, h.outs]
        constructor
        · rintro (q | rfl)
          · exact ⟨.inl q.1, q.2⟩
          · exact ⟨.inr rfl, hk⟩
        · rintro ⟨q | q, q2⟩
          · exact .inl ⟨q, q2⟩
          · exact .inr q
      · rcases hx with hx | rfl
        · exact h.done x hx l' hl'
        · rw [hk] at hl'; cases hl'
    | some l' =>
      have houts : ∀ x, x ∈ out ↔ (S x ∨ x = m) ∧ ks x = some none := fun x => (h.outs x).trans ⟨fun q => ⟨.inl q.1, q.2⟩, fun q => ⟨q.1.resolve_right (fun e => by subst e; rw [hk] at q; cases q.2), q.2⟩⟩
      show Qv ks g0 (fun x => S x ∨ x = m) (if m ∈ op then (op, out) else (op ++ [m], out)).1 (if m ∈ op then (op, out) else (op ++ [m], out)).2
      by_cases hin : m ∈ op
      · rw [if_pos hin]
        exact ⟨h.nd, h.first, h.grp, h.ns, houts, fun x hx l2 hl2 => hx.elim (fun q => h.done x q l2 hl2) (fun e => e ▸ hin), hvia⟩
      · rw [if_neg hin]
        refine ⟨?_, by simp [h.first], fun x hx => ?_, h.ns, houts, fun x hx l2 hl2 => ?_, hvia⟩
        · refine List.nodup_append.2 ⟨h.nd, by simp, fun a ha b hb e => ?_⟩
          rw [List.mem_singleton] at hb
          subst hb; subst e
          exact hin ha
        · rcases List.mem_append.1 hx with hx | hx
          · exact h.grp x hx
          · rw [List.mem_singleton] at hx
            subst hx
            exact ⟨⟨_, hk⟩, hv'⟩
        · rcases hx with hx | rfl
          · exact List.mem_append_left _ (h.done x hx l2 hl2)
          · simp
structure Mem (g0 : Str) (out : List Str) : Prop where
  ns : NS out
  mem : ∀ x, x ∈ out ↔ ks x = some none ∧ Via ks g0 x
theorem Mem.ext {g0 : Str} {a b : List Str} (ha : Mem ks g0 a) (hb : Mem ks g0 b) : a = b := NS_ext ha.ns hb.ns fun x => (ha.mem x).trans (hb.mem x).symm
def dfsU (K : List Str) (g : Str) : List Str := (dfs ks (K.length + 1) g ([], [])).2
theorem dfsU_mem {K : List Str} (hK : ∀ n, (ks n).isSome = true → n ∈ K) {g0 : Str} {l : List Str} (hg : ks g0 = some (some l)) : (dfsU ks K g0).Nodup ∧ ∀ x, x ∈ dfsU ks K g0 ↔ ks x = some none ∧ Via ks g0 x := by
  have hu : unseen K ([] : List Str) < K.length + 1 := Nat.lt_succ_of_le List.countP_le_length
  obtain ⟨w, wn⟩ := dfs_ok ks hK (K.length + 1) g0 ([], []) hu
  have h0 := wn (by simp [hg])
  obtain ⟨us, h1, h2, h3⟩ := w.users
  have he : dfsU ks K g0 = us := by rw [dfsU, h1]; simp
  rw [he]
  have hall : ∀ {x : Str}, Via ks g0 x → x ∈ (dfs ks (K.length + 1) g0 ([], [])).1 := by
    intro x hx
    induction hx with
    | here => exact h0
    | step _ hg hm hk ih => exact w.closed _ ih (by simp) _ hg _ hm hk
  refine ⟨h2, fun x => (h3 x).trans ⟨?_, ?_⟩⟩
  · rintro ⟨q1, q2, q3⟩
    obtain ⟨_, a, rfl, hv⟩ := w.sound x q1 (by simp)
    exact ⟨q3, hv⟩
  · rintro ⟨q1, q2⟩
    exact ⟨hall q2, by simp, q1⟩
def memU (K : List Str) (g : Str) : List Str := sortL cmpN (dfsU ks K g)
theorem memU_ok {K : List Str} (hK : ∀ n, (ks n).isSome = true → n ∈ K) {g0 : Str} {l : List Str} (hg : ks g0 = some (some l)) : Mem ks g0 (memU ks K g0) := by
  obtain ⟨h1, h2⟩ := dfsU_mem ks hK hg
  obtain ⟨p1, p2⟩ := sortL_perm swo_names (dfsU ks K g0)
  have hn : (sortL cmpN (dfsU ks K g0)).Nodup := p1.nodup_iff.2 h1
  suffices hns : NS (sortL cmpN (dfsU ks K g0)) by
    exact ⟨hns, fun x => (p1.mem_iff).trans (h2 x)⟩
  refine List.pairwise_iff_getElem.2 fun i j hi hj hij => ?_
  have h3 := p2 i j hij hj
  simp only [ltOf, decide_eq_false_iff_not] at h3
  have h4 := cmpN_swap (sortL cmpN (dfsU ks K g0))[i] (sortL cmpN (dfsU ks K g0))[j]
  have h5 : cmpN (sortL cmpN (dfsU ks K g0))[i] (sortL cmpN (dfsU ks K g0))[j] ≠ 0 := fun q => (List.pairwise_iff_getElem.1 hn) i j hi hj hij (cmpN_zero.1 q)
  omega
theorem dfs_len {K : List Str} (hK : ∀ n, (ks n).isSome = true → n ∈ K) : ∀ (f : Nat) (n : Str) (st : List Str × List Str),
    (dfs ks f n st).1.length + unseen K (dfs ks f n st).1 ≤ st.1.length + unseen K st.1 ∧ (dfs ks f n st).2.length + st.1.length ≤ st.2.length + (dfs ks f n st).1.length ∧ st.1.length ≤ (dfs ks f n st).1.length
  | 0, n, st => by simp only [dfs]; omega
  | f + 1, n, st => by
    rw [dfs]
    cases hk : ks n with
    | none => simp only; omega
    | some k =>
      simp only
      by_cases hs : n ∈ st.1
      · rw [if_pos hs]; omega
      · rw [if_neg hs]
        have hu := unseen_lt (hK n (by simp [hk])) hs
        cases k with
        | none => simp only [List.length_cons, List.length_append, List.length_nil]; omega
        | some l =>
          have main : ∀ (r : List Str) (s0 : List Str × List Str), (r.foldl (fun st m => dfs ks f m st) s0).1.length + unseen K (r.foldl (fun st m => dfs ks f m st) s0).1 ≤ s0.1.length + unseen K s0.1 ∧ (r.foldl (fun st m => dfs ks f m st) s0).2.length + s0.1.length ≤ s0.2.length + (r.foldl (fun st m => dfs ks f m st) s0).1.length ∧ s0.1.length ≤ (r.foldl (fun st m => dfs ks f m st) s0).1.length := by
            intro r
            induction r with
            | nil => intro s0; simp only [List.foldl_nil]; omega
            | cons y r ih =>
              intro s0
              rw [List.foldl_cons]
              have h1 := dfs_len hK f y s0
              have h2 := ih (dfs ks f y s0)
              omega
          have := main l (n :: st.1, st.2)
          simp only [List.length_cons] at this ⊢
          omega
end
end Go.Proofs.Tz

/- Layer 7 (schema): what is read of a schema. Plain law. -/
namespace Go.Proofs.Tz
open Go.Vw Go.Proofs

abbrev Ty := Str × Int × Bool
abbrev Cl := Str × Str × List Str × List Str
abbrev Sch := List Ty × List Cl
def tyD (t : Ty) : D := .agg [.str t.1, .int .i64 t.2.1, .bool t.2.2]
def clD (c : Cl) : D := .agg [.str c.1, .str c.2.1, strs c.2.2.1, strs c.2.2.2]
def schD (s : Sch) : D := .agg [.sl (s.1.map tyD), .sl (s.2.map clD)]
def tyN (T : List Ty) : List Str := T.map fun t => lower t.1
def clN (C : List Cl) : List Str := C.map fun c => lower c.1
def tyE (T : List Ty) (t : Ty) : Int := if nameB t.1 = false then 5 else if lower t.1 ∈ tyN T then 7 else if t.2.1 < 1 ∨ 5 < t.2.1 then 8 else 0
def tysE : List Ty → List Ty → Int
  | _, [] => 0
  | T, t :: r => if tyE T t = 0 then tysE (T ++ [t]) r else tyE T t
def allTy (T : List Ty) (l : List Str) : Bool := l.all fun n => decide (lower n ∈ tyN T)
def clE (T : List Ty) (C : List Cl) (c : Cl) : Int :=
  if nameB c.1 = false then 5 else if lower c.1 ∈ clN C then 7 else if c.2.1 ≠ [] ∧ lower c.2.1 ∉ clN C then 6
  else if 64 < c.2.2.1.length ∨ 64 < c.2.2.2.length then 3 else if allTy T c.2.2.1 = false ∨ allTy T c.2.2.2 = false then 6 else 0
def clsE (T : List Ty) : List Cl → List Cl → Int
  | _, [] => 0
  | C, c :: r => if clE T C c = 0 then clsE T (C ++ [c]) r else clE T C c
def sClass : Str := [99, 108, 97, 115, 115]
def sMember : Str := [109, 101, 109, 98, 101, 114]
def sGroup : Str := [103, 114, 111, 117, 112]
def tyFind (T : List Ty) (n : Str) : Option Ty := T.find? fun t => decide (lower t.1 = lower n)
def mainE (T : List Ty) : Int := match tyFind T sClass with
  | none => 6
  | some t => if t.2.1 ≠ 1 then 8 else 0
def schE (s : Sch) : Int := if 64 < s.1.length ∨ 32 < s.2.length then 3 else if tysE [] s.1 ≠ 0 then tysE [] s.1 else if clsE s.1 [] s.2 ≠ 0 then clsE s.1 [] s.2 else mainE s.1
def tyZ : Ty := ([], 0, false)
def typeU (s : Sch) (n : Str) : Ty × Bool := if schE s = 0 then (match tyFind s.1 n with
  | some t => (t, true)
  | none => (tyZ, false)) else (tyZ, false)
def isNm (s : Sch) (n : Str) : Bool := (typeU s n).2 && decide ((typeU s n).1.2.1 = 4)
theorem tyFind_none {T : List Ty} {n : Str} : tyFind T n = none ↔ lower n ∉ tyN T := by
  simp only [tyFind, tyN, List.find?_eq_none, decide_eq_true_eq, List.mem_map, not_exists, not_and]
theorem tysE_drop {T : List Ty} {k : Nat} (h : k < T.length) : tysE (T.take k) (T.drop k) = if tyE (T.take k) T[k] = 0 then tysE (T.take (k + 1)) (T.drop (k + 1)) else tyE (T.take k) T[k] := by
  rw [List.drop_eq_getElem_cons h, tysE, take_s h]
theorem clsE_drop {T : List Ty} {C : List Cl} {k : Nat} (h : k < C.length) : clsE T (C.take k) (C.drop k) = if clE T (C.take k) C[k] = 0 then clsE T (C.take (k + 1)) (C.drop (k + 1)) else clE T (C.take k) C[k] := by
  rw [List.drop_eq_getElem_cons h, clsE, take_s h]

end Go.Proofs.Tz

/- Layer 13 (refint): references, Renamed, Removed. Plain law. -/
namespace Go.Proofs.Tz
open Go.Vw Go.RowKit Go.Proofs Go.Sort

def refOf (v : Str) : Option Str := if (cleanU v).2 = 0 ∧ (cleanU v).1 ≠ [] then some (cleanU v).1 else none
def refsL (s : Sch) (A : List Att) : List Str := ((sortedL A).filter fun a => isNm s a.1).flatMap fun a => a.2.filterMap refOf
def refsU (s : Sch) (A : List Att) : List Str := (refsL s A).foldl ins []
abbrev Mod := Int × Str × List Str
def modD (m : Mod) : D := .agg [.int .i64 m.1, .str m.2.1, strs m.2.2]
def mods (l : List Mod) : D := .sl (l.map modD)
def renV (fr to v : Str) : Str × Bool := match refOf v with
  | none => (v, false)
  | some n => if underU n fr = true ∧ (rebaseU n fr to).2 = 0 ∧ cleanB (rebaseU n fr to).1 = true then ((rebaseU n fr to).1, true) else (v, false)
def renA (fr to : Str) (a : Att) : Option Mod := if a.2.any (fun v => (renV fr to v).2) = true then some (3, a.1, (a.2.map fun v => (renV fr to v).1).foldl ins []) else none
def renamedU (s : Sch) (A : List Att) (fr to : Str) : List Mod :=
  if fr = [] ∨ to = [] ∨ validU fr = false ∨ validU to = false then [] else ((sortedL A).filter fun a => isNm s a.1).filterMap (renA fr to)
def remA (n : Str) (a : Att) : Option Mod := if (a.2.filter fun v => decide (refOf v = some n)) ≠ [] then some (2, a.1, a.2.filter fun v => decide (refOf v = some n)) else none
def removedU (s : Sch) (A : List Att) (to : Str) : List Mod := match refOf to with
  | none => []
  | some n => ((sortedL A).filter fun a => isNm s a.1).filterMap (remA n)

theorem compact_ins (l : List Str) : Go.Lib.compact (sortS l) = l.foldl ins [] := by
  obtain ⟨h1, h2⟩ := normV l
  obtain ⟨h3, h4⟩ := insAll_spec l [] List.Pairwise.nil
  exact SS_ext h1 h3 fun x => (h2 x).trans ((h4 x).trans (by simp)).symm

def isGrp (A : List Att) : Bool := (getL A sClass).any fun v => decide (lower v = sGroup)
def listedR (A : List Att) : List Str := (getL A sMember).filterMap fun v => if (cleanU v).2 = 0 then some (cleanU v).1 else none
def ksE (E : List Ent) (n : Str) : Option (Option (List Str)) := match getE E n with
  | none => none
  | some a => if isGrp a = true then some (some (listedR a)) else some none
theorem ksE_some {E : List Ent} {n : Str} (h : (ksE E n).isSome = true) : n ∈ keysE E := by
  cases hh : hasE E n with
  | true => exact hasE_iff.1 hh
  | false => rw [ksE, getE_none hh] at h; cases h
def membersU (E : List Ent) (g : Str) : Option (List Str) := match ksE E g with
  | some (some _) => some (memU (ksE E) (keysE E) g)
  | _ => none
def groupsU (E : List Ent) (u : Str) : List Str := (keysE E).filter fun g => match membersU E g with
  | some l => decide (u ∈ l)
  | none => false
def brokenU (s : Sch) (E : List Ent) : List Pair := E.flatMap fun e => ((refsU s e.2).filter fun n => !hasE E n).map fun n => (e.1, n)
def referU (s : Sch) (E : List Ent) (to : Str) : List Str := match refOf to with
  | none => []
  | some n => (E.filter fun e => decide (n ∈ refsU s e.2)).map (·.1)
end Go.Proofs.Tz

/- Strings of any length that the form allows: lower case and names. -/
set_option maxRecDepth 100000
set_option maxHeartbeats 4000000
namespace Go.Proofs.Tz
open Go.Vw
theorem lowerX_fn (s : Str) (hs : List.length s ≤ 140737488351232) : Ctr Tryz.prog 79 [.d (.str s)] (.d (.str (lower s))) := by
  refine fn_of_vwp (fun i => decide (i < 1000000)) (by kernel_rfl) Tryz.func79 (by kernel_rfl) rfl rfl (Nat.le_of_ble_eq_true rfl) (by kernel_rfl) rfl rfl ?_
  simp -implicitDefEqProofs
  refine loopN (List.length s) (fun k τ => τ 0 = .d (.str s) ∧ τ 4 = .d (.int .i64 k) ∧ τ 3 = .own true 5 ((lower (s.take k)).map u8)) (by simp [lower]) ?_
  rintro k τ hk ⟨h0, h4, h3⟩
  by_cases hlt : k < List.length s
  · by_cases h1 : 65 ≤ (s[k].toNat : Int)
    · by_cases h2 : (s[k].toNat : Int) ≤ 90
      · simp -implicitDefEqProofs [h0, h3, h4, hlt, h1, h2, lower_len]
        refine ⟨by omega, by omega, by omega, by omega, again hlt ⟨by simp [h0], by simp, ?_⟩⟩
        simp -implicitDefEqProofs [lower_take hlt, u8, lowc_toNat _ h1 h2]
      · simp -implicitDefEqProofs [h0, h3, h4, hlt, h1, h2, lower_len]
        refine ⟨by omega, by omega, again hlt ⟨by simp [h0], by simp, ?_⟩⟩
        simp -implicitDefEqProofs [lower_take hlt, u8, lowc, h2]
    · simp -implicitDefEqProofs [h0, h3, h4, hlt, h1, lower_len]
      refine ⟨by omega, by omega, again hlt ⟨by simp [h0], by simp, ?_⟩⟩
      simp -implicitDefEqProofs [lower_take hlt, u8, lowc, h1]
  · simp -implicitDefEqProofs [h0, h3, h4, hlt, bytes_u8]
    rw [List.take_of_length_le (by omega)]
theorem foldLowerX_fn (s : Str) (hs : List.length s ≤ 140737488351232) : Ctr Tryz.prog 83 [.d (.str s)] (.d (.str (lower s))) := by
  refine fn_of_vwp (fun i => decide (i < 1000000)) (by kernel_rfl) Tryz.func83 (by kernel_rfl) rfl rfl (Nat.le_of_ble_eq_true rfl) (by kernel_rfl) rfl rfl ?_
  simp -implicitDefEqProofs
  refine ⟨by omega, ?_⟩
  refine loopN (List.length s) (fun k τ => τ 9 = .d (.int .i64 k) ∧ τ 8 = .d (.int .i64 (List.length s)) ∧ τ 3 = .own true 100005 (halfL s k)) (by simp [halfL, lower, bytesD, u8]) ?_
  rintro k τ hk ⟨h9, h8, h3⟩
  have hlen := halfL_len s k hk
  by_cases hlt : k < List.length s
  · have hg := halfL_get s k hlt
    have hset := halfL_set s k hlt
    generalize halfL s k = M at *
    have hlt2 : k < M.length := by omega
    have hg2 : M[k] = u8 s[k] := (List.getElem?_eq_some_iff.1 hg).2
    simp -implicitDefEqProofs [h9, h8, h3, hlt, hlt2, hg2, u8]
    refine callK (upper_fn _) ?_
    by_cases h1 : 65 ≤ (s[k].toNat : Int) ∧ (s[k].toNat : Int) ≤ 90
    · simp -implicitDefEqProofs [h9, h8, h3, hlt, hlt2, hg2, u8, h1.1, h1.2]
      have e : u8 (lowc s[k]) = .int .u8 ((s[k].toNat : Int) + 32) := by
        simp only [u8, lowc_toNat _ h1.1 h1.2]; congr 1; omega
      rw [e] at hset
      exact ⟨by omega, by omega, again hlt ⟨by simp, by simp [h8], by simp [hset]⟩⟩
    · have hb : (decide (65 ≤ (s[k].toNat : Int)) && decide ((s[k].toNat : Int) ≤ 90)) = false := by simpa using h1
      simp -implicitDefEqProofs [h9, h8, h3, hlt, hlt2, hg2, u8, hb]
      rw [lowc_not h1, ← hg2, List.set_getElem_self] at hset
      exact ⟨by omega, again hlt ⟨by simp, by simp [h8], by simp [h3, hset]⟩⟩
  · simp -implicitDefEqProofs [h9, h8, h3, hlt]
    have e : halfL s k = bytesD (lower s) := by
      have : k = List.length s := by omega
      subst this
      simp [halfL, bytesD, u8]
    simp -implicitDefEqProofs [e, h3]
theorem madeX_fn (s : Str) (hs : List.length s ≤ 140737488351232) : Ctr Tryz.prog 130 [.d (.str s), .d (.clo 131 [])] (.d (.bool (s.all nameC && decide (s ≠ []) && decide (s.length ≤ 64)))) := by
  refine fn_of_vwp (fun _ => false) (by kernel_rfl) Tryz.func130 (by kernel_rfl) rfl rfl (Nat.le_of_ble_eq_true rfl) (by kernel_rfl) rfl rfl ?_
  simp -implicitDefEqProofs
  refine loopN (List.length s) (fun k τ => τ 0 = .d (.str s) ∧ τ 1 = .d (.clo 131 []) ∧ τ 7 = .d (.int .i64 (List.length s)) ∧ τ 8 = .d (.int .i64 k) ∧ ∀ x ∈ s.take k, nameC x = true) (by simp) ?_
  rintro k τ hk ⟨h0, h1, h7, h8, ha⟩
  by_cases hlt : k < List.length s
  · simp -implicitDefEqProofs [h0, h1, h7, h8, hlt]
    refine callK (allowed_fn s[k]) ?_
    by_cases e1 : nameC s[k] = true
    · simp -implicitDefEqProofs [h0, h1, h7, h8, hlt, e1]
      exact ⟨by omega, again hlt ⟨by simp [h0], by simp [h1], by simp [h7], by simp, all_take hlt ha e1⟩⟩
    · simp -implicitDefEqProofs [h0, h1, h7, h8, hlt, e1]
      intro h
      exact absurd (h _ (List.getElem_mem hlt)) e1
  · rw [List.take_of_length_le (by omega)] at ha
    have hall : List.all s nameC = true := by simpa using ha
    by_cases e2 : s = []
    · simp -implicitDefEqProofs [h0, h1, h7, h8, hlt, e2]
    · simp -implicitDefEqProofs [h0, h1, h7, h8, hlt, e2, hall]
      all_goals omega
theorem fnameX_fn (s : Str) (hs : List.length s ≤ 140737488351232) : Ctr Tryz.prog 82 [.d (.str s)] (.d (.bool (nameB s))) := by
  refine fn_of_vwp (fun _ => false) (by kernel_rfl) Tryz.func82 (by kernel_rfl) rfl rfl (Nat.le_of_ble_eq_true rfl) (by kernel_rfl) rfl rfl ?_
  simp -implicitDefEqProofs
  refine callK (madeX_fn s hs) ?_
  by_cases e : (s.all nameC && decide (s ≠ []) && decide (s.length ≤ 64)) = true
  · have e0 := e
    simp only [Bool.and_eq_true, decide_eq_true_eq] at e
    obtain ⟨⟨e1, e2⟩, e3⟩ := e
    obtain ⟨c, t, rfl⟩ := List.exists_cons_of_ne_nil e2
    simp only [e0]
    simp -implicitDefEqProofs
    refine callK (fletter_fn c) ?_
    have e4 : (List.length (c :: t)) ≤ 64 := e3
    simp -implicitDefEqProofs [nameB, e1, e4]
    intro _
    simpa using e4
  · rw [Bool.not_eq_true] at e
    simp only [e]
    simp -implicitDefEqProofs [nameB]
    intro h1 h2 _
    have hne : s ≠ [] := by
      rintro rfl
      simp at h1
    simpa [hne, h2] using e
end Go.Proofs.Tz

/- Layer 7 (schema): what the package knows of a schema: two maps. -/
namespace Go.Proofs.Tz
open Go.Vw Go.Proofs

open Go.RowKit in
theorem Ctr.asData {P : Program} {f : FuncId} {args : List AV} {e : TypeId} {l : List D} (h : Ctr P f args (.own true e l)) : Ctr P f args (.d (.sl l)) := by
  refine ⟨h.1, fun w L og vals hlok hgl hog hv => (h.2 w L og vals hlok hgl hog hv).mono ?_⟩
  rintro x w' ⟨v, L', og', rfl, hgr, hlok', hold', hog', hrc⟩
  obtain ⟨L2, hrc2, hlok2, hold2, hext2⟩ := hrc.demote false hlok' (fun g hg => (hog' g hg).1)
  refine ⟨v, L2, none, rfl, hgr, hlok2, fun c q hc hne => ?_, (fun g hg => by cases hg), OwnR.at_ (P := P) hrc2⟩
  refine (hold2 c q (fun e => ?_)).trans (hold' c q hc hne)
  rcases (hog' c e.symm).2 with h1 | h1
  · omega
  · exact hne h1
def tyM (T : List Ty) : List (D × D) := T.map fun t => (.str (lower t.1), tyD t)
def clM (C : List Cl) : List (D × D) := C.map fun c => (.str (lower c.1), clD c)
def kn (a b : Nat) (T : List Ty) (C : List Cl) : List AV := [.hm (.map (some a)) 9 (tyM T) none, .hm (.map (some b)) 9 (clM C) none]
def kd (a b : Nat) : D := .agg [.raw (.map (some a)), .raw (.map (some b))]
theorem fitS (s : Str) : keyFit (Tryz.prog.underlying 9) (.str s) = true := by
  have : Tryz.prog.underlying 9 = some .string := by kernel_rfl
  rw [this]; rfl
theorem mapTy : Tryz.prog.underlying 162 = some (.map 9 81) := by kernel_rfl
theorem mapCl : Tryz.prog.underlying 163 = some (.map 9 159) := by kernel_rfl
theorem mget_ty (T : List Ty) (n : Str) : mget (tyM T) (.str n) = (T.find? fun t => decide (lower t.1 = n)).map tyD := by
  unfold mget tyM
  rw [List.find?_map]
  have : ((fun p : D × D => keyEq p.1 (.str n)) ∘ fun t : Ty => ((.str (lower t.1) : D), tyD t)) = fun t : Ty => decide (lower t.1 = n) := by
    funext e; simp [keyEq]
  rw [this]
  cases List.find? (fun t : Ty => decide (lower t.1 = n)) T <;> rfl
theorem mget_cl (C : List Cl) (n : Str) : mget (clM C) (.str n) = (C.find? fun c => decide (lower c.1 = n)).map clD := by
  unfold mget clM
  rw [List.find?_map]
  have : ((fun p : D × D => keyEq p.1 (.str n)) ∘ fun t : Cl => ((.str (lower t.1) : D), clD t)) = fun t : Cl => decide (lower t.1 = n) := by
    funext e; simp [keyEq]
  rw [this]
  cases List.find? (fun t : Cl => decide (lower t.1 = n)) C <;> rfl
theorem mset_ty {T : List Ty} {t : Ty} (h : lower t.1 ∉ tyN T) : mset (tyM T) (.str (lower t.1)) (tyD t) = tyM (T ++ [t]) := by
  unfold mset
  have : (tyM T).any (fun p => keyEq p.1 (.str (lower t.1))) = false := by
    rw [List.any_eq_false]
    rintro p hp
    obtain ⟨x, hx, rfl⟩ := List.mem_map.1 hp
    simp only [keyEq, decide_eq_true_eq]
    intro e
    exact h (List.mem_map.2 ⟨x, hx, by simpa using e⟩)
  rw [this]
  simp [tyM]
theorem mset_cl {C : List Cl} {c : Cl} (h : lower c.1 ∉ clN C) : mset (clM C) (.str (lower c.1)) (clD c) = clM (C ++ [c]) := by
  unfold mset
  have : (clM C).any (fun p => keyEq p.1 (.str (lower c.1))) = false := by
    rw [List.any_eq_false]
    rintro p hp
    obtain ⟨x, hx, rfl⟩ := List.mem_map.1 hp
    simp only [keyEq, decide_eq_true_eq]
    intro e
    exact h (List.mem_map.2 ⟨x, hx, by simpa using e⟩)
  rw [this]
  simp [clM]
theorem find_ty {T : List Ty} {n : Str} : (T.find? fun t => decide (lower t.1 = n)).isSome = decide (n ∈ tyN T) := by
  rw [Bool.eq_iff_iff, List.find?_isSome, decide_eq_true_eq, tyN, List.mem_map]
  simp only [decide_eq_true_eq]
theorem find_cl {C : List Cl} {n : Str} : (C.find? fun t => decide (lower t.1 = n)).isSome = decide (n ∈ clN C) := by
  rw [Bool.eq_iff_iff, List.find?_isSome, decide_eq_true_eq, clN, List.mem_map]
  simp only [decide_eq_true_eq]
def FitTy (t : Ty) : Prop := List.length t.1 ≤ 140737488351232
def FitL (l : List Str) : Prop := l.length ≤ 140737488351232 ∧ ∀ s ∈ l, List.length s ≤ 140737488351232
def FitCl (c : Cl) : Prop := List.length c.1 ≤ 140737488351232 ∧ List.length c.2.1 ≤ 140737488351232 ∧ FitL c.2.2.1 ∧ FitL c.2.2.2

theorem tyQ_fn (a b : Nat) (T : List Ty) (C : List Cl) (s : Str) (hs : List.length s ≤ 140737488351232) :
    CtrG Tryz.prog 231 [.d (.str s), .d (.ref (kd a b))] (kn a b T C) (fun r hs' => r = .d (.bool (!decide (lower s ∈ tyN T))) ∧ hs' = kn a b T C) := by
  refine fn_of_vwpG (fun i => i == 9000001) (by kernel_rfl) Tryz.func231 (by kernel_rfl) rfl rfl (Nat.le_of_ble_eq_true rfl) (by kernel_rfl) rfl ?_
  have c1 := foldLowerX_fn s hs
  have hm := mget_ty T (lower s)
  rw [← find_ty]
  generalize lower s = n at *
  simp -implicitDefEqProofs [initG, kn, kd]
  refine callP c1 ?_
  simp -implicitDefEqProofs [initG]
  refine lookK (m := tyM T) (E := none) 1000000 (by omega) mapTy (by simp [initG]) (fitS n) Tryz.zd_81 hm ?_
  cases List.find? (fun t : Ty => decide (lower t.1 = n)) T with
  | none =>
    simp -implicitDefEqProofs [initG]
    exact ⟨.d (.bool true), [1000000, 1000001], by simp, by simp [initG, isH], by simp [ResG], by simp, by simp [initG]⟩
  | some t =>
    simp -implicitDefEqProofs [initG, tyD]
    exact ⟨.d (.bool false), [1000000, 1000001], by simp, by simp [initG, isH], by simp [ResG], by simp, by simp [initG]⟩
def idxQ (T : List Ty) : List Str → Nat → Int
  | [], _ => -1
  | s :: l, k => if lower s ∉ tyN T then k else idxQ T l (k + 1)
theorem idxQ_drop {T : List Ty} {l : List Str} {k : Nat} (h : k < l.length) : idxQ T (l.drop k) k = if lower l[k] ∉ tyN T then (k : Int) else idxQ T (l.drop (k + 1)) (k + 1) := by
  rw [List.drop_eq_getElem_cons h, idxQ]
theorem idxQ_neg (T : List Ty) : ∀ (l : List Str) (k : Nat), decide (0 ≤ idxQ T l k) = !allTy T l
  | [], k => by simp [idxQ, allTy]
  | s :: l, k => by
    rw [idxQ]
    by_cases h : lower s ∈ tyN T
    · have := idxQ_neg T l (k + 1)
      rw [if_neg (by simpa using h), this]
      simp [allTy, h]
    · rw [if_pos h]
      have : (0 : Int) ≤ k := by omega
      simp [allTy, h, this]
def IxI (a b : Nat) (T : List Ty) (C : List Cl) (l : List Str) (V : Int) (k : Nat) (τ : St) : Prop := τ 0 = .d (strs l) ∧ τ 1 = .d (.clo 231 [.ref (kd a b)]) ∧ τ 7 = .d (.int .i64 l.length) ∧ τ 8 = .d (.int .i64 k) ∧
  τ 1000000 = .hm (.map (some a)) 9 (tyM T) none ∧ τ 1000001 = .hm (.map (some b)) 9 (clM C) none ∧ idxQ T (l.drop k) k = V
theorem idxF_fn (a b : Nat) (T : List Ty) (C : List Cl) (l : List Str) (hl : FitL l) :
    CtrG Tryz.prog 166 [.d (strs l), .d (.clo 231 [.ref (kd a b)])] (kn a b T C) (fun r hs' => r = .d (.int .i64 (idxQ T l 0)) ∧ hs' = kn a b T C) := by
  refine fn_of_vwpG (fun i => i == 5000016) (by kernel_rfl) Tryz.func166 (by kernel_rfl) rfl rfl (Nat.le_of_ble_eq_true rfl) (by kernel_rfl) rfl ?_
  obtain ⟨V, hV⟩ : ∃ V, idxQ T l 0 = V := ⟨_, rfl⟩
  rw [hV]
  obtain ⟨hl1, hl2⟩ := hl
  simp -implicitDefEqProofs [initG, kn, strs]
  refine loopN l.length (IxI a b T C l V) ⟨by simp [initG, strs], by simp [initG], by simp [initG], by simp [initG], by simp [initG], by simp [initG], by simpa using hV⟩ ?_
  rintro k τ hk ⟨g0, g1, g7, g8, gA, gB, hI⟩
  by_cases hlt : k < l.length
  · have hlt' : (k : Int) < l.length := by omega
    rw [idxQ_drop hlt] at hI
    have c1 := tyQ_fn a b T C l[k] (hl2 _ (List.getElem_mem hlt))
    generalize hx : l[k] = s at *
    simp -implicitDefEqProofs [g0, g1, g7, g8, strs, hlt, hlt', hx, kd]
    refine givB [1000000, 1000001] 1000000 c1 (by simp [gA, gB, kn]) rfl (by simp) ?_
    rintro r hs' ⟨rfl, rfl⟩
    by_cases hq : lower s ∈ tyN T
    · rw [if_neg (by simpa using hq)] at hI
      simp -implicitDefEqProofs [g0, g1, g7, g8, gA, gB, takeH, putH, kn, hq]
      repeat refine And.intro (by first | omega | rfl) ?_
      exact again hlt ⟨by simp [g0, strs], by simp [g1, kd], by simp [g7], by simp, by simp, by simp, hI⟩
    · rw [if_pos hq] at hI
      simp -implicitDefEqProofs [g0, g1, g7, g8, gA, gB, takeH, putH, kn, hq]
      exact ⟨.d (.int .i64 k), [1000000, 1000001], by simp, by simp [isH], by simp [ResG], by simp [hI], by simp⟩
  · have hlt' : ¬ (k : Int) < l.length := by omega
    rw [List.drop_eq_nil_of_le (by omega), idxQ] at hI
    simp -implicitDefEqProofs [g0, g1, g7, g8, gA, gB, hlt, hlt']
    exact ⟨.d (.int .i64 (-1)), [1000000, 1000001], by simp, by simp [gA, gB, isH], by simp [ResG], by simp [hI], by simp [gA, gB]⟩
theorem contF_fn (a b : Nat) (T : List Ty) (C : List Cl) (l : List Str) (hl : FitL l) :
    CtrG Tryz.prog 116 [.d (strs l), .d (.clo 231 [.ref (kd a b)])] (kn a b T C) (fun r hs' => r = .d (.bool (!allTy T l)) ∧ hs' = kn a b T C) := by
  refine fn_of_vwpG (fun i => i == 5000007) (by kernel_rfl) Tryz.func116 (by kernel_rfl) rfl rfl (Nat.le_of_ble_eq_true rfl) (by kernel_rfl) rfl ?_
  have c1 := idxF_fn a b T C l hl
  have h0 := idxQ_neg T l 0
  generalize idxQ T l 0 = x at *
  simp only [strs, kd] at c1
  simp -implicitDefEqProofs [initG, kn, strs, kd]
  refine givB [1000000, 1000001] 1000000 c1 (by simp [initG, kn]) rfl (by simp) ?_
  rintro r hs' ⟨rfl, rfl⟩
  simp -implicitDefEqProofs [initG, takeH, putH, kn]
  exact ⟨.d (.bool (!allTy T l)), [1000000, 1000001], by simp, by simp [initG, isH], by simp [ResG, h0], by simp, by simp [initG]⟩
theorem kall_fn (a b : Nat) (T : List Ty) (C : List Cl) (l : List Str) (hl : FitL l) :
    CtrG Tryz.prog 227 [.d (kd a b), .d (strs l)] (kn a b T C) (fun r hs' => r = .d (.bool (allTy T l)) ∧ hs' = kn a b T C) := by
  refine fn_of_vwpG (fun i => i == 5000007) (by kernel_rfl) Tryz.func227 (by kernel_rfl) rfl rfl (Nat.le_of_ble_eq_true rfl) (by kernel_rfl) rfl ?_
  have c1 := contF_fn a b T C l hl
  simp only [strs, kd] at c1
  simp -implicitDefEqProofs [initG, kn, strs, kd]
  refine givB [1000000, 1000001] 1000000 c1 (by simp [initG, kn]) rfl (by simp) ?_
  rintro r hs' ⟨rfl, rfl⟩
  simp -implicitDefEqProofs [initG, takeH, putH, kn]
  exact ⟨.d (.bool (allTy T l)), [1000000, 1000001], by simp, by simp [initG, isH], by simp [ResG], by simp, by simp [initG]⟩
theorem klist_fn (a b : Nat) (l : List Str) : Ctr Tryz.prog 226 [.d (kd a b), .d (strs l)] (.d (.int .i64 (if 64 < l.length then 3 else 0))) := by
  refine fn_of_vwp (fun _ => false) (by kernel_rfl) Tryz.func226 (by kernel_rfl) rfl rfl (Nat.le_of_ble_eq_true rfl) (by kernel_rfl) rfl rfl ?_
  by_cases h : 64 < l.length
  · have h' : (64 : Int) < l.length := by omega
    simp -implicitDefEqProofs [strs, kd, h, h']
  · have h' : ¬ (64 : Int) < l.length := by omega
    simp -implicitDefEqProofs [strs, kd, h, h']
theorem addTy_fn (a b : Nat) (T : List Ty) (C : List Cl) (t : Ty) (ht : FitTy t) :
    CtrG Tryz.prog 213 [.d (kd a b), .d (tyD t)] (kn a b T C) (fun r hs' => r = .d (.int .i64 (tyE T t)) ∧ hs' = kn a b (if tyE T t = 0 then T ++ [t] else T) C) := by
  refine fn_of_vwpG (fun _ => false) (by kernel_rfl) Tryz.func213 (by kernel_rfl) rfl rfl (Nat.le_of_ble_eq_true rfl) (by kernel_rfl) rfl ?_
  have hset := mset_ty (T := T) (t := t)
  obtain ⟨n, sy, sg⟩ := t
  have c1 := foldLowerX_fn n ht
  have c2 := fnameX_fn n ht
  have hm := mget_ty T (lower n)
  have hf := find_ty (T := T) (n := lower n)
  obtain ⟨V, hV⟩ : ∃ V, tyE T (n, sy, sg) = V := ⟨_, rfl⟩
  rw [hV]
  unfold tyE at hV
  simp only at hV hset
  have htd : tyD (n, sy, sg) = .agg [.str n, .int .i64 sy, .bool sg] := rfl
  rw [htd] at hset ⊢
  generalize lower n = ln at *
  obtain ⟨o, ho⟩ : ∃ o, List.find? (fun t : Ty => decide (lower t.1 = ln)) T = o := ⟨_, rfl⟩
  rw [ho] at hm hf
  cases hb : nameB n with
  | false =>
    rw [if_pos hb] at hV
    subst hV
    rw [hb] at c2
    simp -implicitDefEqProofs [initG, kn, kd]
    refine callK c1 ?_
    simp -implicitDefEqProofs [initG]
    refine lookK (m := tyM T) (E := none) 1000000 (by omega) mapTy (by simp [initG]) (fitS ln) Tryz.zd_81 hm ?_
    cases o with
    | none =>
      simp -implicitDefEqProofs [initG]
      refine callK c2 ?_
      simp -implicitDefEqProofs [initG]
      exact ⟨.d (.int .i64 5), [1000000, 1000001], by simp, by simp [initG, isH], by simp [ResG], by simp, by simp [initG]⟩
    | some z =>
      simp -implicitDefEqProofs [initG, tyD]
      refine callK c2 ?_
      simp -implicitDefEqProofs [initG]
      exact ⟨.d (.int .i64 5), [1000000, 1000001], by simp, by simp [initG, isH], by simp [ResG], by simp, by simp [initG]⟩
  | true =>
  rw [if_neg (by simp [hb])] at hV
  rw [hb] at c2
  cases o with
  | some z =>
    have hin : ln ∈ tyN T := by simpa using hf.symm
    rw [if_pos hin] at hV
    subst hV
    simp -implicitDefEqProofs [initG, kn, kd]
    refine callK c1 ?_
    simp -implicitDefEqProofs [initG]
    refine lookK (m := tyM T) (E := none) 1000000 (by omega) mapTy (by simp [initG]) (fitS ln) Tryz.zd_81 hm ?_
    simp -implicitDefEqProofs [initG, tyD]
    refine callK c2 ?_
    simp -implicitDefEqProofs [initG]
    exact ⟨.d (.int .i64 7), [1000000, 1000001], by simp, by simp [initG, isH], by simp [ResG], by simp, by simp [initG]⟩
  | none =>
    have hin : ln ∉ tyN T := by simpa using hf.symm
    rw [if_neg hin] at hV
    have hset := hset hin
    have hcase : V = 8 ∧ sy < 1 ∨ V = 8 ∧ ¬ sy < 1 ∧ 5 < sy ∨ V = 0 ∧ ¬ sy < 1 ∧ ¬ 5 < sy := by
      by_cases h1 : sy < 1
      · exact .inl ⟨by rw [← hV, if_pos (.inl h1)], h1⟩
      · by_cases h2 : 5 < sy
        · exact .inr (.inl ⟨by rw [← hV, if_pos (.inr h2)], h1, h2⟩)
        · exact .inr (.inr ⟨by rw [← hV, if_neg (by omega)], h1, h2⟩)
    clear hV
    rcases hcase with ⟨rfl, h1⟩ | ⟨rfl, h1, h2⟩ | ⟨rfl, h1, h2⟩
    · simp -implicitDefEqProofs [initG, kn, kd]
      refine callK c1 ?_
      simp -implicitDefEqProofs [initG]
      refine lookK (m := tyM T) (E := none) 1000000 (by omega) mapTy (by simp [initG]) (fitS ln) Tryz.zd_81 hm ?_
      simp -implicitDefEqProofs [initG]
      refine callK c2 ?_
      simp -implicitDefEqProofs [initG, h1]
      exact ⟨.d (.int .i64 8), [1000000, 1000001], by simp, by simp [initG, isH], by simp [ResG], by simp, by simp [initG]⟩
    · simp -implicitDefEqProofs [initG, kn, kd]
      refine callK c1 ?_
      simp -implicitDefEqProofs [initG]
      refine lookK (m := tyM T) (E := none) 1000000 (by omega) mapTy (by simp [initG]) (fitS ln) Tryz.zd_81 hm ?_
      simp -implicitDefEqProofs [initG]
      refine callK c2 ?_
      simp -implicitDefEqProofs [initG, h1, h2]
      exact ⟨.d (.int .i64 8), [1000000, 1000001], by simp, by simp [initG, isH], by simp [ResG], by simp, by simp [initG]⟩
    · simp -implicitDefEqProofs [initG, kn, kd]
      refine callK c1 ?_
      simp -implicitDefEqProofs [initG]
      refine lookK (m := tyM T) (E := none) 1000000 (by omega) mapTy (by simp [initG]) (fitS ln) Tryz.zd_81 hm ?_
      simp -implicitDefEqProofs [initG]
      refine callK c2 ?_
      simp -implicitDefEqProofs [initG, h1, h2]
      refine updK (E := none) (m := tyM T) 1000000 mapTy (by simp [initG]) (fitS ln) (tyM (T ++ [(n, sy, sg)])) (by rw [hset]) ?_
      simp -implicitDefEqProofs [initG]
      exact ⟨.d (.int .i64 0), [1000000, 1000001], by simp, by simp [initG, isH], by simp [ResG], by simp, by simp [initG]⟩
end Go.Proofs.Tz

/- Layer 7 (schema): a class is added. -/
namespace Go.Proofs.Tz
open Go.Vw Go.Proofs

theorem look_cl (o : Option Cl) : ∃ y : Cl, lookR true (.agg [.str [], .str [], .sl [], .sl []]) (o.map clD) = .tup [.d (clD y), .d (.bool o.isSome)] := by
  cases o with
  | none => exact ⟨([], [], [], []), rfl⟩
  | some c => exact ⟨c, rfl⟩
theorem addCl_fn (a b : Nat) (T : List Ty) (C : List Cl) (c : Cl) (hc : FitCl c) :
    CtrG Tryz.prog 214 [.d (kd a b), .d (clD c)] (kn a b T C) (fun r hs' => r = .d (.int .i64 (clE T C c)) ∧ hs' = kn a b T (if clE T C c = 0 then C ++ [c] else C)) := by
  refine fn_of_vwpG (fun i => i == 9000003 || i == 5000061 || i == 5000067) (by kernel_rfl) Tryz.func214 (by kernel_rfl) rfl rfl (Nat.le_of_ble_eq_true rfl) (by kernel_rfl) rfl ?_
  have hset := mset_cl (C := C) (c := c)
  obtain ⟨n, su, mu, ma⟩ := c
  obtain ⟨f1, f2, f3, f4⟩ := hc
  simp only at f1 f2 f3 f4
  have c1 := foldLowerX_fn n f1
  have c2 := fnameX_fn n f1
  have c3 := foldLowerX_fn su f2
  have d1 := klist_fn a b mu
  have d2 := klist_fn a b ma
  have d3 := kall_fn a b T C mu f3
  have d4 := kall_fn a b T C ma f4
  have hm := mget_cl C (lower n)
  have hf := find_cl (C := C) (n := lower n)
  have hm2 := mget_cl C (lower su)
  have hf2 := find_cl (C := C) (n := lower su)
  obtain ⟨V, hV⟩ : ∃ V, clE T C (n, su, mu, ma) = V := ⟨_, rfl⟩
  rw [hV]
  unfold clE at hV
  simp only at hV hset
  have htd : clD (n, su, mu, ma) = .agg [.str n, .str su, .sl (mu.map .str), .sl (ma.map .str)] := rfl
  rw [htd] at hset ⊢
  simp only [strs, kd] at d1 d2 d3 d4
  generalize lower n = ln at *
  generalize lower su = ls at *
  generalize allTy T mu = am at *
  generalize allTy T ma = aa at *
  generalize List.find? (fun t : Cl => decide (lower t.1 = ln)) C = o1 at *
  generalize List.find? (fun t : Cl => decide (lower t.1 = ls)) C = o2 at *
  obtain ⟨⟨y1a, y1b, y1c, y1d⟩, hy1⟩ := look_cl o1
  obtain ⟨⟨y2a, y2b, y2c, y2d⟩, hy2⟩ := look_cl o2
  rw [hf] at hy1
  rw [hf2] at hy2

  cases hb : nameB n with
  | false =>
    rw [if_pos hb] at hV
    subst hV
    rw [hb] at c2
    simp -implicitDefEqProofs [initG, kn, kd]
    refine callK c1 ?_
    simp -implicitDefEqProofs [initG]
    refine lookK (m := clM C) (E := none) 1000001 (by omega) mapCl (by simp [initG]) (fitS ln) Tryz.zd_159 hm ?_
    rw [hy1]
    simp -implicitDefEqProofs [initG, clD, strs]
    refine callP c3 ?_
    simp -implicitDefEqProofs [initG, clD, strs]
    refine lookK (m := clM C) (E := none) 1000001 (by omega) mapCl (by simp [initG]) (fitS ls) Tryz.zd_159 hm2 ?_
    rw [hy2]
    simp -implicitDefEqProofs [initG, clD, strs]
    refine callK c2 ?_
    simp -implicitDefEqProofs [initG, clD, strs]
    exact ⟨.d (.int .i64 5), [1000000, 1000001], by simp, by simp [initG, isH], by simp [ResG], by simp, by simp [initG]⟩
  | true =>
  rw [if_neg (by simp [hb])] at hV
  rw [hb] at c2
  by_cases h1 : ln ∈ clN C
  · rw [if_pos h1] at hV
    subst hV
    rw [decide_eq_true h1] at hy1
    simp -implicitDefEqProofs [initG, kn, kd]
    refine callK c1 ?_
    simp -implicitDefEqProofs [initG]
    refine lookK (m := clM C) (E := none) 1000001 (by omega) mapCl (by simp [initG]) (fitS ln) Tryz.zd_159 hm ?_
    rw [hy1]
    simp -implicitDefEqProofs [initG, clD, strs]
    refine callP c3 ?_
    simp -implicitDefEqProofs [initG, clD, strs]
    refine lookK (m := clM C) (E := none) 1000001 (by omega) mapCl (by simp [initG]) (fitS ls) Tryz.zd_159 hm2 ?_
    rw [hy2]
    simp -implicitDefEqProofs [initG, clD, strs]
    refine callK c2 ?_
    simp -implicitDefEqProofs [initG, clD, strs]
    exact ⟨.d (.int .i64 7), [1000000, 1000001], by simp, by simp [initG, isH], by simp [ResG], by simp, by simp [initG]⟩
  rw [if_neg h1] at hV
  rw [decide_eq_false h1] at hy1
  have hset := hset h1
  by_cases h2 : su = []
  · subst h2
    rw [if_neg (by simp)] at hV
    by_cases h3 : 64 < mu.length
    · rw [if_pos h3] at d1
      rw [if_pos (.inl h3)] at hV
      subst hV
      simp -implicitDefEqProofs [initG, kn, kd]
      refine callK c1 ?_
      simp -implicitDefEqProofs [initG]
      refine lookK (m := clM C) (E := none) 1000001 (by omega) mapCl (by simp [initG]) (fitS ln) Tryz.zd_159 hm ?_
      rw [hy1]
      simp -implicitDefEqProofs [initG, clD, strs]
      refine callP c3 ?_
      simp -implicitDefEqProofs [initG, clD, strs]
      refine lookK (m := clM C) (E := none) 1000001 (by omega) mapCl (by simp [initG]) (fitS ls) Tryz.zd_159 hm2 ?_
      rw [hy2]
      simp -implicitDefEqProofs [initG, clD, strs]
      refine callK c2 ?_
      simp -implicitDefEqProofs [initG, clD, strs]
      refine callK d1 ?_
      simp -implicitDefEqProofs [initG, clD, strs]
      exact ⟨.d (.int .i64 3), [1000000, 1000001], by simp, by simp [initG, isH], by simp [ResG], by simp, by simp [initG]⟩
    rw [if_neg h3] at d1
    by_cases h4 : 64 < ma.length
    · rw [if_pos h4] at d2
      rw [if_pos (.inr h4)] at hV
      subst hV
      simp -implicitDefEqProofs [initG, kn, kd]
      refine callK c1 ?_
      simp -implicitDefEqProofs [initG]
      refine lookK (m := clM C) (E := none) 1000001 (by omega) mapCl (by simp [initG]) (fitS ln) Tryz.zd_159 hm ?_
      rw [hy1]
      simp -implicitDefEqProofs [initG, clD, strs]
      refine callP c3 ?_
      simp -implicitDefEqProofs [initG, clD, strs]
      refine lookK (m := clM C) (E := none) 1000001 (by omega) mapCl (by simp [initG]) (fitS ls) Tryz.zd_159 hm2 ?_
      rw [hy2]
      simp -implicitDefEqProofs [initG, clD, strs]
      refine callK c2 ?_
      simp -implicitDefEqProofs [initG, clD, strs]
      refine callK d1 ?_
      simp -implicitDefEqProofs [initG, clD, strs]
      refine callK d2 ?_
      simp -implicitDefEqProofs [initG, clD, strs]
      exact ⟨.d (.int .i64 3), [1000000, 1000001], by simp, by simp [initG, isH], by simp [ResG], by simp, by simp [initG]⟩
    rw [if_neg h4] at d2
    rw [if_neg (by omega)] at hV
    cases am with
    | false =>
      rw [if_pos (.inl rfl)] at hV
      subst hV
      simp -implicitDefEqProofs [initG, kn, kd]
      refine callK c1 ?_
      simp -implicitDefEqProofs [initG]
      refine lookK (m := clM C) (E := none) 1000001 (by omega) mapCl (by simp [initG]) (fitS ln) Tryz.zd_159 hm ?_
      rw [hy1]
      simp -implicitDefEqProofs [initG, clD, strs]
      refine callP c3 ?_
      simp -implicitDefEqProofs [initG, clD, strs]
      refine lookK (m := clM C) (E := none) 1000001 (by omega) mapCl (by simp [initG]) (fitS ls) Tryz.zd_159 hm2 ?_
      rw [hy2]
      simp -implicitDefEqProofs [initG, clD, strs]
      refine callK c2 ?_
      simp -implicitDefEqProofs [initG, clD, strs]
      refine callK d1 ?_
      simp -implicitDefEqProofs [initG, clD, strs]
      refine callK d2 ?_
      simp -implicitDefEqProofs [initG, clD, strs]
      refine givB [1000000, 1000001] 1000000 d3 (by simp [initG, kn]) rfl (by simp) ?_
      rintro r hs' ⟨rfl, rfl⟩
      simp -implicitDefEqProofs [initG, clD, strs, takeH, putH, kn]
      exact ⟨.d (.int .i64 6), [1000000, 1000001], by simp, by simp [initG, isH], by simp [ResG], by simp, by simp [initG]⟩
    | true =>
    cases aa with
    | false =>
      rw [if_pos (.inr rfl)] at hV
      subst hV
      simp -implicitDefEqProofs [initG, kn, kd]
      refine callK c1 ?_
      simp -implicitDefEqProofs [initG]
      refine lookK (m := clM C) (E := none) 1000001 (by omega) mapCl (by simp [initG]) (fitS ln) Tryz.zd_159 hm ?_
      rw [hy1]
      simp -implicitDefEqProofs [initG, clD, strs]
      refine callP c3 ?_
      simp -implicitDefEqProofs [initG, clD, strs]
      refine lookK (m := clM C) (E := none) 1000001 (by omega) mapCl (by simp [initG]) (fitS ls) Tryz.zd_159 hm2 ?_
      rw [hy2]
      simp -implicitDefEqProofs [initG, clD, strs]
      refine callK c2 ?_
      simp -implicitDefEqProofs [initG, clD, strs]
      refine callK d1 ?_
      simp -implicitDefEqProofs [initG, clD, strs]
      refine callK d2 ?_
      simp -implicitDefEqProofs [initG, clD, strs]
      refine givB [1000000, 1000001] 1000000 d3 (by simp [initG, kn]) rfl (by simp) ?_
      rintro r hs' ⟨rfl, rfl⟩
      simp -implicitDefEqProofs [initG, clD, strs, takeH, putH, kn]
      refine givB [1000000, 1000001] 1000000 d4 (by simp [initG, kn]) rfl (by simp) ?_
      rintro r hs' ⟨rfl, rfl⟩
      simp -implicitDefEqProofs [initG, clD, strs, takeH, putH, kn]
      exact ⟨.d (.int .i64 6), [1000000, 1000001], by simp, by simp [initG, isH], by simp [ResG], by simp, by simp [initG]⟩
    | true =>
      rw [if_neg (by simp)] at hV
      subst hV
      simp -implicitDefEqProofs [initG, kn, kd]
      refine callK c1 ?_
      simp -implicitDefEqProofs [initG]
      refine lookK (m := clM C) (E := none) 1000001 (by omega) mapCl (by simp [initG]) (fitS ln) Tryz.zd_159 hm ?_
      rw [hy1]
      simp -implicitDefEqProofs [initG, clD, strs]
      refine callP c3 ?_
      simp -implicitDefEqProofs [initG, clD, strs]
      refine lookK (m := clM C) (E := none) 1000001 (by omega) mapCl (by simp [initG]) (fitS ls) Tryz.zd_159 hm2 ?_
      rw [hy2]
      simp -implicitDefEqProofs [initG, clD, strs]
      refine callK c2 ?_
      simp -implicitDefEqProofs [initG, clD, strs]
      refine callK d1 ?_
      simp -implicitDefEqProofs [initG, clD, strs]
      refine callK d2 ?_
      simp -implicitDefEqProofs [initG, clD, strs]
      refine givB [1000000, 1000001] 1000000 d3 (by simp [initG, kn]) rfl (by simp) ?_
      rintro r hs' ⟨rfl, rfl⟩
      simp -implicitDefEqProofs [initG, clD, strs, takeH, putH, kn]
      refine givB [1000000, 1000001] 1000000 d4 (by simp [initG, kn]) rfl (by simp) ?_
      rintro r hs' ⟨rfl, rfl⟩
      simp -implicitDefEqProofs [initG, clD, strs, takeH, putH, kn]
      refine updK (E := none) (m := clM C) 1000001 mapCl (by simp [initG]) (fitS ln) (clM (C ++ [(n, [], mu, ma)])) (by rw [hset]) ?_
      simp -implicitDefEqProofs [initG, clD, strs]
      exact ⟨.d (.int .i64 0), [1000000, 1000001], by simp, by simp [initG, isH], by simp [ResG], by simp, by simp [initG]⟩
  by_cases h5 : ls ∈ clN C
  · rw [if_neg (by simp [h5])] at hV
    rw [decide_eq_true h5] at hy2
    by_cases h3 : 64 < mu.length
    · rw [if_pos h3] at d1
      rw [if_pos (.inl h3)] at hV
      subst hV
      simp -implicitDefEqProofs [initG, kn, kd]
      refine callK c1 ?_
      simp -implicitDefEqProofs [initG]
      refine lookK (m := clM C) (E := none) 1000001 (by omega) mapCl (by simp [initG]) (fitS ln) Tryz.zd_159 hm ?_
      rw [hy1]
      simp -implicitDefEqProofs [initG, clD, strs]
      refine callP c3 ?_
      simp -implicitDefEqProofs [initG, clD, strs]
      refine lookK (m := clM C) (E := none) 1000001 (by omega) mapCl (by simp [initG]) (fitS ls) Tryz.zd_159 hm2 ?_
      rw [hy2]
      simp -implicitDefEqProofs [initG, clD, strs]
      refine callK c2 ?_
      simp -implicitDefEqProofs [initG, clD, strs, h2]
      refine callK d1 ?_
      simp -implicitDefEqProofs [initG, clD, strs, h2]
      exact ⟨.d (.int .i64 3), [1000000, 1000001], by simp, by simp [initG, isH], by simp [ResG], by simp, by simp [initG]⟩
    rw [if_neg h3] at d1
    by_cases h4 : 64 < ma.length
    · rw [if_pos h4] at d2
      rw [if_pos (.inr h4)] at hV
      subst hV
      simp -implicitDefEqProofs [initG, kn, kd]
      refine callK c1 ?_
      simp -implicitDefEqProofs [initG]
      refine lookK (m := clM C) (E := none) 1000001 (by omega) mapCl (by simp [initG]) (fitS ln) Tryz.zd_159 hm ?_
      rw [hy1]
      simp -implicitDefEqProofs [initG, clD, strs]
      refine callP c3 ?_
      simp -implicitDefEqProofs [initG, clD, strs]
      refine lookK (m := clM C) (E := none) 1000001 (by omega) mapCl (by simp [initG]) (fitS ls) Tryz.zd_159 hm2 ?_
      rw [hy2]
      simp -implicitDefEqProofs [initG, clD, strs]
      refine callK c2 ?_
      simp -implicitDefEqProofs [initG, clD, strs, h2]
      refine callK d1 ?_
      simp -implicitDefEqProofs [initG, clD, strs, h2]
      refine callK d2 ?_
      simp -implicitDefEqProofs [initG, clD, strs, h2]
      exact ⟨.d (.int .i64 3), [1000000, 1000001], by simp, by simp [initG, isH], by simp [ResG], by simp, by simp [initG]⟩
    rw [if_neg h4] at d2
    rw [if_neg (by omega)] at hV
    cases am with
    | false =>
      rw [if_pos (.inl rfl)] at hV
      subst hV
      simp -implicitDefEqProofs [initG, kn, kd]
      refine callK c1 ?_
      simp -implicitDefEqProofs [initG]
      refine lookK (m := clM C) (E := none) 1000001 (by omega) mapCl (by simp [initG]) (fitS ln) Tryz.zd_159 hm ?_
      rw [hy1]
      simp -implicitDefEqProofs [initG, clD, strs]
      refine callP c3 ?_
      simp -implicitDefEqProofs [initG, clD, strs]
      refine lookK (m := clM C) (E := none) 1000001 (by omega) mapCl (by simp [initG]) (fitS ls) Tryz.zd_159 hm2 ?_
      rw [hy2]
      simp -implicitDefEqProofs [initG, clD, strs]
      refine callK c2 ?_
      simp -implicitDefEqProofs [initG, clD, strs, h2]
      refine callK d1 ?_
      simp -implicitDefEqProofs [initG, clD, strs, h2]
      refine callK d2 ?_
      simp -implicitDefEqProofs [initG, clD, strs, h2]
      refine givB [1000000, 1000001] 1000000 d3 (by simp [initG, kn]) rfl (by simp) ?_
      rintro r hs' ⟨rfl, rfl⟩
      simp -implicitDefEqProofs [initG, clD, strs, takeH, putH, kn, h2]
      exact ⟨.d (.int .i64 6), [1000000, 1000001], by simp, by simp [initG, isH], by simp [ResG], by simp, by simp [initG]⟩
    | true =>
    cases aa with
    | false =>
      rw [if_pos (.inr rfl)] at hV
      subst hV
      simp -implicitDefEqProofs [initG, kn, kd]
      refine callK c1 ?_
      simp -implicitDefEqProofs [initG]
      refine lookK (m := clM C) (E := none) 1000001 (by omega) mapCl (by simp [initG]) (fitS ln) Tryz.zd_159 hm ?_
      rw [hy1]
      simp -implicitDefEqProofs [initG, clD, strs]
      refine callP c3 ?_
      simp -implicitDefEqProofs [initG, clD, strs]
      refine lookK (m := clM C) (E := none) 1000001 (by omega) mapCl (by simp [initG]) (fitS ls) Tryz.zd_159 hm2 ?_
      rw [hy2]
      simp -implicitDefEqProofs [initG, clD, strs]
      refine callK c2 ?_
      simp -implicitDefEqProofs [initG, clD, strs, h2]
      refine callK d1 ?_
      simp -implicitDefEqProofs [initG, clD, strs, h2]
      refine callK d2 ?_
      simp -implicitDefEqProofs [initG, clD, strs, h2]
      refine givB [1000000, 1000001] 1000000 d3 (by simp [initG, kn]) rfl (by simp) ?_
      rintro r hs' ⟨rfl, rfl⟩
      simp -implicitDefEqProofs [initG, clD, strs, takeH, putH, kn, h2]
      refine givB [1000000, 1000001] 1000000 d4 (by simp [initG, kn]) rfl (by simp) ?_
      rintro r hs' ⟨rfl, rfl⟩
      simp -implicitDefEqProofs [initG, clD, strs, takeH, putH, kn, h2]
      exact ⟨.d (.int .i64 6), [1000000, 1000001], by simp, by simp [initG, isH], by simp [ResG], by simp, by simp [initG]⟩
    | true =>
      rw [if_neg (by simp)] at hV
      subst hV
      simp -implicitDefEqProofs [initG, kn, kd]
      refine callK c1 ?_
      simp -implicitDefEqProofs [initG]
      refine lookK (m := clM C) (E := none) 1000001 (by omega) mapCl (by simp [initG]) (fitS ln) Tryz.zd_159 hm ?_
      rw [hy1]
      simp -implicitDefEqProofs [initG, clD, strs]
      refine callP c3 ?_
      simp -implicitDefEqProofs [initG, clD, strs]
      refine lookK (m := clM C) (E := none) 1000001 (by omega) mapCl (by simp [initG]) (fitS ls) Tryz.zd_159 hm2 ?_
      rw [hy2]
      simp -implicitDefEqProofs [initG, clD, strs]
      refine callK c2 ?_
      simp -implicitDefEqProofs [initG, clD, strs, h2]
      refine callK d1 ?_
      simp -implicitDefEqProofs [initG, clD, strs, h2]
      refine callK d2 ?_
      simp -implicitDefEqProofs [initG, clD, strs, h2]
      refine givB [1000000, 1000001] 1000000 d3 (by simp [initG, kn]) rfl (by simp) ?_
      rintro r hs' ⟨rfl, rfl⟩
      simp -implicitDefEqProofs [initG, clD, strs, takeH, putH, kn, h2]
      refine givB [1000000, 1000001] 1000000 d4 (by simp [initG, kn]) rfl (by simp) ?_
      rintro r hs' ⟨rfl, rfl⟩
      simp -implicitDefEqProofs [initG, clD, strs, takeH, putH, kn, h2]
      refine updK (E := none) (m := clM C) 1000001 mapCl (by simp [initG]) (fitS ln) (clM (C ++ [(n, su, mu, ma)])) (by rw [hset]) ?_
      simp -implicitDefEqProofs [initG, clD, strs]
      exact ⟨.d (.int .i64 0), [1000000, 1000001], by simp, by simp [initG, isH], by simp [ResG], by simp, by simp [initG]⟩
  rw [if_pos ⟨h2, h5⟩] at hV
  subst hV
  rw [decide_eq_false h5] at hy2
  simp -implicitDefEqProofs [initG, kn, kd]
  refine callK c1 ?_
  simp -implicitDefEqProofs [initG]
  refine lookK (m := clM C) (E := none) 1000001 (by omega) mapCl (by simp [initG]) (fitS ln) Tryz.zd_159 hm ?_
  rw [hy1]
  simp -implicitDefEqProofs [initG, clD, strs]
  refine callP c3 ?_
  simp -implicitDefEqProofs [initG, clD, strs]
  refine lookK (m := clM C) (E := none) 1000001 (by omega) mapCl (by simp [initG]) (fitS ls) Tryz.zd_159 hm2 ?_
  rw [hy2]
  simp -implicitDefEqProofs [initG, clD, strs]
  refine callK c2 ?_
  simp -implicitDefEqProofs [initG, clD, strs, h2]
  exact ⟨.d (.int .i64 6), [1000000, 1000001], by simp, by simp [initG, isH], by simp [ResG], by simp, by simp [initG]⟩
end Go.Proofs.Tz

/- Layer 7 (schema): the examination of a schema, in the package; Type. -/
namespace Go.Proofs.Tz
open Go.Vw Go.Proofs

def FitSch (s : Sch) : Prop := s.1.length ≤ 140737488351232 ∧ s.2.length ≤ 140737488351232 ∧ (∀ t ∈ s.1, FitTy t) ∧ ∀ c ∈ s.2, FitCl c
def kz : D := .agg [.raw (.map none), .raw (.map none)]
def ExP (s : Sch) (r : AV) (hs' : List AV) : Prop := (schE s ≠ 0 ∧ r = .tup [.d kz, .d (.int .i64 (schE s))] ∧ hs' = []) ∨ (schE s = 0 ∧ ∃ a b, r = .tup [.d (kd a b), .d (.int .i64 0)] ∧ hs' = kn a b s.1 s.2)
def ExI (T : List Ty) (C : List Cl) (a b : Nat) (k : Nat) (τ : St) : Prop := τ 1 = .box (schD (T, C)) ∧ τ 2 = .box kz ∧ τ 4 = .box (kd a b) ∧ τ 28 = .d (.sl (T.map tyD)) ∧ τ 29 = .d (.int .i64 T.length) ∧ τ 30 = .d (.int .i64 k) ∧
  τ 1000000 = .hm (.map (some a)) 9 (tyM (T.take k)) none ∧ τ 1000001 = .hm (.map (some b)) 9 (clM []) none ∧ tysE (T.take k) (T.drop k) = tysE [] T
def ExJ (T : List Ty) (C : List Cl) (a b : Nat) (k : Nat) (τ : St) : Prop := τ 1 = .box (schD (T, C)) ∧ τ 2 = .box kz ∧ τ 4 = .box (kd a b) ∧ τ 43 = .d (.sl (C.map clD)) ∧ τ 44 = .d (.int .i64 C.length) ∧ τ 45 = .d (.int .i64 k) ∧
  τ 1000000 = .hm (.map (some a)) 9 (tyM T) none ∧ τ 1000001 = .hm (.map (some b)) 9 (clM (C.take k)) none ∧ clsE T (C.take k) (C.drop k) = clsE T [] C
theorem exam_fn (s : Sch) (hs : FitSch s) : CtrG Tryz.prog 190 [.d (schD s)] [] (ExP s) := by
  refine fn_of_vwpGN (rs := [.cell 2 165, .tmp 3]) (fun i => i == 5000036 || i == 5000051) (by kernel_rfl) Tryz.func190 (by kernel_rfl) rfl rfl (by simp) (Nat.le_of_ble_eq_true rfl) (by kernel_rfl) rfl ?_
  obtain ⟨T, C⟩ := s
  obtain ⟨hT, hC, fT, fC⟩ := hs
  simp only at hT hC fT fC
  have hsd : schD (T, C) = .agg [.sl (T.map tyD), .sl (C.map clD)] := rfl
  obtain ⟨W, hW⟩ : ∃ W, schE (T, C) = W := ⟨_, rfl⟩
  have hE : ExP (T, C) = fun r hs' => (W ≠ 0 ∧ r = .tup [.d kz, .d (.int .i64 W)] ∧ hs' = []) ∨ (W = 0 ∧ ∃ a b, r = .tup [.d (kd a b), .d (.int .i64 0)] ∧ hs' = kn a b T C) := by
    funext r hs'; simp only [ExP, hW]
  rw [hE]
  unfold schE at hW
  simp only at hW
  by_cases h1 : 64 < T.length
  · have h1' : (64 : Int) < T.length := by omega
    rw [if_pos (.inl h1)] at hW
    subst hW
    simp -implicitDefEqProofs [initG, hsd]
    refine makeK 9 1000000 (by simp [initG]) (fun a => ?_)
    simp -implicitDefEqProofs [initG]
    refine makeK 9 1000001 (by simp [initG]) (fun b => ?_)
    simp -implicitDefEqProofs [initG, h1, h1']
    exact ⟨[.d kz, .d (.int .i64 3)], [], by simp, by simp, by simp [resDs, resD, kz], .intro rfl rfl⟩
  have h1' : ¬ (64 : Int) < T.length := by omega
  by_cases h2 : 32 < C.length
  · have h2' : (32 : Int) < C.length := by omega
    rw [if_pos (.inr h2)] at hW
    subst hW
    simp -implicitDefEqProofs [initG, hsd]
    refine makeK 9 1000000 (by simp [initG]) (fun a => ?_)
    simp -implicitDefEqProofs [initG]
    refine makeK 9 1000001 (by simp [initG]) (fun b => ?_)
    simp -implicitDefEqProofs [initG, h1, h1', h2, h2']
    exact ⟨[.d kz, .d (.int .i64 3)], [], by simp, by simp, by simp [resDs, resD, kz], .intro rfl rfl⟩
  have h2' : ¬ (32 : Int) < C.length := by omega
  rw [if_neg (by omega)] at hW
  simp -implicitDefEqProofs [initG, hsd]
  refine makeK 9 1000000 (by simp [initG]) (fun a => ?_)
  simp -implicitDefEqProofs [initG]
  refine makeK 9 1000001 (by simp [initG]) (fun b => ?_)
  simp -implicitDefEqProofs [initG, h1, h1', h2, h2']
  refine loopN T.length (ExI T C a b) ⟨by simp [initG, hsd], by simp [initG, kz], by simp [initG, kd], by simp, by simp, by simp, by simp [initG, tyM], by simp [initG, clM], by simp⟩ ?_
  rintro k τ hk ⟨g1, g2, g4, g28, g29, g30, gA, gB, hI⟩
  rw [hsd] at g1
  by_cases hlt : k < T.length
  · have hlt' : (k : Int) < T.length := by omega
    rw [tysE_drop hlt] at hI
    have hts := take_s hlt
    have c1 := addTy_fn a b (T.take k) [] T[k] (fT _ (List.getElem_mem hlt))
    generalize hx : T[k] = t at *
    obtain ⟨n, sy, sg⟩ := t
    obtain ⟨e, he⟩ : ∃ e, tyE (T.take k) (n, sy, sg) = e := ⟨_, rfl⟩
    rw [he] at hI c1
    have htd : tyD (n, sy, sg) = .agg [.str n, .int .i64 sy, .bool sg] := rfl
    rw [htd] at c1
    simp only [kd] at c1
    by_cases h0 : e = 0
    · subst h0
      simp only [if_true] at hI c1
      rw [← hts] at c1
      simp -implicitDefEqProofs [g1, g2, g4, g28, g29, g30, gA, gB, hlt, hlt', hx, htd, kd]
      refine givB [1000000, 1000001] 1000000 c1 (by simp [gA, gB, kn]) rfl (by simp) ?_
      rintro r hs' ⟨rfl, rfl⟩
      simp -implicitDefEqProofs [g1, g2, g4, g28, g29, g30, gA, gB, takeH, putH, kn]
      repeat refine And.intro (by first | omega | rfl) ?_
      exact again hlt ⟨by simp [g1, hsd], by simp [g2], by simp [g4, kd], by simp [g28], by simp [g29], by simp, by simp, by simp, hI⟩
    · rw [if_neg h0] at hI
      simp only [if_neg h0] at c1
      rw [← hI, if_pos h0] at hW
      subst hW
      simp -implicitDefEqProofs [g1, g2, g4, g28, g29, g30, gA, gB, hlt, hlt', hx, htd, kd]
      refine givB [1000000, 1000001] 1000000 c1 (by simp [gA, gB, kn]) rfl (by simp) ?_
      rintro r hs' ⟨rfl, rfl⟩
      simp -implicitDefEqProofs [g1, g2, g4, g28, g29, g30, gA, gB, takeH, putH, kn, h0, kz]
      exact ⟨[.d kz, .d (.int .i64 e)], [], by simp, by simp, by simp [resDs, resD, kz], .intro rfl rfl⟩
  · have hlt' : ¬ (k : Int) < T.length := by omega
    rw [List.drop_eq_nil_of_le (by omega), tysE] at hI
    rw [List.take_of_length_le (by omega)] at gA
    rw [← hI, if_neg (by simp)] at hW
    simp -implicitDefEqProofs [g1, g2, g4, g28, g29, g30, gA, gB, hlt, hlt']
    refine loopN C.length (ExJ T C a b) ⟨by simp [g1, hsd], by simp [g2], by simp [g4], by simp, by simp, by simp, by simp [gA], by simp [gB], by simp⟩ ?_
    clear g1 g2 g4 g28 g29 g30 gA gB hI hlt hlt' hk
    rintro k τ hk ⟨g1, g2, g4, g43, g44, g45, gA, gB, hI⟩
    rw [hsd] at g1
    by_cases hlt : k < C.length
    · have hlt' : (k : Int) < C.length := by omega
      rw [clsE_drop hlt] at hI
      have hts := take_s hlt
      have c1 := addCl_fn a b T (C.take k) C[k] (fC _ (List.getElem_mem hlt))
      generalize hx : C[k] = t at *
      obtain ⟨n, su, mu, ma⟩ := t
      obtain ⟨e, he⟩ : ∃ e, clE T (C.take k) (n, su, mu, ma) = e := ⟨_, rfl⟩
      rw [he] at hI c1
      have htd : clD (n, su, mu, ma) = .agg [.str n, .str su, .sl (mu.map .str), .sl (ma.map .str)] := rfl
      rw [htd] at c1
      simp only [kd] at c1
      by_cases h0 : e = 0
      · subst h0
        simp only [if_true] at hI c1
        rw [← hts] at c1
        simp -implicitDefEqProofs [g1, g2, g4, g43, g44, g45, gA, gB, hlt, hlt', hx, htd, kd]
        refine givB [1000000, 1000001] 1000000 c1 (by simp [gA, gB, kn]) rfl (by simp) ?_
        rintro r hs' ⟨rfl, rfl⟩
        simp -implicitDefEqProofs [g1, g2, g4, g43, g44, g45, gA, gB, takeH, putH, kn]
        repeat refine And.intro (by first | omega | rfl) ?_
        exact again hlt ⟨by simp [g1, hsd], by simp [g2], by simp [g4, kd], by simp [g43], by simp [g44], by simp, by simp, by simp, hI⟩
      · rw [if_neg h0] at hI
        simp only [if_neg h0] at c1
        rw [← hI, if_pos h0] at hW
        subst hW
        simp -implicitDefEqProofs [g1, g2, g4, g43, g44, g45, gA, gB, hlt, hlt', hx, htd, kd]
        refine givB [1000000, 1000001] 1000000 c1 (by simp [gA, gB, kn]) rfl (by simp) ?_
        rintro r hs' ⟨rfl, rfl⟩
        simp -implicitDefEqProofs [g1, g2, g4, g43, g44, g45, gA, gB, takeH, putH, kn, h0, kz]
        exact ⟨[.d kz, .d (.int .i64 e)], [], by simp, by simp, by simp [resDs, resD, kz], .intro rfl rfl⟩
    · have hlt' : ¬ (k : Int) < C.length := by omega
      rw [List.drop_eq_nil_of_le (by omega), clsE] at hI
      rw [List.take_of_length_le (by omega)] at gB
      rw [← hI, if_neg (by simp)] at hW
      have hm := mget_ty T sClass
      have hlc : lower sClass = sClass := by decide
      have hq : tyFind T sClass = List.find? (fun t : Ty => decide (lower t.1 = sClass)) T := by unfold tyFind; rw [hlc]
      unfold mainE at hW
      rw [hq] at hW
      obtain ⟨o, ho⟩ : ∃ o, List.find? (fun t : Ty => decide (lower t.1 = sClass)) T = o := ⟨_, rfl⟩
      rw [ho] at hm hW
      simp only [sClass] at hm
      simp -implicitDefEqProofs [g1, g2, g4, g43, g44, g45, gA, gB, hlt, hlt', kd]
      refine lookK (m := tyM T) (E := none) 1000000 (by omega) mapTy (by simp [gA]) (fitS _) Tryz.zd_81 hm ?_
      cases o with
      | none =>
        simp only at hW
        subst hW
        simp -implicitDefEqProofs [g1, g2, g4, g43, g44, g45, gA, gB, kz]
        exact ⟨[.d kz, .d (.int .i64 6)], [], by simp, by simp, by simp [resDs, resD, kz], .intro rfl rfl⟩
      | some t =>
        obtain ⟨n, sy, sg⟩ := t
        simp only at hW
        by_cases h0 : sy = 1
        · rw [if_neg (by simp [h0])] at hW
          subst hW h0
          simp -implicitDefEqProofs [g1, g2, g4, g43, g44, g45, gA, gB, tyD, kz, kd]
          exact ⟨[.d (kd a b), .d (.int .i64 0)], [1000000, 1000001], by simp, by simp [gA, gB, isH], by simp [resDs, resD, kd], by first | exact ⟨a, b, ⟨rfl, rfl⟩, by simp [gA, gB, kn]⟩ | exact ⟨a, b, rfl, by simp [gA, gB, kn]⟩ | (simp [gA, gB, kn, kd])⟩
        · rw [if_pos h0] at hW
          subst hW
          simp -implicitDefEqProofs [g1, g2, g4, g43, g44, g45, gA, gB, tyD, kz, kd, h0]
          exact ⟨[.d kz, .d (.int .i64 8)], [], by simp, by simp, by simp [resDs, resD, kz], .intro rfl rfl⟩
end Go.Proofs.Tz

/- Layer 7 (schema): Type in the package; the reference's examination and Type; isName and names of layer 13. -/
namespace Go.Proofs.Tz
open Go.Vw Go.Proofs

@[simp] theorem fty165_0 : fieldTy Tryz.prog 165 0 = some (162, 0) := by kernel_rfl
@[simp] theorem fty25_0 : fieldTy Tryz.prog 25 0 = some (22, 0) := by kernel_rfl
def LkP (s : Sch) (r : AV) (hs' : List AV) : Prop := (schE s ≠ 0 ∧ r = .d kz ∧ hs' = []) ∨ (schE s = 0 ∧ ∃ a b, r = .d (kd a b) ∧ hs' = kn a b s.1 s.2)
theorem slook_fn (s : Sch) (hs : FitSch s) : CtrG Tryz.prog 142 [.d (schD s)] [] (LkP s) := by
  refine fn_of_vwpGN (rs := [.cell 2 165]) (fun i => i == 5000007) (by kernel_rfl) Tryz.func142 (by kernel_rfl) rfl rfl (by simp) (Nat.le_of_ble_eq_true rfl) (by kernel_rfl) rfl ?_
  have c1 := exam_fn s hs
  obtain ⟨T, C⟩ := s
  have hsd : schD (T, C) = .agg [.sl (T.map tyD), .sl (C.map clD)] := rfl
  rw [hsd] at c1 ⊢
  simp -implicitDefEqProofs [initG]
  refine givB [] 1000000 c1 (by simp) rfl (by simp) ?_
  rintro r hs' (⟨h0, rfl, rfl⟩ | ⟨h0, a, b, rfl, rfl⟩)
  · simp -implicitDefEqProofs [initG, takeH, putH, kz]
    exact ⟨[.d kz], [], by simp, by simp, by simp [resDs, resD, kz], .inl ⟨h0, rfl, rfl⟩⟩
  · simp -implicitDefEqProofs [initG, takeH, putH, kn, kd]
    exact ⟨[.d (kd a b)], [1000000, 1000001], by simp, by simp [isH], by simp [resDs, resD, kd], .inr ⟨h0, a, b, rfl, by simp [kn]⟩⟩
theorem stype_fn (s : Sch) (hs : FitSch s) (n : Str) (hn : List.length n ≤ 140737488351232) : Ctr Tryz.prog 97 [.d (schD s), .d (.str n)] (.tup [.d (tyD (typeU s n).1), .d (.bool (typeU s n).2)]) := by
  refine fn_of_vwpN (rv := .cell 4 81) (rs := [.tmp 5]) (r := .d (tyD (typeU s n).1)) (ys := [.d (.bool (typeU s n).2)]) (fun i => i == 5000010) (by kernel_rfl) Tryz.func97 (by kernel_rfl) rfl rfl (by simp) (Nat.le_of_ble_eq_true rfl) (by kernel_rfl) rfl rfl ?_
  have c1 := slook_fn s hs
  have c2 := foldLowerX_fn n hn
  obtain ⟨R, hR⟩ : ∃ R, typeU s n = R := ⟨_, rfl⟩
  rw [hR]
  unfold typeU tyFind at hR
  obtain ⟨T, C⟩ := s
  have hsd : schD (T, C) = .agg [.sl (T.map tyD), .sl (C.map clD)] := rfl
  rw [hsd] at c1 ⊢
  simp only at hR
  have hm := mget_ty T (lower n)
  obtain ⟨o, ho⟩ : ∃ o, List.find? (fun t : Ty => decide (lower t.1 = lower n)) T = o := ⟨_, rfl⟩
  rw [ho] at hR hm
  generalize lower n = ln at *
  simp -implicitDefEqProofs
  refine givB [] 1000000 c1 (by simp) rfl (by simp) ?_
  rintro r hs' (⟨h0, rfl, rfl⟩ | ⟨h0, a, b, rfl, rfl⟩)
  · rw [if_neg h0] at hR
    subst hR
    simp -implicitDefEqProofs [takeH, putH, kz]
    refine callK c2 ?_
    simp -implicitDefEqProofs
    refine lookN mapTy (fitS ln) Tryz.zd_81 ?_
    simp -implicitDefEqProofs [tyD, tyZ]
  · rw [if_pos h0] at hR
    simp -implicitDefEqProofs [takeH, putH, kn, kd]
    refine callK c2 ?_
    simp -implicitDefEqProofs
    refine lookK (m := tyM T) (E := none) 1000000 (by omega) mapTy (by simp) (fitS ln) Tryz.zd_81 hm ?_
    cases o with
    | none =>
      simp only at hR
      subst hR
      simp -implicitDefEqProofs [tyD, tyZ]
    | some t =>
      simp only at hR
      subst hR
      simp -implicitDefEqProofs [tyD]
theorem rsame_fn (a b : Str) (ha : List.length a ≤ 140737488351232) (hb : List.length b ≤ 140737488351232) : Ctr Tryz.prog 139 [.d (.str a), .d (.str b)] (.d (.bool (decide (lower a = lower b)))) := by
  refine fn_of_vwp (fun _ => false) (by kernel_rfl) Tryz.func139 (by kernel_rfl) rfl rfl (Nat.le_of_ble_eq_true rfl) (by kernel_rfl) rfl rfl ?_
  have c1 := lowerX_fn a ha
  have c2 := lowerX_fn b hb
  generalize lower a = x at *
  generalize lower b = y at *
  simp -implicitDefEqProofs
  refine callK c1 ?_
  simp -implicitDefEqProofs
  refine callK c2 ?_
  simp -implicitDefEqProofs
def loAt (n : Str) : List Str → Nat → Int
  | [], _ => -1
  | x :: l, k => if x = lower n then k else loAt n l (k + 1)
theorem loAt_drop {n : Str} {l : List Str} {k : Nat} (h : k < l.length) : loAt n (l.drop k) k = if l[k] = lower n then (k : Int) else loAt n (l.drop (k + 1)) (k + 1) := by
  rw [List.drop_eq_getElem_cons h, loAt]
theorem loAt_mem (n : Str) : ∀ (l : List Str) (k : Nat), decide (0 ≤ loAt n l k) = decide (lower n ∈ l)
  | [], k => by simp [loAt]
  | x :: l, k => by
    rw [loAt]
    by_cases h : x = lower n
    · rw [if_pos h]
      have : (0 : Int) ≤ k := by omega
      simp [h, this]
    · rw [if_neg h, loAt_mem n l (k + 1)]
      have : ¬ lower n = x := fun e => h e.symm
      simp [this]
theorem loAt_at (n : Str) : ∀ (l : List Str) (k : Nat), lower n ∈ l → ∃ i, loAt n l k = ((k + i : Nat) : Int) ∧ ∃ h : i < l.length, l[i] = lower n ∧ ∀ j (hj : j < i), l[j]'(by omega) ≠ lower n
  | [], k, h => by cases h
  | x :: l, k, h => by
    rw [loAt]
    by_cases hx : x = lower n
    · rw [if_pos hx]
      exact ⟨0, by simp, by simp, hx, fun j hj => by omega⟩
    · rw [if_neg hx]
      obtain ⟨i, h1, h2, h3, h4⟩ := loAt_at n l (k + 1) ((List.mem_cons.1 h).resolve_left (fun e => hx e.symm))
      refine ⟨i + 1, by rw [h1]; congr 1; omega, by simpa using h2, by simpa using h3, fun j hj => ?_⟩
      cases j with
      | zero => simpa using hx
      | succ j => simpa using h4 j (by omega)
def TaI (T : List Ty) (n : Str) (V : Int) (k : Nat) (τ : St) : Prop := τ 0 = .d (.sl (T.map tyD)) ∧ τ 1 = .d (.str n) ∧ τ 5 = .d (.int .i64 k) ∧ loAt n ((tyN T).drop k) k = V
theorem typeAt_fn (T : List Ty) (n : Str) (hT : T.length ≤ 140737488351232) (fT : ∀ t ∈ T, FitTy t) (hn : List.length n ≤ 140737488351232) : Ctr Tryz.prog 87 [.d (.sl (T.map tyD)), .d (.str n)] (.d (.int .i64 (loAt n (tyN T) 0))) := by
  refine fn_of_vwp (fun _ => false) (by kernel_rfl) Tryz.func87 (by kernel_rfl) rfl rfl (Nat.le_of_ble_eq_true rfl) (by kernel_rfl) rfl rfl ?_
  obtain ⟨V, hV⟩ : ∃ V, loAt n (tyN T) 0 = V := ⟨_, rfl⟩
  rw [hV]
  simp -implicitDefEqProofs
  refine loopN T.length (TaI T n V) ⟨by simp, by simp, by simp, by simpa using hV⟩ ?_
  rintro k τ hk ⟨g0, g1, g5, hI⟩
  by_cases hlt : k < T.length
  · have hlt' : (k : Int) < T.length := by omega
    rw [loAt_drop (show k < (tyN T).length by simpa [tyN] using hlt)] at hI
    have e1 : (tyN T)[k]'(by simpa [tyN] using hlt) = lower T[k].1 := by simp [tyN]
    rw [e1] at hI
    have c1 := rsame_fn T[k].1 n (fT _ (List.getElem_mem hlt)) hn
    generalize hx : T[k] = t at *
    obtain ⟨m, sy, sg⟩ := t
    simp only at hI c1
    have htd : tyD (m, sy, sg) = .agg [.str m, .int .i64 sy, .bool sg] := rfl
    by_cases h0 : lower m = lower n
    · rw [if_pos h0] at hI
      subst hI
      rw [decide_eq_true h0] at c1
      simp -implicitDefEqProofs [g0, g1, g5, hlt, hlt', hx, htd]
      refine callK c1 ?_
      simp -implicitDefEqProofs [g0, g1, g5]
    · rw [if_neg h0] at hI
      rw [decide_eq_false h0] at c1
      simp -implicitDefEqProofs [g0, g1, g5, hlt, hlt', hx, htd]
      refine callK c1 ?_
      simp -implicitDefEqProofs [g0, g1, g5]
      repeat refine And.intro (by first | omega | rfl) ?_
      exact again hlt ⟨by simp [g0], by simp [g1], by simp, hI⟩
  · have hlt' : ¬ (k : Int) < T.length := by omega
    rw [List.drop_eq_nil_of_le (by simp [tyN]; omega), loAt] at hI
    subst hI
    simp -implicitDefEqProofs [g0, g1, g5, hlt, hlt']
def CaI (C : List Cl) (n : Str) (V : Int) (k : Nat) (τ : St) : Prop := τ 0 = .d (.sl (C.map clD)) ∧ τ 1 = .d (.str n) ∧ τ 5 = .d (.int .i64 k) ∧ loAt n ((clN C).drop k) k = V
theorem classAt_fn (C : List Cl) (n : Str) (hT : C.length ≤ 140737488351232) (fT : ∀ t ∈ C, FitCl t) (hn : List.length n ≤ 140737488351232) : Ctr Tryz.prog 140 [.d (.sl (C.map clD)), .d (.str n)] (.d (.int .i64 (loAt n (clN C) 0))) := by
  refine fn_of_vwp (fun _ => false) (by kernel_rfl) Tryz.func140 (by kernel_rfl) rfl rfl (Nat.le_of_ble_eq_true rfl) (by kernel_rfl) rfl rfl ?_
  obtain ⟨V, hV⟩ : ∃ V, loAt n (clN C) 0 = V := ⟨_, rfl⟩
  rw [hV]
  simp -implicitDefEqProofs
  refine loopN C.length (CaI C n V) ⟨by simp, by simp, by simp, by simpa using hV⟩ ?_
  rintro k τ hk ⟨g0, g1, g5, hI⟩
  by_cases hlt : k < C.length
  · have hlt' : (k : Int) < C.length := by omega
    rw [loAt_drop (show k < (clN C).length by simpa [clN] using hlt)] at hI
    have e1 : (clN C)[k]'(by simpa [clN] using hlt) = lower C[k].1 := by simp [clN]
    rw [e1] at hI
    have c1 := rsame_fn C[k].1 n (fT _ (List.getElem_mem hlt)).1 hn
    generalize hx : C[k] = t at *
    obtain ⟨m, su, mu, ma⟩ := t
    simp only at hI c1
    have htd : clD (m, su, mu, ma) = .agg [.str m, .str su, .sl (mu.map .str), .sl (ma.map .str)] := rfl
    by_cases h0 : lower m = lower n
    · rw [if_pos h0] at hI
      subst hI
      rw [decide_eq_true h0] at c1
      simp -implicitDefEqProofs [g0, g1, g5, hlt, hlt', hx, htd]
      refine callK c1 ?_
      simp -implicitDefEqProofs [g0, g1, g5]
    · rw [if_neg h0] at hI
      rw [decide_eq_false h0] at c1
      simp -implicitDefEqProofs [g0, g1, g5, hlt, hlt', hx, htd]
      refine callK c1 ?_
      simp -implicitDefEqProofs [g0, g1, g5]
      repeat refine And.intro (by first | omega | rfl) ?_
      exact again hlt ⟨by simp [g0], by simp [g1], by simp, hI⟩
  · have hlt' : ¬ (k : Int) < C.length := by omega
    rw [List.drop_eq_nil_of_le (by simp [clN]; omega), loAt] at hI
    subst hI
    simp -implicitDefEqProofs [g0, g1, g5, hlt, hlt']
end Go.Proofs.Tz

/- Layer 7 (schema): the reference's examination and Type; isName and names of layer 13. -/
namespace Go.Proofs.Tz
open Go.Vw Go.Proofs

theorem loAt_find (T : List Ty) (n : Str) : (loAt n (tyN T) 0 = -1 ∧ tyFind T n = none) ∨ ∃ (i : Nat) (h : i < T.length), loAt n (tyN T) 0 = i ∧ tyFind T n = some T[i] := by
  by_cases h : lower n ∈ tyN T
  · obtain ⟨i, h1, h2, h3, h4⟩ := loAt_at n (tyN T) 0 h
    have h2' : i < T.length := by simpa [tyN] using h2
    refine .inr ⟨i, h2', by simpa using h1, ?_⟩
    unfold tyFind
    rw [List.find?_eq_some_iff_getElem]
    simp only [tyN, List.getElem_map] at h3 h4
    refine ⟨by simpa using h3, i, h2', rfl, fun j hj => ?_⟩
    simpa using h4 j hj
  · refine .inl ⟨?_, tyFind_none.2 h⟩
    have key : ∀ (l : List Str) (k : Nat), lower n ∉ l → loAt n l k = -1 := by
      intro l
      induction l with
      | nil => intro k _; rfl
      | cons x l ih =>
        intro k hk
        rw [loAt, if_neg (fun e => hk (by simp [e]))]
        exact ih (k + 1) (fun q => hk (by simp [q]))
    exact key _ 0 h
def RcM (T : List Ty) (C : List Cl) (su n : Str) (mu ma : List Str) (j : Nat) (l : List Str) (i : Nat) (τ : St) : Prop := τ 2 = .box (schD (T, C)) ∧ τ 5 = .box (clD (n, su, mu, ma)) ∧ τ j = .d (.int .i64 i) ∧ allTy T (l.take i) = true
theorem rclass_fn (T : List Ty) (C : List Cl) (hs : FitSch (T, C)) (k : Nat) (hk : k < C.length) : Ctr Tryz.prog 88 [.d (schD (T, C)), .d (.int .i64 k)] (.d (.int .i64 (clE T (C.take k) C[k]))) := by
  refine fn_of_vwp (fun _ => false) (by kernel_rfl) Tryz.func88 (by kernel_rfl) rfl rfl (Nat.le_of_ble_eq_true rfl) (by kernel_rfl) rfl rfl ?_
  obtain ⟨hT, hC, fT, fC⟩ := hs
  simp only at hT hC fT fC
  have hsd : schD (T, C) = .agg [.sl (T.map tyD), .sl (C.map clD)] := rfl
  obtain ⟨f1, f2, f3, f4⟩ := fC _ (List.getElem_mem hk)
  have hk' : (k : Int) < C.length := by omega
  generalize hx : C[k] = c at *
  obtain ⟨n, su, mu, ma⟩ := c
  simp only at f1 f2 f3 f4
  have hcd : clD (n, su, mu, ma) = .agg [.str n, .str su, .sl (mu.map .str), .sl (ma.map .str)] := rfl
  have c1 := name_fn n
  have hCt : (C.take k).length ≤ 140737488351232 := by simp; omega
  have fCt : ∀ t ∈ C.take k, FitCl t := fun t ht => fC t (List.mem_of_mem_take ht)
  have c2 := classAt_fn (C.take k) n hCt fCt f1
  have c3 := classAt_fn (C.take k) su hCt fCt f2
  have m2 := loAt_mem n (clN (C.take k)) 0
  have m3 := loAt_mem su (clN (C.take k)) 0
  simp only [List.map_take] at c2 c3
  obtain ⟨V, hV⟩ : ∃ V, clE T (C.take k) (n, su, mu, ma) = V := ⟨_, rfl⟩
  rw [hV]
  unfold clE at hV
  simp only at hV
  generalize loAt n (clN (C.take k)) 0 = x2 at *
  generalize loAt su (clN (C.take k)) 0 = x3 at *
  cases hb : nameB n with
  | false =>
    rw [if_pos hb] at hV
    subst hV
    rw [hb] at c1
    simp -implicitDefEqProofs [hsd, hk, hk', hx, hcd]
    refine callK c1 ?_
    simp -implicitDefEqProofs [hsd, hk, hk', hx, hcd]
  | true =>
  rw [if_neg (by simp [hb])] at hV
  rw [hb] at c1
  by_cases h1 : lower n ∈ clN (C.take k)
  · rw [if_pos h1] at hV
    subst hV
    have q1 : 0 ≤ x2 := by simpa [h1] using m2
    simp -implicitDefEqProofs [hsd, hk, hk', hx, hcd]
    refine callK c1 ?_
    simp -implicitDefEqProofs [hsd, hk, hk', hx, hcd]
    refine ⟨by omega, fun y a b c d _ h => h ▸ rfl, callP c2 ?_⟩
    simp -implicitDefEqProofs [hsd, hk, hk', hx, hcd, q1]
  rw [if_neg h1] at hV
  have q1 : ¬ 0 ≤ x2 := by simpa [h1] using m2
  by_cases h2 : su = []
  · subst h2
    rw [if_neg (by simp)] at hV
    by_cases h3 : 64 < mu.length
    · have h3' : (64 : Int) < mu.length := by omega
      rw [if_pos (.inl h3)] at hV
      subst hV
      simp -implicitDefEqProofs [hsd, hk, hk', hx, hcd]
      refine callK c1 ?_
      simp -implicitDefEqProofs [hsd, hk, hk', hx, hcd]
      refine ⟨by omega, fun y a b c d _ h => h ▸ rfl, callP c2 ?_⟩
      simp -implicitDefEqProofs [hsd, hk, hk', hx, hcd, q1, h3, h3']
    have h3' : ¬ (64 : Int) < mu.length := by omega
    by_cases h4 : 64 < ma.length
    · have h4' : (64 : Int) < ma.length := by omega
      rw [if_pos (.inr h4)] at hV
      subst hV
      simp -implicitDefEqProofs [hsd, hk, hk', hx, hcd]
      refine callK c1 ?_
      simp -implicitDefEqProofs [hsd, hk, hk', hx, hcd]
      refine ⟨by omega, fun y a b c d _ h => h ▸ rfl, callP c2 ?_⟩
      simp -implicitDefEqProofs [hsd, hk, hk', hx, hcd, q1, h3, h3', h4, h4']
    have h4' : ¬ (64 : Int) < ma.length := by omega
    rw [if_neg (by omega)] at hV
    simp -implicitDefEqProofs [hsd, hk, hk', hx, hcd]
    refine callK c1 ?_
    simp -implicitDefEqProofs [hsd, hk, hk', hx, hcd]
    refine ⟨by omega, fun y a b c d _ h => h ▸ rfl, callP c2 ?_⟩
    simp -implicitDefEqProofs [hsd, hk, hk', hx, hcd, q1, h3, h3', h4, h4']
    refine loopN mu.length (RcM T C [] n mu ma 6 mu) ⟨by simp [hsd], by simp [hcd], by simp, by simp [allTy]⟩ ?_
    clear c1 c2 c3 m2 m3
    rintro i τ hi ⟨g2, g5, g6, hA⟩
    rw [hsd] at g2
    rw [hcd] at g5
    by_cases hlt : i < mu.length
    · have hlt' : (i : Int) < mu.length := by omega
      have hfx := f3.2 _ (List.getElem_mem hlt)
      have hts := take_s hlt
      generalize hy : mu[i] = s at *
      have c4 := typeAt_fn T s hT fT hfx
      have m4 := loAt_mem s (tyN T) 0
      generalize loAt s (tyN T) 0 = x4 at *
      by_cases hin : lower s ∈ tyN T
      · have q4 : ¬ x4 < 0 := Int.not_lt.2 (by simpa [hin] using m4)
        simp -implicitDefEqProofs [g2, g5, g6, hlt, hlt', hy]
        refine callP c4 ?_
        simp -implicitDefEqProofs [g2, g5, g6, hlt, hlt', hy, q4]
        repeat refine And.intro (by first | omega | rfl) ?_
        exact again hlt ⟨by simp [g2, hsd], by simp [g5, hcd], by simp, by rw [hts]; simp only [allTy, List.all_append, List.all_cons, List.all_nil, Bool.and_true, hin, decide_true]; exact hA⟩
      · have q4 : x4 < 0 := Int.not_le.1 (by simpa [hin] using m4)
        have hbad : allTy T mu = false := by
          unfold allTy; rw [List.all_eq_false]
          exact ⟨s, hy ▸ List.getElem_mem hlt, by simp [hin]⟩
        rw [if_pos (by simp [hbad])] at hV
        subst hV
        simp -implicitDefEqProofs [g2, g5, g6, hlt, hlt', hy]
        refine callP c4 ?_
        simp -implicitDefEqProofs [g2, g5, g6, hlt, hlt', hy, q4]
    have hlt' : ¬ (i : Int) < mu.length := by omega
    rw [List.take_of_length_le (by omega)] at hA
    simp -implicitDefEqProofs [g2, g5, g6, hlt, hlt']
    refine loopN ma.length (RcM T C [] n mu ma 7 ma) ⟨by simp [g2, hsd], by simp [g5, hcd], by simp, by simp [allTy]⟩ ?_
    clear g2 g5 g6 hlt hlt'
    have hM := hA
    rintro i τ hi ⟨g2, g5, g7, hA⟩
    rw [hsd] at g2
    rw [hcd] at g5
    by_cases hlt : i < ma.length
    · have hlt' : (i : Int) < ma.length := by omega
      have hfx := f4.2 _ (List.getElem_mem hlt)
      have hts := take_s hlt
      generalize hy : ma[i] = s at *
      have c4 := typeAt_fn T s hT fT hfx
      have m4 := loAt_mem s (tyN T) 0
      generalize loAt s (tyN T) 0 = x4 at *
      by_cases hin : lower s ∈ tyN T
      · have q4 : ¬ x4 < 0 := Int.not_lt.2 (by simpa [hin] using m4)
        simp -implicitDefEqProofs [g2, g5, g7, hlt, hlt', hy]
        refine callP c4 ?_
        simp -implicitDefEqProofs [g2, g5, g7, hlt, hlt', hy, q4]
        repeat refine And.intro (by first | omega | rfl) ?_
        exact again hlt ⟨by simp [g2, hsd], by simp [g5, hcd], by simp, by rw [hts]; simp only [allTy, List.all_append, List.all_cons, List.all_nil, Bool.and_true, hin, decide_true]; exact hA⟩
      · have q4 : x4 < 0 := Int.not_le.1 (by simpa [hin] using m4)
        have hbad : allTy T ma = false := by
          unfold allTy; rw [List.all_eq_false]
          exact ⟨s, hy ▸ List.getElem_mem hlt, by simp [hin]⟩
        rw [if_pos (by simp [hbad])] at hV
        subst hV
        simp -implicitDefEqProofs [g2, g5, g7, hlt, hlt', hy]
        refine callP c4 ?_
        simp -implicitDefEqProofs [g2, g5, g7, hlt, hlt', hy, q4]
    have hlt' : ¬ (i : Int) < ma.length := by omega
    rw [List.take_of_length_le (by omega)] at hA
    rw [if_neg (by simp [hM, hA])] at hV
    subst hV
    simp -implicitDefEqProofs [g2, g5, g7, hlt, hlt']
  by_cases h5 : lower su ∈ clN (C.take k)
  · rw [if_neg (by simp [h5])] at hV
    have q3 : ¬ x3 < 0 := Int.not_lt.2 (by simpa [h5] using m3)
    by_cases h3 : 64 < mu.length
    · have h3' : (64 : Int) < mu.length := by omega
      rw [if_pos (.inl h3)] at hV
      subst hV
      simp -implicitDefEqProofs [hsd, hk, hk', hx, hcd]
      refine callK c1 ?_
      simp -implicitDefEqProofs [hsd, hk, hk', hx, hcd]
      refine ⟨by omega, fun y a b c d _ h => h ▸ rfl, callP c2 ?_⟩
      simp -implicitDefEqProofs [hsd, hk, hk', hx, hcd, q1, h2]
      refine ⟨by omega, fun y a b c d _ h => h ▸ rfl, callP c3 ?_⟩
      simp -implicitDefEqProofs [hsd, hk, hk', hx, hcd, q1, h2, q3, h3, h3']
    have h3' : ¬ (64 : Int) < mu.length := by omega
    by_cases h4 : 64 < ma.length
    · have h4' : (64 : Int) < ma.length := by omega
      rw [if_pos (.inr h4)] at hV
      subst hV
      simp -implicitDefEqProofs [hsd, hk, hk', hx, hcd]
      refine callK c1 ?_
      simp -implicitDefEqProofs [hsd, hk, hk', hx, hcd]
      refine ⟨by omega, fun y a b c d _ h => h ▸ rfl, callP c2 ?_⟩
      simp -implicitDefEqProofs [hsd, hk, hk', hx, hcd, q1, h2]
      refine ⟨by omega, fun y a b c d _ h => h ▸ rfl, callP c3 ?_⟩
      simp -implicitDefEqProofs [hsd, hk, hk', hx, hcd, q1, h2, q3, h3, h3', h4, h4']
    have h4' : ¬ (64 : Int) < ma.length := by omega
    rw [if_neg (by omega)] at hV
    simp -implicitDefEqProofs [hsd, hk, hk', hx, hcd]
    refine callK c1 ?_
    simp -implicitDefEqProofs [hsd, hk, hk', hx, hcd]
    refine ⟨by omega, fun y a b c d _ h => h ▸ rfl, callP c2 ?_⟩
    simp -implicitDefEqProofs [hsd, hk, hk', hx, hcd, q1, h2]
    refine ⟨by omega, fun y a b c d _ h => h ▸ rfl, callP c3 ?_⟩
    simp -implicitDefEqProofs [hsd, hk, hk', hx, hcd, q1, h2, q3, h3, h3', h4, h4']
    refine loopN mu.length (RcM T C su n mu ma 6 mu) ⟨by simp [hsd], by simp [hcd], by simp, by simp [allTy]⟩ ?_
    clear c1 c2 c3 m2 m3
    rintro i τ hi ⟨g2, g5, g6, hA⟩
    rw [hsd] at g2
    rw [hcd] at g5
    by_cases hlt : i < mu.length
    · have hlt' : (i : Int) < mu.length := by omega
      have hfx := f3.2 _ (List.getElem_mem hlt)
      have hts := take_s hlt
      generalize hy : mu[i] = s at *
      have c4 := typeAt_fn T s hT fT hfx
      have m4 := loAt_mem s (tyN T) 0
      generalize loAt s (tyN T) 0 = x4 at *
      by_cases hin : lower s ∈ tyN T
      · have q4 : ¬ x4 < 0 := Int.not_lt.2 (by simpa [hin] using m4)
        simp -implicitDefEqProofs [g2, g5, g6, hlt, hlt', hy]
        refine callP c4 ?_
        simp -implicitDefEqProofs [g2, g5, g6, hlt, hlt', hy, q4]
        repeat refine And.intro (by first | omega | rfl) ?_
        exact again hlt ⟨by simp [g2, hsd], by simp [g5, hcd], by simp, by rw [hts]; simp only [allTy, List.all_append, List.all_cons, List.all_nil, Bool.and_true, hin, decide_true]; exact hA⟩
      · have q4 : x4 < 0 := Int.not_le.1 (by simpa [hin] using m4)
        have hbad : allTy T mu = false := by
          unfold allTy; rw [List.all_eq_false]
          exact ⟨s, hy ▸ List.getElem_mem hlt, by simp [hin]⟩
        rw [if_pos (by simp [hbad])] at hV
        subst hV
        simp -implicitDefEqProofs [g2, g5, g6, hlt, hlt', hy]
        refine callP c4 ?_
        simp -implicitDefEqProofs [g2, g5, g6, hlt, hlt', hy, q4]
    have hlt' : ¬ (i : Int) < mu.length := by omega
    rw [List.take_of_length_le (by omega)] at hA
    simp -implicitDefEqProofs [g2, g5, g6, hlt, hlt']
    refine loopN ma.length (RcM T C su n mu ma 7 ma) ⟨by simp [g2, hsd], by simp [g5, hcd], by simp, by simp [allTy]⟩ ?_
    clear g2 g5 g6 hlt hlt'
    have hM := hA
    rintro i τ hi ⟨g2, g5, g7, hA⟩
    rw [hsd] at g2
    rw [hcd] at g5
    by_cases hlt : i < ma.length
    · have hlt' : (i : Int) < ma.length := by omega
      have hfx := f4.2 _ (List.getElem_mem hlt)
      have hts := take_s hlt
      generalize hy : ma[i] = s at *
      have c4 := typeAt_fn T s hT fT hfx
      have m4 := loAt_mem s (tyN T) 0
      generalize loAt s (tyN T) 0 = x4 at *
      by_cases hin : lower s ∈ tyN T
      · have q4 : ¬ x4 < 0 := Int.not_lt.2 (by simpa [hin] using m4)
        simp -implicitDefEqProofs [g2, g5, g7, hlt, hlt', hy]
        refine callP c4 ?_
        simp -implicitDefEqProofs [g2, g5, g7, hlt, hlt', hy, q4]
        repeat refine And.intro (by first | omega | rfl) ?_
        exact again hlt ⟨by simp [g2, hsd], by simp [g5, hcd], by simp, by rw [hts]; simp only [allTy, List.all_append, List.all_cons, List.all_nil, Bool.and_true, hin, decide_true]; exact hA⟩
      · have q4 : x4 < 0 := Int.not_le.1 (by simpa [hin] using m4)
        have hbad : allTy T ma = false := by
          unfold allTy; rw [List.all_eq_false]
          exact ⟨s, hy ▸ List.getElem_mem hlt, by simp [hin]⟩
        rw [if_pos (by simp [hbad])] at hV
        subst hV
        simp -implicitDefEqProofs [g2, g5, g7, hlt, hlt', hy]
        refine callP c4 ?_
        simp -implicitDefEqProofs [g2, g5, g7, hlt, hlt', hy, q4]
    have hlt' : ¬ (i : Int) < ma.length := by omega
    rw [List.take_of_length_le (by omega)] at hA
    rw [if_neg (by simp [hM, hA])] at hV
    subst hV
    simp -implicitDefEqProofs [g2, g5, g7, hlt, hlt']
  have q3 : x3 < 0 := Int.not_le.1 (by simpa [h5] using m3)
  rw [if_pos ⟨h2, h5⟩] at hV
  subst hV
  simp -implicitDefEqProofs [hsd, hk, hk', hx, hcd]
  refine callK c1 ?_
  simp -implicitDefEqProofs [hsd, hk, hk', hx, hcd]
  refine ⟨by omega, fun y a b c d _ h => h ▸ rfl, callP c2 ?_⟩
  simp -implicitDefEqProofs [hsd, hk, hk', hx, hcd, q1, h2]
  refine ⟨by omega, fun y a b c d _ h => h ▸ rfl, callP c3 ?_⟩
  simp -implicitDefEqProofs [hsd, hk, hk', hx, hcd, q1, h2, q3]
end Go.Proofs.Tz
