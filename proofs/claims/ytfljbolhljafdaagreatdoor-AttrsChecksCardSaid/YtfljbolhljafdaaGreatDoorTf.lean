/-
  The seven statements about layer 6 return true, for arguments of bounded size (each theorem states its bound).
-/
import Derived.Test.YtfljbolhljafdaaGreatDoorTe

set_option linter.unusedSimpArgs false
set_option linter.unusedVariables false

namespace Go.Proofs.Tz
open Go.Vw
set_option maxRecDepth 100000
set_option maxHeartbeats 8000000
set_option linter.unusedSimpArgs false

/-- The list of the examples. -/
def aw0 : List Att := [([77, 65, 73, 76], [[109]]), ([99, 110], [[98], [97]])]
theorem aw0_sorted : sortedL aw0 = [([99, 110], [[97], [98]]), ([109, 97, 105, 108], [[109]])] := by decide +kernel
theorem aw0_add : addP aw0 [67, 78] [[99]] = ([([99, 110], [[97], [98], [99]]), ([109, 97, 105, 108], [[109]])], 0) := by decide +kernel
theorem aw0_twice : addP aw0 [99, 110] [[97]] = ([], 7) := by decide +kernel
theorem aw0_rem : removeP aw0 [109, 97, 105, 108] [] = ([([99, 110], [[97], [98]])], 0) := by decide +kernel
theorem aw1_rem : removeP [([99, 110], [[97], [98]])] [109, 97, 105, 108] [] = ([], 6) := by decide +kernel
theorem aw0_repl : replP aw0 [120] [] = ([([99, 110], [[97], [98]]), ([109, 97, 105, 108], [[109]])], 0) := by decide +kernel
theorem aw0_check : checkL aw0 = 0 := by decide +kernel
theorem aw0_check2 : checkL (aw0 ++ [([67, 78], [[122]])]) = 7 := by decide +kernel
def aw3 : List Att := [([99, 110], [[97], [98], [99]]), ([109, 97, 105, 108], [[109]])]
def aw5 : List Att := [([99, 110], [[97], [98]]), ([109, 97, 105, 108], [[109]])]
theorem aw3_get : getL aw3 [99, 110] = [[97], [98], [99]] := by decide +kernel
theorem aw5_sorted : sortedL aw5 = sortedL aw0 := by decide +kernel
theorem aw0_get : getL aw0 [109, 97, 105, 108] = [[109]] := by decide +kernel
theorem aw0_pick : pickL aw0 [[77, 65, 73, 76], [111, 116, 104, 101, 114]] = [([109, 97, 105, 108], [[109]])] := by decide +kernel
theorem aw0_names : (firsts (sortedL aw0)).length = 2 := by decide +kernel
theorem fit2_of {l : List Att} (h : (decide (l.length < 1000) && l.all (fun a => decide (List.length a.1 < 1000) && decide (a.2.length < 1000)) && decide (total l < 1000)) = true) : Fit2 l := by
  simp only [Bool.and_eq_true, decide_eq_true_eq, List.all_eq_true] at h
  obtain ⟨⟨h1, h2⟩, h3⟩ := h
  exact ⟨⟨by omega, fun a ha => ⟨by have := (h2 a ha).1; omega, by have := (h2 a ha).2; omega⟩⟩, by omega⟩
theorem fit2_aw0 : Fit2 aw0 := fit2_of (by decide +kernel)
end Go.Proofs.Tz

namespace Go.Proofs.Tz
open Go.Vw
set_option maxRecDepth 100000
set_option maxHeartbeats 8000000
set_option linter.unusedSimpArgs false

theorem awake_fn : Ctr Tryz.prog 11 [] (.d (.bool true)) := by
  refine fn_of_vwp (fun _ => false) (by kernel_rfl) Tryz.func11 (by kernel_rfl) rfl rfl (Nat.le_of_ble_eq_true rfl) (by kernel_rfl) rfl rfl ?_
  simp -implicitDefEqProofs
  have h1 := sorted_fn aw0 fit2_aw0
  rw [aw0_sorted] at h1
  simp only [aw0, atts, att, strs, List.map_cons, List.map_nil] at h1
  refine ⟨by decide, callK h1 ?_⟩
  simp -implicitDefEqProofs
  have h2 := add_fn aw0 [67, 78] [[99]] fit2_aw0 (by decide) (by decide) ⟨by decide, by decide⟩ (by decide) (fit2_of (by decide +kernel)) (fit2_of (by decide +kernel))
  rw [aw0_add] at h2
  simp only [aw0, atts, att, strs, List.map_cons, List.map_nil] at h2
  refine callK h2 ?_
  simp -implicitDefEqProofs
  have h3 := add_fn aw0 [99, 110] [[97]] fit2_aw0 (by decide) (by decide) ⟨by decide, by decide⟩ (by decide) (fit2_of (by decide +kernel)) (fit2_of (by decide +kernel))
  rw [aw0_twice] at h3
  simp only [aw0, atts, att, strs, List.map_cons, List.map_nil] at h3
  refine callK h3 ?_
  simp -implicitDefEqProofs
  have h4 := remove_fn aw0 [109, 97, 105, 108] [] fit2_aw0 (by decide) (by decide) (by decide) (fun o ho => by
    rcases ho with rfl | ho
    · exact fit2_of (by decide +kernel)
    · simp only [remV, Option.some.injEq] at ho
      subst ho
      exact fit2_of (by decide +kernel))
  rw [aw0_rem] at h4
  simp only [aw0, atts, att, strs, List.map_cons, List.map_nil] at h4
  refine callK h4 ?_
  simp -implicitDefEqProofs
  have h5 := remove_fn [([99, 110], [[97], [98]])] [109, 97, 105, 108] [] (fit2_of (by decide +kernel)) (by decide) (by decide) (by decide) (fun o ho => by
    rcases ho with rfl | ho
    · exact fit2_of (by decide +kernel)
    · simp only [remV, Option.some.injEq] at ho
      subst ho
      exact fit2_of (by decide +kernel))
  rw [aw1_rem] at h5
  simp only [atts, att, strs, List.map_cons, List.map_nil] at h5
  refine callK h5 ?_
  simp -implicitDefEqProofs
  have h6 := replace_fn aw0 [120] [] fit2_aw0 (by decide) (by decide) ⟨by decide, by decide⟩ (fit2_of (by decide +kernel)) (fit2_of (by decide +kernel))
  rw [aw0_repl] at h6
  simp only [aw0, atts, att, strs, List.map_cons, List.map_nil] at h6
  refine callK h6 ?_
  simp -implicitDefEqProofs
  have h7 := get_fn aw3 [99, 110] (fit2_of (by decide +kernel)) (by decide)
  rw [aw3_get] at h7
  simp only [aw3, atts, att, strs, List.map_cons, List.map_nil] at h7
  refine callK h7 ?_
  simp -implicitDefEqProofs
  have h8 := equal_fn aw5 aw0 (fit2_of (by decide +kernel)) fit2_aw0 (sorted_fit2 (fit2_of (by decide +kernel))).1 (sorted_fit2 fit2_aw0).1
  rw [aw5_sorted, decide_eq_true rfl] at h8
  simp only [aw5, aw0, atts, att, strs, List.map_cons, List.map_nil] at h8
  refine callK h8 ?_
  simp -implicitDefEqProofs
  have fits0 : Fits aw0 := fit2_aw0.1
  have h9 := check_fn aw0 fits0 (show ∀ a ∈ aw0, ∀ v ∈ a.2, List.length v < 1000000 by decide)
  rw [aw0_check] at h9
  simp only [aw0, atts, att, strs, List.map_cons, List.map_nil] at h9
  refine callK h9 ?_
  simp -implicitDefEqProofs
  have h10 := check_fn (aw0 ++ [([67, 78], [[122]])]) (fit2_of (by decide +kernel)).1 (show ∀ a ∈ aw0 ++ [([67, 78], [[122]])], ∀ v ∈ a.2, List.length v < 1000000 by decide)
  rw [aw0_check2] at h10
  simp only [aw0, atts, att, strs, List.map_cons, List.map_nil, List.cons_append, List.nil_append] at h10
  refine callK h10 ?_
  simp -implicitDefEqProofs
  have h11 := has2_fn aw0 [109, 97, 105, 108] [109] fit2_aw0 (by decide) (by decide +kernel)
  rw [aw0_get, decide_eq_true (by decide)] at h11
  simp only [aw0, atts, att, strs, List.map_cons, List.map_nil] at h11
  refine callK h11 ?_
  simp -implicitDefEqProofs
  have h12 := has2_fn aw0 [109, 97, 105, 108] [77] fit2_aw0 (by decide) (by decide +kernel)
  rw [aw0_get, decide_eq_false (by decide)] at h12
  simp only [aw0, atts, att, strs, List.map_cons, List.map_nil] at h12
  refine callK h12 ?_
  simp -implicitDefEqProofs
  have h13 := pick_fn aw0 [[77, 65, 73, 76], [111, 116, 104, 101, 114]] fit2_aw0 (by decide) (by decide)
  rw [aw0_pick] at h13
  simp only [aw0, atts, att, strs, List.map_cons, List.map_nil] at h13
  refine ⟨by decide, callK h13 ?_⟩
  simp -implicitDefEqProofs
  have h14 := names_fn aw0 fit2_aw0
  rw [aw0_sorted] at h14
  simp only [firsts, aw0, atts, att, strs, List.map_cons, List.map_nil] at h14
  refine callK h14 ?_
  simp -implicitDefEqProofs
end Go.Proofs.Tz

namespace Go.Proofs.Tz
open Go.Vw
set_option maxRecDepth 100000
set_option maxHeartbeats 8000000
set_option linter.unusedSimpArgs false

/-- The bounds that the arguments have. -/
def Bulk (l : List Att) : Prop := Reach l
def BulkS (l : List Str) : Prop := ReachS l

theorem bytesT_mem {l : List Att} {a : Att} (h : a ∈ l) : List.length a.1 + bytesL a.2 ≤ bytesT l := by
  induction l with
  | nil => simp at h
  | cons y l ih =>
    simp only [bytesT, List.map_cons, List.sum_cons] at ih ⊢
    rcases List.mem_cons.1 h with rfl | h
    · omega
    · have := ih h; omega
theorem short_spec {l : List Att} (h : shortB l = true) : Fit2 l ∧ FitV l ∧ l.length ≤ 40 ∧ total l ≤ 300 ∧ bytesT l ≤ 6000 := by
  simp only [shortB, Bool.and_eq_true, decide_eq_true_eq, List.all_eq_true] at h
  obtain ⟨⟨⟨h1, h2⟩, h3⟩, h4⟩ := h
  refine ⟨⟨⟨by omega, fun a ha => ⟨?_, ?_⟩⟩, by omega⟩, fun a ha v hv => ?_, h1, h3, h4⟩
  · have := bytesT_mem ha; omega
  · have := h2 a ha; omega
  · have h5 := bytesT_mem ha
    have h6 := bytesL_mem hv
    omega
theorem few_spec {l : List Str} (h : fewB l = true) : FitS l ∧ l.length ≤ 20 ∧ bytesL l ≤ 3000 := by
  simp only [fewB, Bool.and_eq_true, decide_eq_true_eq] at h
  exact ⟨⟨by omega, fun v hv => by have := bytesL_mem hv; omega⟩, h.1, h.2⟩

theorem law3 (l : List Att) (hb : Bulk l) : Ctr Tryz.prog 3 [.d (atts l)] (.d (.bool true)) := by
  refine fn_of_vwp (fun _ => false) (by kernel_rfl) Tryz.func3 (by kernel_rfl) rfl rfl (Nat.le_of_ble_eq_true rfl) (by kernel_rfl) rfl rfl ?_
  simp -implicitDefEqProofs
  refine callK (short_fn l hb) ?_
  by_cases hs : shortB l = true
  · obtain ⟨h2, hv, _⟩ := short_spec hs
    simp -implicitDefEqProofs [hs]
    refine callK (check_fn l h2.1 hv) ?_
    simp -implicitDefEqProofs
    refine callK (checkR_fn l h2.1) ?_
    simp -implicitDefEqProofs
    refine callK awake_fn ?_
    simp -implicitDefEqProofs
  · simp -implicitDefEqProofs [hs]
    refine callK awake_fn ?_
    simp -implicitDefEqProofs

theorem law4 (a b : List Att) (ha : Bulk a) (hb : Bulk b) : Ctr Tryz.prog 4 [.d (atts a), .d (atts b)] (.d (.bool true)) := by
  refine fn_of_vwp (fun _ => false) (by kernel_rfl) Tryz.func4 (by kernel_rfl) rfl rfl (Nat.le_of_ble_eq_true rfl) (by kernel_rfl) rfl rfl ?_
  simp -implicitDefEqProofs
  refine callK (short_fn a ha) ?_
  by_cases hs : shortB a = true
  · simp -implicitDefEqProofs [hs]
    refine callK (short_fn b hb) ?_
    by_cases hs2 : shortB b = true
    · obtain ⟨h2, hv, _⟩ := short_spec hs
      obtain ⟨h3, hv3, _⟩ := short_spec hs2
      simp -implicitDefEqProofs [hs, hs2]
      refine callK (sorted_fn a h2) ?_
      simp -implicitDefEqProofs [hs, hs2]
      refine callK (sortedR_fn a h2) ?_
      simp -implicitDefEqProofs [hs, hs2]
      refine callK (sameA_fn _ _ (sorted_fit2 h2).1 (sorted_fit2 h2).1) ?_
      simp -implicitDefEqProofs [hs, hs2]
      refine callK (equal_fn a b h2 h3 (sorted_fit2 h2).1 (sorted_fit2 h3).1) ?_
      simp -implicitDefEqProofs [hs, hs2]
      refine callK (equalR_fn a b h2 h3 (sorted_fit2 h2).1 (sorted_fit2 h3).1) ?_
      simp -implicitDefEqProofs [hs, hs2]
      refine callK awake_fn ?_
      simp -implicitDefEqProofs [hs, hs2]
    · simp -implicitDefEqProofs [hs, hs2]
      refine callK awake_fn ?_
      simp -implicitDefEqProofs [hs, hs2]
  · simp -implicitDefEqProofs [hs]
    refine callK awake_fn ?_
    simp -implicitDefEqProofs [hs]

theorem firsts_str (s : List Att) : firsts s = (s.map (·.1)).map .str := by simp [firsts]
theorem pick_fits {l : List Att} (ns : List Str) (hl : Fit2 l) : Fits (pickL l ns) := by
  have h := (sorted_fit2 hl).1
  exact ⟨Nat.lt_of_le_of_lt (List.length_filter_le _ _) h.1, fun a ha => h.2 a (List.mem_filter.1 ha).1⟩

theorem law5 (l : List Att) (name value : Str) (ns : List Str) (hb : Bulk l) (hns : BulkS ns) : Ctr Tryz.prog 5 [.d (atts l), .d (.str name), .d (.str value), .d (strs ns)] (.d (.bool true)) := by
  refine fn_of_vwp (fun _ => false) (by kernel_rfl) Tryz.func5 (by kernel_rfl) rfl rfl (Nat.le_of_ble_eq_true rfl) (by kernel_rfl) rfl rfl ?_
  simp -implicitDefEqProofs
  refine callK (short_fn l hb) ?_
  by_cases hs : shortB l = true
  · simp -implicitDefEqProofs [hs]
    refine callK (few_fn ns hns) ?_
    by_cases hs2 : fewB ns = true
    · by_cases hs3 : 300 < (List.length name : Int)
      · simp -implicitDefEqProofs [hs, hs2, hs3]
        refine callK awake_fn ?_
        simp -implicitDefEqProofs [hs]
      · by_cases hs4 : 300 < (List.length value : Int)
        · simp -implicitDefEqProofs [hs, hs2, hs3, hs4]
          refine callK awake_fn ?_
          simp -implicitDefEqProofs [hs]
        · obtain ⟨h2, hv, _⟩ := short_spec hs
          obtain ⟨h3, _⟩ := few_spec hs2
          have hn : List.length name < 1000000 := by omega
          have hgl := getL_len l name
          have ht := h2.2
          have hg : (getL l name).length < 1000000 := by omega
          have hsl := sorted_len l
          have hl1 := h2.1.1
          have hS := same_fn ((sortedL l).map (·.1)) ((sortedL l).map (·.1)) (by simp; omega) (by simp; omega)
          simp only [strs, ← firsts_str] at hS
          simp -implicitDefEqProofs [hs, hs2, hs3, hs4]
          refine callK (get_fn l name h2 hn) ?_
          simp -implicitDefEqProofs
          refine callK (getR_fn l name h2 hn) ?_
          simp -implicitDefEqProofs
          refine callK (same_fn _ _ hg hg) ?_
          simp -implicitDefEqProofs
          refine callK (has2_fn l name value h2 hn hg) ?_
          simp -implicitDefEqProofs
          refine callK (hasR_fn l name value h2 hn) ?_
          simp -implicitDefEqProofs
          refine callK (names_fn l h2) ?_
          have hR := namesR_fn l h2
          generalize firsts (sortedL l) = fs at *
          simp -implicitDefEqProofs
          refine callK hR ?_
          simp -implicitDefEqProofs
          refine callK hS ?_
          simp -implicitDefEqProofs
          refine callK (pick_fn l ns h2 h3.1 h3.2) ?_
          simp -implicitDefEqProofs
          refine callK (pickR_fn l ns h2 h3.1 h3.2) ?_
          simp -implicitDefEqProofs
          refine callK (sameA_fn _ _ (pick_fits ns h2) (pick_fits ns h2)) ?_
          simp -implicitDefEqProofs
          refine callK awake_fn ?_
          simp -implicitDefEqProofs
    · simp -implicitDefEqProofs [hs, hs2]
      refine callK awake_fn ?_
      simp -implicitDefEqProofs [hs]
  · simp -implicitDefEqProofs [hs]
    refine callK awake_fn ?_
    simp -implicitDefEqProofs [hs]
end Go.Proofs.Tz

namespace Go.Proofs.Tz
open Go.Vw
set_option maxRecDepth 100000
set_option maxHeartbeats 8000000
set_option linter.unusedSimpArgs false

structure Small (k : Nat) (l : List Att) : Prop where
  len : l.length ≤ k
  tot : total l ≤ k
  nm : ∀ a ∈ l, List.length a.1 ≤ 6000
  val : ∀ a ∈ l, ∀ v ∈ a.2, List.length v ≤ 6000
theorem Small.fit2 {k : Nat} {l : List Att} (h : Small k l) (hk : k ≤ 10000) : Fit2 l := by
  have h1 := h.len
  have h2 := h.tot
  refine ⟨⟨by omega, fun a ha => ⟨by have := h.nm a ha; omega, ?_⟩⟩, by omega⟩
  have := total_mem ha
  omega
theorem Small.fitV {k : Nat} {l : List Att} (h : Small k l) : FitV l := fun a ha v hv => by have := h.val a ha v hv; omega
theorem Small.sorted {k : Nat} {l : List Att} (h : Small k l) : Small k (sortedL l) :=
  ⟨Nat.le_trans (sorted_len l) h.len, Nat.le_trans (total_sorted l) h.tot, fun x hx => by
    obtain ⟨a, ha, _, e⟩ := sorted_name hx
    rw [← e, lower_len]; exact h.nm a ha, fun x hx v hv => by
    obtain ⟨a, ha, _, h1⟩ := sorted_val hx hv
    exact h.val a ha v h1⟩
theorem total_filter (p : Att → Bool) (l : List Att) : total (l.filter p) ≤ total l := by
  induction l with
  | nil => simp
  | cons a l ih =>
    rw [List.filter_cons]
    split
    · simp only [total, List.map_cons, List.sum_cons] at ih ⊢; omega
    · simp only [total, List.map_cons, List.sum_cons] at ih ⊢; omega
theorem Small.put {k j : Nat} {l : List Att} (h : Small k l) (p : Att → Bool) {m : Str} {w : List Str} (hm : List.length m ≤ 6000) (hw : w.length ≤ j) (hv : ∀ v ∈ w, List.length v ≤ 6000) : Small (k + j + 1) (l.filter p ++ [(m, w)]) := by
  have h1 := List.length_filter_le p l
  have h2 := total_filter p l
  have h3 := h.len
  have h4 := h.tot
  refine ⟨by simp; omega, by rw [total_app]; simp [total] at h2 h4 ⊢; omega, fun a ha => ?_, fun a ha => ?_⟩
  · rcases List.mem_append.1 ha with ha | ha
    · exact h.nm a (List.mem_filter.1 ha).1
    · rw [List.mem_singleton.1 ha]; exact hm
  · rcases List.mem_append.1 ha with ha | ha
    · exact h.val a (List.mem_filter.1 ha).1
    · rw [List.mem_singleton.1 ha]; exact hv
theorem Small.get {k : Nat} {l : List Att} (h : Small k l) (n : Str) : (getL l n).length ≤ k ∧ ∀ v ∈ getL l n, List.length v ≤ 6000 :=
  ⟨Nat.le_trans (getL_len l n) h.tot, fun v hv => by
    obtain ⟨a, ha, _, h1⟩ := (mem_getL l n v).1 hv
    exact h.val a ha v h1⟩
theorem Small.withP {k j : Nat} {l : List Att} (h : Small k l) {n : Str} {w : List Str} (hm : List.length n ≤ 6000) (hw : w.length ≤ j) (hv : ∀ v ∈ w, List.length v ≤ 6000) : Small (k + j + 1) (withP l n w) :=
  h.sorted.put _ (by rw [lower_len]; exact hm) hw hv
theorem Small.withO {k j : Nat} {l : List Att} (h : Small k l) {n : Str} {w : List Str} (hm : List.length n ≤ 6000) (hw : w.length ≤ j) (hv : ∀ v ∈ w, List.length v ≤ 6000) : Small (k + j + 1) (withoutL l n ++ [(n, w)]) :=
  h.sorted.put _ hm hw hv
theorem Small.set {k j : Nat} {l : List Att} (h : Small k l) {n : Str} {w : List Str} (hm : List.length n ≤ 6000) (hw : w.length ≤ j) (hv : ∀ v ∈ w, List.length v ≤ 6000) : Small (k + j + 1) (setL (sortedL l) n w) :=
  (h.withP hm hw hv).sorted
theorem Small.nil {k : Nat} : Small k [] := ⟨by simp, by simp [total], by simp, by simp⟩
theorem Small.lim {k : Nat} {l : List Att} (h : Small k l) (n : Str) : Small k (limL l n).1 := by
  unfold limL; split
  · exact .nil
  · exact h
structure SmallS (k : Nat) (l : List Str) : Prop where
  len : l.length ≤ k
  val : ∀ v ∈ l, List.length v ≤ 6000
theorem SmallS.fit {k : Nat} {l : List Str} (h : SmallS k l) (hk : k ≤ 10000) : FitS l := ⟨by have := h.len; omega, fun v hv => by have := h.val v hv; omega⟩
theorem Small.addW {k j : Nat} {l : List Att} (h : Small k l) {n : Str} {v : List Str} (hv : SmallS j v) : (getL l n ++ v).length ≤ k + j ∧ ∀ x ∈ getL l n ++ v, List.length x ≤ 6000 := by
  have h1 := h.get n
  have h2 := hv.len
  refine ⟨by simp; omega, fun x hx => ?_⟩
  rcases List.mem_append.1 hx with hx | hx
  · exact h1.2 x hx
  · exact hv.val x hx
theorem Small.add {k j : Nat} {l : List Att} (h : Small k l) {n : Str} {v : List Str} (hn : List.length n ≤ 6000) (hv : SmallS j v) : Small (k + (k + j) + 1) (addP l n v).1 := by
  unfold addP
  split
  · exact .nil
  split
  · exact .nil
  split
  · exact .nil
  exact (h.set hn (h.addW hv).1 (h.addW hv).2).lim n
theorem Small.repl {k j : Nat} {l : List Att} (h : Small k l) {n : Str} {v : List Str} (hn : List.length n ≤ 6000) (hv : SmallS j v) : Small (k + j + 1) (replP l n v).1 := by
  unfold replP
  split
  · exact .nil
  split
  · exact .nil
  split
  · exact .nil
  exact (h.set hn hv.len hv.val).lim n
theorem Small.remO {k : Nat} {l : List Att} (h : Small k l) {n : Str} {v o : List Str} (ho : o = [] ∨ remV (getL l n) v = some o) : SmallS k o := by
  rcases ho with rfl | ho
  · exact ⟨by simp, by simp⟩
  · rcases remV_spec v (getL l n) (SS_getL l n).nodup with ⟨a, _⟩ | ⟨o', a, _, c⟩
    · rw [a] at ho; cases ho
    · rw [a] at ho; cases ho
      have := h.get n
      exact ⟨by rw [c]; exact Nat.le_trans (List.length_filter_le _ _) this.1, fun x hx => by rw [c] at hx; exact this.2 x (List.mem_filter.1 hx).1⟩
theorem Small.rem {k : Nat} {l : List Att} (h : Small k l) {n : Str} {v : List Str} (hn : List.length n ≤ 6000) : Small (k + k + 1) (removeP l n v).1 := by
  unfold removeP
  split
  · exact .nil
  split
  · exact .nil
  split
  · exact h.set hn (Nat.zero_le k) (by simp)
  · cases hr : remV (getL l n) v with
    | none => exact .nil
    | some o => exact h.set hn (h.remO (.inr hr)).len (h.remO (.inr hr)).val

theorem short_small {l : List Att} (h : shortB l = true) : Small 300 l := by
  obtain ⟨_, _, h1, h2, h3⟩ := short_spec h
  refine ⟨by omega, h2, fun a ha => ?_, fun a ha v hv => ?_⟩
  · have := bytesT_mem ha; omega
  · have h5 := bytesT_mem ha
    have h6 := bytesL_mem hv
    omega
theorem few_small {l : List Str} (h : fewB l = true) : SmallS 20 l := by
  obtain ⟨_, h1, h2⟩ := few_spec h
  exact ⟨h1, fun v hv => by have := bytesL_mem hv; omega⟩

/-! ### the contracts at small data -/
theorem add_small {k : Nat} {l : List Att} {n : Str} {v : List Str} (h : Small k l) (hk : k ≤ 2000) (hn : List.length n ≤ 6000) (hv : SmallS 20 v) :
    Ctr Tryz.prog 29 [.d (atts l), .d (.str n), .d (strs v)] (.tup [.d (atts (addP l n v).1), .d (.int .i64 (addP l n v).2)]) := by
  have h1 := h.len
  have h2 := hv.len
  have hw := h.addW (n := n) hv
  exact add_fn l n v (h.fit2 (by omega)) (by omega) (by omega) (hv.fit (by omega)) (by omega) ((h.withP hn hw.1 hw.2).fit2 (by omega)) ((h.set hn hw.1 hw.2).fit2 (by omega))
theorem addR_small {k : Nat} {l : List Att} {n : Str} {v : List Str} (h : Small k l) (hk : k ≤ 2000) (hn : List.length n ≤ 6000) (hv : SmallS 20 v) :
    Ctr Tryz.prog 30 [.d (atts l), .d (.str n), .d (strs v)] (.tup [.d (atts (addP l n v).1), .d (.int .i64 (addP l n v).2)]) := by
  have h2 := hv.len
  have hw := h.addW (n := n) hv
  rw [add_eq]
  exact addR_fn l n v (h.fit2 (by omega)) (by omega) (by omega) ((h.withO hn hw.1 hw.2).fit2 (by omega))
theorem repl_small {k : Nat} {l : List Att} {n : Str} {v : List Str} (h : Small k l) (hk : k ≤ 2000) (hn : List.length n ≤ 6000) (hv : SmallS 20 v) :
    Ctr Tryz.prog 33 [.d (atts l), .d (.str n), .d (strs v)] (.tup [.d (atts (replP l n v).1), .d (.int .i64 (replP l n v).2)]) := by
  have h1 := h.len
  exact replace_fn l n v (h.fit2 (by omega)) (by omega) (by omega) (hv.fit (by omega)) ((h.withP hn hv.len hv.val).fit2 (by omega)) ((h.set hn hv.len hv.val).fit2 (by omega))
theorem replR_small {k : Nat} {l : List Att} {n : Str} {v : List Str} (h : Small k l) (hk : k ≤ 2000) (hn : List.length n ≤ 6000) (hv : SmallS 20 v) :
    Ctr Tryz.prog 34 [.d (atts l), .d (.str n), .d (strs v)] (.tup [.d (atts (replP l n v).1), .d (.int .i64 (replP l n v).2)]) := by
  have h2 := hv.len
  rw [repl_eq]
  exact replaceR_fn l n v (h.fit2 (by omega)) (by omega) (by omega) ((h.withO hn hv.len hv.val).fit2 (by omega))
theorem rem_small {k : Nat} {l : List Att} {n : Str} {v : List Str} (h : Small k l) (hk : k ≤ 2000) (hn : List.length n ≤ 6000) (hv : SmallS 20 v) :
    Ctr Tryz.prog 31 [.d (atts l), .d (.str n), .d (strs v)] (.tup [.d (atts (removeP l n v).1), .d (.int .i64 (removeP l n v).2)]) := by
  have h1 := h.len
  have h2 := hv.len
  exact remove_fn l n v (h.fit2 (by omega)) (by omega) (by omega) (by omega) (fun o ho => (h.withP hn (h.remO ho).len (h.remO ho).val).fit2 (by omega))
theorem remR_small {k : Nat} {l : List Att} {n : Str} {v : List Str} (h : Small k l) (hk : k ≤ 2000) (hn : List.length n ≤ 6000) (hv : SmallS 20 v) :
    Ctr Tryz.prog 32 [.d (atts l), .d (.str n), .d (strs v)] (.tup [.d (atts (removeP l n v).1), .d (.int .i64 (removeP l n v).2)]) := by
  have h2 := hv.len
  have h3 := h.get n
  rw [rem_eq]
  exact removeR_fn l n v (h.fit2 (by omega)) (by omega) (by omega) ((h.withO (j := k) hn (Nat.le_trans (leftL_len _ _) h3.1) (fun x hx => h3.2 x (List.mem_filter.1 hx).1)).fit2 (by omega))
theorem same_small {k : Nat} {l m : List Att} (h : Small k l) (h' : Small k m) (hk : k ≤ 10000) : Ctr Tryz.prog 14 [.d (atts l), .d (atts m)] (.d (.bool (decide (l = m)))) :=
  sameA_fn l m (h.fit2 hk).1 (h'.fit2 hk).1
theorem get_small {k : Nat} {l : List Att} {n : Str} (h : Small k l) (hk : k ≤ 10000) (hn : List.length n ≤ 6000) : Ctr Tryz.prog 21 [.d (atts l), .d (.str n)] (.own true 9 ((getL l n).map .str)) :=
  get_fn l n (h.fit2 hk) (by omega)
theorem has_small {k : Nat} {l : List Att} {n v : Str} (h : Small k l) (hk : k ≤ 10000) (hn : List.length n ≤ 6000) : Ctr Tryz.prog 23 [.d (atts l), .d (.str n), .d (.str v)] (.d (.bool (decide (v ∈ getL l n)))) :=
  has2_fn l n v (h.fit2 hk) (by omega) (by have := (h.get n).1; omega)
theorem check_small {k : Nat} {l : List Att} (h : Small k l) (hk : k ≤ 10000) : Ctr Tryz.prog 12 [.d (atts l)] (.d (.int .i64 (checkL l))) :=
  check_fn l (h.fit2 hk).1 h.fitV

theorem law6 (l : List Att) (name : Str) (v : List Str) (hb : Bulk l) (hvs : BulkS v) : Ctr Tryz.prog 6 [.d (atts l), .d (.str name), .d (strs v)] (.d (.bool true)) := by
  refine fn_of_vwp (fun _ => false) (by kernel_rfl) Tryz.func6 (by kernel_rfl) rfl rfl (Nat.le_of_ble_eq_true rfl) (by kernel_rfl) rfl rfl ?_
  simp -implicitDefEqProofs
  refine callK (short_fn l hb) ?_
  by_cases hs : shortB l = true
  · simp -implicitDefEqProofs [hs]
    refine callK (few_fn v hvs) ?_
    by_cases hs2 : fewB v = true
    · by_cases hs3 : 300 < (List.length name : Int)
      · simp -implicitDefEqProofs [hs, hs2, hs3]
        refine callK awake_fn ?_
        simp -implicitDefEqProofs [hs]
      · have h := short_small hs
        have hv := few_small hs2
        have hn : List.length name ≤ 6000 := by omega
        have c1 := add_small h (by omega) hn hv
        have c2 := addR_small h (by omega) hn hv
        have c3 := rem_small h (by omega) hn hv
        have c4 := remR_small h (by omega) hn hv
        have c5 := repl_small h (by omega) hn hv
        have c6 := replR_small h (by omega) hn hv
        have c7 := same_small (h.add hn hv) (h.add hn hv) (by omega)
        have c8 := same_small (h.rem (v := v) hn) (h.rem (v := v) hn) (by omega)
        have c9 := same_small (h.repl hn hv) (h.repl hn hv) (by omega)
        generalize addP l name v = r1 at *
        generalize removeP l name v = r2 at *
        generalize replP l name v = r3 at *
        simp -implicitDefEqProofs [hs, hs2, hs3]
        refine callK c1 ?_
        simp -implicitDefEqProofs
        refine callK c2 ?_
        simp -implicitDefEqProofs
        refine callK c3 ?_
        simp -implicitDefEqProofs
        refine callK c4 ?_
        simp -implicitDefEqProofs
        refine callK c5 ?_
        simp -implicitDefEqProofs
        refine callK c6 ?_
        simp -implicitDefEqProofs
        refine callK c7 ?_
        simp -implicitDefEqProofs
        refine callK c8 ?_
        simp -implicitDefEqProofs
        refine callK c9 ?_
        simp -implicitDefEqProofs
        refine callK awake_fn ?_
        simp -implicitDefEqProofs
    · simp -implicitDefEqProofs [hs, hs2]
      refine callK awake_fn ?_
      simp -implicitDefEqProofs [hs]
  · simp -implicitDefEqProofs [hs]
    refine callK awake_fn ?_
    simp -implicitDefEqProofs [hs]
end Go.Proofs.Tz

namespace Go.Proofs.Tz
open Go.Vw
set_option maxRecDepth 100000
set_option maxHeartbeats 8000000
set_option linter.unusedSimpArgs false

theorem limL_err {l : List Att} {n : Str} (h : ¬ (limL l n).2 = 0) : (limL l n).1 = [] := by
  unfold limL at h ⊢
  split at h
  · rename_i hc; rw [if_pos hc]
  · simp at h
theorem addP_err {l : List Att} {n : Str} {v : List Str} (h : ¬ (addP l n v).2 = 0) : (addP l n v).1 = [] := by
  unfold addP at h ⊢
  split at h
  · rename_i hc; rw [if_pos hc]
  rename_i h1
  rw [if_neg h1]
  split at h
  · rename_i hc; rw [if_pos hc]
  rename_i h2
  rw [if_neg h2]
  split at h
  · rename_i hc; rw [if_pos hc]
  rename_i h3
  rw [if_neg h3]
  exact limL_err h

theorem law7 (l : List Att) (name : Str) (v : List Str) (hb : Bulk l) (hvs : BulkS v) : Ctr Tryz.prog 7 [.d (atts l), .d (.str name), .d (strs v)] (.d (.bool true)) := by
  refine fn_of_vwp (fun _ => false) (by kernel_rfl) Tryz.func7 (by kernel_rfl) rfl rfl (Nat.le_of_ble_eq_true rfl) (by kernel_rfl) rfl rfl ?_
  simp -implicitDefEqProofs
  refine callK (short_fn l hb) ?_
  by_cases hs : shortB l = true
  · simp -implicitDefEqProofs [hs]
    refine callK (few_fn v hvs) ?_
    by_cases hs2 : fewB v = true
    · by_cases hs3 : 300 < (List.length name : Int)
      · simp -implicitDefEqProofs [hs, hs2, hs3]
        refine callK awake_fn ?_
        simp -implicitDefEqProofs [hs]
      · have h := short_small hs
        have hv := few_small hs2
        have hn : List.length name ≤ 6000 := by omega
        have c1 := sorted_fn l (h.fit2 (by omega))
        have c2 := sorted_fn (sortedL l) (h.sorted.fit2 (by omega))
        have c3 := same_small h.sorted h.sorted (by omega)
        have c4 := equal_fn (sortedL l) l (h.sorted.fit2 (by omega)) (h.fit2 (by omega)) (h.sorted.sorted.fit2 (by omega)).1 (h.sorted.fit2 (by omega)).1
        have c5 := check_small h (by omega)
        have c6 := add_small h (by omega) hn hv
        have c7 := rem_small h (by omega) hn hv
        have c8 := repl_small h (by omega) hn hv
        have c9 := check_small h.sorted (by omega)
        have d1 := check_small (h.add hn hv) (by omega)
        have d2 := check_small (h.rem (v := v) hn) (by omega)
        have d3 := check_small (h.repl hn hv) (by omega)
        have v0 : checkL l = 0 → checkL (sortedL l) = 0 := fun e => (check_iff _).2 ((check_iff _).1 e).sorted
        have v1 : checkL l = 0 → (addP l name v).2 = 0 → checkL (addP l name v).1 = 0 := fun e e1 => (check_iff _).2 (((check_iff _).1 e).add e1)
        have v2 : checkL l = 0 → (removeP l name v).2 = 0 → checkL (removeP l name v).1 = 0 := fun e e1 => (check_iff _).2 (((check_iff _).1 e).remove e1)
        have v3 : checkL l = 0 → (replP l name v).2 = 0 → checkL (replP l name v).1 = 0 := fun e e1 => (check_iff _).2 (((check_iff _).1 e).replace e1)
        rw [sorted_idem] at c2
        rw [sorted_idem, decide_eq_true rfl] at c4
        rw [decide_eq_true rfl] at c3
        generalize addP l name v = r1 at *
        generalize removeP l name v = r2 at *
        generalize replP l name v = r3 at *
        simp only [atts] at c2 c3 c4 c9
        generalize sortedL l = s at *
        simp -implicitDefEqProofs [hs, hs2, hs3]
        refine callK c1 ?_
        simp -implicitDefEqProofs
        refine callK c2 ?_
        simp -implicitDefEqProofs
        refine callK c3 ?_
        simp -implicitDefEqProofs
        refine callK c4 ?_
        simp -implicitDefEqProofs
        refine callK c5 ?_
        by_cases g0 : checkL l = 0
        · have v0 := v0 g0
          have v1 := v1 g0
          have v2 := v2 g0
          have v3 := v3 g0
          clear c1 c2 c3 c4 c5
          by_cases g1 : r1.2 = 0 <;> by_cases g2 : r2.2 = 0 <;> by_cases g3 : r3.2 = 0
          · simp -implicitDefEqProofs [g0, g1, g2, g3, v0, v1 g1, v2 g2, v3 g3]
            refine callK c6 ?_
            simp -implicitDefEqProofs [g0, g1, g2, g3, v0, v1 g1, v2 g2, v3 g3]
            refine callK c7 ?_
            simp -implicitDefEqProofs [g0, g1, g2, g3, v0, v1 g1, v2 g2, v3 g3]
            refine callK c8 ?_
            simp -implicitDefEqProofs [g0, g1, g2, g3, v0, v1 g1, v2 g2, v3 g3]
            refine callK c9 ?_
            simp -implicitDefEqProofs [g0, g1, g2, g3, v0, v1 g1, v2 g2, v3 g3]
            refine callK d1 ?_
            simp -implicitDefEqProofs [g0, g1, g2, g3, v0, v1 g1, v2 g2, v3 g3]
            refine callK d2 ?_
            simp -implicitDefEqProofs [g0, g1, g2, g3, v0, v1 g1, v2 g2, v3 g3]
            refine callK d3 ?_
            simp -implicitDefEqProofs [g0, g1, g2, g3, v0, v1 g1, v2 g2, v3 g3]
            refine callK awake_fn ?_
            simp -implicitDefEqProofs [g0, g1, g2, g3, v0, v1 g1, v2 g2, v3 g3]
          · simp -implicitDefEqProofs [g0, g1, g2, g3, v0, v1 g1, v2 g2]
            refine callK c6 ?_
            simp -implicitDefEqProofs [g0, g1, g2, g3, v0, v1 g1, v2 g2]
            refine callK c7 ?_
            simp -implicitDefEqProofs [g0, g1, g2, g3, v0, v1 g1, v2 g2]
            refine callK c8 ?_
            simp -implicitDefEqProofs [g0, g1, g2, g3, v0, v1 g1, v2 g2]
            refine callK c9 ?_
            simp -implicitDefEqProofs [g0, g1, g2, g3, v0, v1 g1, v2 g2]
            refine callK d1 ?_
            simp -implicitDefEqProofs [g0, g1, g2, g3, v0, v1 g1, v2 g2]
            refine callK d2 ?_
            simp -implicitDefEqProofs [g0, g1, g2, g3, v0, v1 g1, v2 g2]
            refine callK awake_fn ?_
            simp -implicitDefEqProofs [g0, g1, g2, g3, v0, v1 g1, v2 g2]
          · simp -implicitDefEqProofs [g0, g1, g2, g3, v0, v1 g1, v3 g3]
            refine callK c6 ?_
            simp -implicitDefEqProofs [g0, g1, g2, g3, v0, v1 g1, v3 g3]
            refine callK c7 ?_
            simp -implicitDefEqProofs [g0, g1, g2, g3, v0, v1 g1, v3 g3]
            refine callK c8 ?_
            simp -implicitDefEqProofs [g0, g1, g2, g3, v0, v1 g1, v3 g3]
            refine callK c9 ?_
            simp -implicitDefEqProofs [g0, g1, g2, g3, v0, v1 g1, v3 g3]
            refine callK d1 ?_
            simp -implicitDefEqProofs [g0, g1, g2, g3, v0, v1 g1, v3 g3]
            refine callK d3 ?_
            simp -implicitDefEqProofs [g0, g1, g2, g3, v0, v1 g1, v3 g3]
            refine callK awake_fn ?_
            simp -implicitDefEqProofs [g0, g1, g2, g3, v0, v1 g1, v3 g3]
          · simp -implicitDefEqProofs [g0, g1, g2, g3, v0, v1 g1]
            refine callK c6 ?_
            simp -implicitDefEqProofs [g0, g1, g2, g3, v0, v1 g1]
            refine callK c7 ?_
            simp -implicitDefEqProofs [g0, g1, g2, g3, v0, v1 g1]
            refine callK c8 ?_
            simp -implicitDefEqProofs [g0, g1, g2, g3, v0, v1 g1]
            refine callK c9 ?_
            simp -implicitDefEqProofs [g0, g1, g2, g3, v0, v1 g1]
            refine callK d1 ?_
            simp -implicitDefEqProofs [g0, g1, g2, g3, v0, v1 g1]
            refine callK awake_fn ?_
            simp -implicitDefEqProofs [g0, g1, g2, g3, v0, v1 g1]
          · simp -implicitDefEqProofs [g0, g1, g2, g3, v0, v2 g2, v3 g3]
            refine callK c6 ?_
            simp -implicitDefEqProofs [g0, g1, g2, g3, v0, v2 g2, v3 g3]
            refine callK c7 ?_
            simp -implicitDefEqProofs [g0, g1, g2, g3, v0, v2 g2, v3 g3]
            refine callK c8 ?_
            simp -implicitDefEqProofs [g0, g1, g2, g3, v0, v2 g2, v3 g3]
            refine callK c9 ?_
            simp -implicitDefEqProofs [g0, g1, g2, g3, v0, v2 g2, v3 g3]
            refine callK d2 ?_
            simp -implicitDefEqProofs [g0, g1, g2, g3, v0, v2 g2, v3 g3]
            refine callK d3 ?_
            simp -implicitDefEqProofs [g0, g1, g2, g3, v0, v2 g2, v3 g3]
            refine callK awake_fn ?_
            simp -implicitDefEqProofs [g0, g1, g2, g3, v0, v2 g2, v3 g3]
          · simp -implicitDefEqProofs [g0, g1, g2, g3, v0, v2 g2]
            refine callK c6 ?_
            simp -implicitDefEqProofs [g0, g1, g2, g3, v0, v2 g2]
            refine callK c7 ?_
            simp -implicitDefEqProofs [g0, g1, g2, g3, v0, v2 g2]
            refine callK c8 ?_
            simp -implicitDefEqProofs [g0, g1, g2, g3, v0, v2 g2]
            refine callK c9 ?_
            simp -implicitDefEqProofs [g0, g1, g2, g3, v0, v2 g2]
            refine callK d2 ?_
            simp -implicitDefEqProofs [g0, g1, g2, g3, v0, v2 g2]
            refine callK awake_fn ?_
            simp -implicitDefEqProofs [g0, g1, g2, g3, v0, v2 g2]
          · simp -implicitDefEqProofs [g0, g1, g2, g3, v0, v3 g3]
            refine callK c6 ?_
            simp -implicitDefEqProofs [g0, g1, g2, g3, v0, v3 g3]
            refine callK c7 ?_
            simp -implicitDefEqProofs [g0, g1, g2, g3, v0, v3 g3]
            refine callK c8 ?_
            simp -implicitDefEqProofs [g0, g1, g2, g3, v0, v3 g3]
            refine callK c9 ?_
            simp -implicitDefEqProofs [g0, g1, g2, g3, v0, v3 g3]
            refine callK d3 ?_
            simp -implicitDefEqProofs [g0, g1, g2, g3, v0, v3 g3]
            refine callK awake_fn ?_
            simp -implicitDefEqProofs [g0, g1, g2, g3, v0, v3 g3]
          · simp -implicitDefEqProofs [g0, g1, g2, g3, v0]
            refine callK c6 ?_
            simp -implicitDefEqProofs [g0, g1, g2, g3, v0]
            refine callK c7 ?_
            simp -implicitDefEqProofs [g0, g1, g2, g3, v0]
            refine callK c8 ?_
            simp -implicitDefEqProofs [g0, g1, g2, g3, v0]
            refine callK c9 ?_
            simp -implicitDefEqProofs [g0, g1, g2, g3, v0]
            refine callK awake_fn ?_
            simp -implicitDefEqProofs [g0, g1, g2, g3, v0]
        · simp -implicitDefEqProofs [g0]
          refine callK awake_fn ?_
          simp -implicitDefEqProofs
    · simp -implicitDefEqProofs [hs, hs2]
      refine callK awake_fn ?_
      simp -implicitDefEqProofs [hs]
  · simp -implicitDefEqProofs [hs]
    refine callK awake_fn ?_
    simp -implicitDefEqProofs [hs]

theorem law8 (l : List Att) (name : Str) (v : List Str) (hb : Bulk l) (hvs : BulkS v) : Ctr Tryz.prog 8 [.d (atts l), .d (.str name), .d (strs v)] (.d (.bool true)) := by
  refine fn_of_vwp (fun _ => false) (by kernel_rfl) Tryz.func8 (by kernel_rfl) rfl rfl (Nat.le_of_ble_eq_true rfl) (by kernel_rfl) rfl rfl ?_
  simp -implicitDefEqProofs
  refine callK (short_fn l hb) ?_
  by_cases hs : shortB l = true
  · simp -implicitDefEqProofs [hs]
    refine callK (few_fn v hvs) ?_
    by_cases hs2 : fewB v = true
    · by_cases hs3 : 300 < (List.length name : Int)
      · simp -implicitDefEqProofs [hs, hs2, hs3]
        refine callK awake_fn ?_
        simp -implicitDefEqProofs [hs]
      · have h := short_small hs
        have hv := few_small hs2
        have hn : List.length name ≤ 6000 := by omega
        have c1 := add_small h (by omega) hn hv
        have c2 := rem_small (h.add hn hv) (by omega) hn hv
        have c3 := sorted_fn l (h.fit2 (by omega))
        have c4 := same_small h.sorted h.sorted (by omega)
        have c5 := fun x => has_small (n := name) (v := x) (h.add hn hv) (by omega) hn
        have e0 : ¬ (addP l name v).2 = 0 → (addP l name v).1 = [] := addP_err
        have e1 : (addP l name v).2 = 0 → _ := undone
        rw [decide_eq_true rfl] at c4
        have hvl := hv.len
        generalize addP l name v = r1 at *
        simp only [atts] at c4
        generalize sortedL l = s at *
        simp -implicitDefEqProofs [hs, hs2, hs3]
        refine callK c1 ?_
        by_cases g1 : r1.2 = 0
        · obtain ⟨e2, e3⟩ := e1 g1
          rw [e2] at c2
          simp -implicitDefEqProofs [g1]
          refine loopN v.length (fun k τ => τ 0 = .d (atts l) ∧ τ 1 = .d (.str name) ∧ τ 2 = .d (strs v) ∧ τ 7 = .d (atts r1.1) ∧ τ 9 = .d (.int .i64 k)) (by simp [strs]) ?_
          rintro k τ hk ⟨h0, h1, h2, h7, h9⟩
          by_cases hlt : k < v.length
          · have c5 := c5 v[k]
            rw [decide_eq_true (e3 _ (List.getElem_mem hlt))] at c5
            simp -implicitDefEqProofs [h0, h1, h2, h7, h9, hlt, strs]
            refine callK c5 ?_
            simp -implicitDefEqProofs [h0, h1, h2, h7, h9, hlt, strs]
            exact ⟨by omega, again hlt ⟨by simp [h0], by simp [h1], by simp [h2, strs], by simp [h7], by simp⟩⟩
          · simp -implicitDefEqProofs [h0, h1, h2, h7, h9, hlt, strs]
            simp only [strs] at c2
            refine callK c2 ?_
            simp -implicitDefEqProofs [h0, h1, h2, h7, h9, hlt, strs, atts]
            simp only [atts] at c3
            refine callK c3 ?_
            simp -implicitDefEqProofs [h0, h1, h2, h7, h9, hlt, strs, atts]
            refine callK c4 ?_
            simp -implicitDefEqProofs [h0, h1, h2, h7, h9, hlt, strs, atts]
            refine callK awake_fn ?_
            simp -implicitDefEqProofs
        · have e2 := e0 g1
          simp -implicitDefEqProofs [g1, e2, atts]
          refine callK awake_fn ?_
          simp -implicitDefEqProofs
    · simp -implicitDefEqProofs [hs, hs2]
      refine callK awake_fn ?_
      simp -implicitDefEqProofs [hs]
  · simp -implicitDefEqProofs [hs]
    refine callK awake_fn ?_
    simp -implicitDefEqProofs [hs]
end Go.Proofs.Tz

namespace Go.Proofs.Tz
open Go.Vw
set_option maxRecDepth 100000
set_option maxHeartbeats 8000000
set_option linter.unusedSimpArgs false

theorem law9 (l : List Att) (name other : Str) (v : List Str) (hb : Bulk l) (hvs : BulkS v) : Ctr Tryz.prog 9 [.d (atts l), .d (.str name), .d (.str other), .d (strs v)] (.d (.bool true)) := by
  refine fn_of_vwp (fun _ => false) (by kernel_rfl) Tryz.func9 (by kernel_rfl) rfl rfl (Nat.le_of_ble_eq_true rfl) (by kernel_rfl) rfl rfl ?_
  simp -implicitDefEqProofs
  refine callK (short_fn l hb) ?_
  by_cases hs : shortB l = true
  · simp -implicitDefEqProofs [hs]
    refine callK (few_fn v hvs) ?_
    by_cases hs2 : fewB v = true
    · by_cases hs3 : 300 < (List.length name : Int)
      · simp -implicitDefEqProofs [hs, hs2, hs3]
        refine callK awake_fn ?_
        simp -implicitDefEqProofs [hs]
      · by_cases hs4 : 300 < (List.length other : Int)
        · simp -implicitDefEqProofs [hs, hs2, hs3, hs4]
          refine callK awake_fn ?_
          simp -implicitDefEqProofs [hs]
        · have h := short_small hs
          have hv := few_small hs2
          have hn : List.length name ≤ 6000 := by omega
          have ho : List.length other ≤ 6000 := by omega
          have b1 := lower_fn name (by omega)
          have b2 := lower_fn other (by omega)
          have c6 := add_small h (by omega) hn hv
          have c7 := rem_small h (by omega) hn hv
          have c8 := repl_small h (by omega) hn hv
          have c9 := get_small h (by omega) ho
          have hgl := getL_len l other
          have htl := h.tot
          have sm := same_fn (getL l other) (getL l other) (by omega) (by omega)
          rw [decide_eq_true rfl] at sm
          have d1 := get_small (h.add hn hv) (by omega) ho
          have d2 := get_small (h.rem (v := v) hn) (by omega) ho
          have d3 := get_small (h.repl hn hv) (by omega) ho
          have d4 := get_small (h.repl hn hv) (by omega) hn
          have d5 := fun x => has_small (n := name) (v := x) (h.repl hn hv) (by omega) hn
          have v1 : (addP l name v).2 = 0 → ¬ lower name = lower other → _ := fun e e1 => add_other e e1
          have v2 : (removeP l name v).2 = 0 → ¬ lower name = lower other → _ := fun e e1 => rem_other e e1
          have v3 : (replP l name v).2 = 0 → ¬ lower name = lower other → _ := fun e e1 => repl_other e e1
          have v4 : (replP l name v).2 = 0 → _ := fun e => repl_get e
          have hvl := hv.len
          generalize addP l name v = r1 at *
          generalize removeP l name v = r2 at *
          generalize replP l name v = r3 at *
          generalize getL l other = o at *
          simp -implicitDefEqProofs [hs, hs2, hs3, hs4]
          by_cases hsame : lower name = lower other
          · by_cases g3 : r3.2 = 0
            · refine callK b1 ?_
              simp -implicitDefEqProofs [hsame, g3]
              refine callK b2 ?_
              simp -implicitDefEqProofs [hsame, g3]
              refine callK c6 ?_
              simp -implicitDefEqProofs [hsame, g3]
              refine callK c7 ?_
              simp -implicitDefEqProofs [hsame, g3]
              refine callK c8 ?_
              simp -implicitDefEqProofs [hsame, g3]
              refine callK c9 ?_
              simp -implicitDefEqProofs [hsame, g3]
              refine loopN v.length (fun k τ => τ 1 = .d (.str name) ∧ τ 3 = .d (strs v) ∧ τ 14 = .d (atts r3.1) ∧ τ 17 = .d (.int .i64 k)) (by simp [strs]) ?_
              rintro k τ hk ⟨h1, h3, h14, h17⟩
              obtain ⟨v5, v6⟩ := v4 g3
              by_cases hlt : k < v.length
              · have d5 := d5 v[k]
                rw [decide_eq_true (v5 _ (List.getElem_mem hlt))] at d5
                simp -implicitDefEqProofs [h1, h3, h14, h17, hlt, strs]
                refine callK d5 ?_
                simp -implicitDefEqProofs [h1, h3, h14, h17, hlt, strs]
                exact ⟨by omega, again hlt ⟨by simp [h1], by simp [h3, strs], by simp [h14], by simp⟩⟩
              · simp -implicitDefEqProofs [h1, h3, h14, h17, hlt, strs]
                refine callK d4 ?_
                simp -implicitDefEqProofs [h1, h3, h14, h17, hlt, strs, v6]
                refine callK awake_fn ?_
                simp -implicitDefEqProofs
            · refine callK b1 ?_
              simp -implicitDefEqProofs [hsame, g3]
              refine callK b2 ?_
              simp -implicitDefEqProofs [hsame, g3]
              refine callK c6 ?_
              simp -implicitDefEqProofs [hsame, g3]
              refine callK c7 ?_
              simp -implicitDefEqProofs [hsame, g3]
              refine callK c8 ?_
              simp -implicitDefEqProofs [hsame, g3]
              refine callK c9 ?_
              simp -implicitDefEqProofs [hsame, g3]
              refine callK awake_fn ?_
              simp -implicitDefEqProofs
          · by_cases g1 : r1.2 = 0 <;> by_cases g2 : r2.2 = 0 <;> by_cases g3 : r3.2 = 0
            · rw [v1 g1 hsame] at d1
              rw [v2 g2 hsame] at d2
              rw [v3 g3 hsame] at d3
              refine callK b1 ?_
              simp -implicitDefEqProofs [hsame, g1, g2, g3, v1 g1 hsame, v2 g2 hsame, v3 g3 hsame]
              refine callK b2 ?_
              simp -implicitDefEqProofs [hsame, g1, g2, g3, v1 g1 hsame, v2 g2 hsame, v3 g3 hsame]
              refine callK c6 ?_
              simp -implicitDefEqProofs [hsame, g1, g2, g3, v1 g1 hsame, v2 g2 hsame, v3 g3 hsame]
              refine callK c7 ?_
              simp -implicitDefEqProofs [hsame, g1, g2, g3, v1 g1 hsame, v2 g2 hsame, v3 g3 hsame]
              refine callK c8 ?_
              simp -implicitDefEqProofs [hsame, g1, g2, g3, v1 g1 hsame, v2 g2 hsame, v3 g3 hsame]
              refine callK c9 ?_
              simp -implicitDefEqProofs [hsame, g1, g2, g3, v1 g1 hsame, v2 g2 hsame, v3 g3 hsame]
              refine callK d1 ?_
              simp -implicitDefEqProofs [hsame, g1, g2, g3, v1 g1 hsame, v2 g2 hsame, v3 g3 hsame]
              refine callK sm ?_
              simp -implicitDefEqProofs [hsame, g1, g2, g3, v1 g1 hsame, v2 g2 hsame, v3 g3 hsame]
              refine callK d2 ?_
              simp -implicitDefEqProofs [hsame, g1, g2, g3, v1 g1 hsame, v2 g2 hsame, v3 g3 hsame]
              refine callK sm ?_
              simp -implicitDefEqProofs [hsame, g1, g2, g3, v1 g1 hsame, v2 g2 hsame, v3 g3 hsame]
              refine callK d3 ?_
              simp -implicitDefEqProofs [hsame, g1, g2, g3, v1 g1 hsame, v2 g2 hsame, v3 g3 hsame]
              refine callK sm ?_
              simp -implicitDefEqProofs [hsame, g1, g2, g3, v1 g1 hsame, v2 g2 hsame, v3 g3 hsame]
              refine loopN v.length (fun k τ => τ 1 = .d (.str name) ∧ τ 3 = .d (strs v) ∧ τ 14 = .d (atts r3.1) ∧ τ 17 = .d (.int .i64 k)) (by simp [strs]) ?_
              rintro k τ hk ⟨h1, h3, h14, h17⟩
              obtain ⟨v5, v6⟩ := v4 g3
              by_cases hlt : k < v.length
              · have d5 := d5 v[k]
                rw [decide_eq_true (v5 _ (List.getElem_mem hlt))] at d5
                simp -implicitDefEqProofs [h1, h3, h14, h17, hlt, strs]
                refine callK d5 ?_
                simp -implicitDefEqProofs [h1, h3, h14, h17, hlt, strs]
                exact ⟨by omega, again hlt ⟨by simp [h1], by simp [h3, strs], by simp [h14], by simp⟩⟩
              · simp -implicitDefEqProofs [h1, h3, h14, h17, hlt, strs]
                refine callK d4 ?_
                simp -implicitDefEqProofs [h1, h3, h14, h17, hlt, strs, v6]
                refine callK awake_fn ?_
                simp -implicitDefEqProofs
            · rw [v1 g1 hsame] at d1
              rw [v2 g2 hsame] at d2
              refine callK b1 ?_
              simp -implicitDefEqProofs [hsame, g1, g2, g3, v1 g1 hsame, v2 g2 hsame]
              refine callK b2 ?_
              simp -implicitDefEqProofs [hsame, g1, g2, g3, v1 g1 hsame, v2 g2 hsame]
              refine callK c6 ?_
              simp -implicitDefEqProofs [hsame, g1, g2, g3, v1 g1 hsame, v2 g2 hsame]
              refine callK c7 ?_
              simp -implicitDefEqProofs [hsame, g1, g2, g3, v1 g1 hsame, v2 g2 hsame]
              refine callK c8 ?_
              simp -implicitDefEqProofs [hsame, g1, g2, g3, v1 g1 hsame, v2 g2 hsame]
              refine callK c9 ?_
              simp -implicitDefEqProofs [hsame, g1, g2, g3, v1 g1 hsame, v2 g2 hsame]
              refine callK d1 ?_
              simp -implicitDefEqProofs [hsame, g1, g2, g3, v1 g1 hsame, v2 g2 hsame]
              refine callK sm ?_
              simp -implicitDefEqProofs [hsame, g1, g2, g3, v1 g1 hsame, v2 g2 hsame]
              refine callK d2 ?_
              simp -implicitDefEqProofs [hsame, g1, g2, g3, v1 g1 hsame, v2 g2 hsame]
              refine callK sm ?_
              simp -implicitDefEqProofs [hsame, g1, g2, g3, v1 g1 hsame, v2 g2 hsame]
              refine callK awake_fn ?_
              simp -implicitDefEqProofs
            · rw [v1 g1 hsame] at d1
              rw [v3 g3 hsame] at d3
              refine callK b1 ?_
              simp -implicitDefEqProofs [hsame, g1, g2, g3, v1 g1 hsame, v3 g3 hsame]
              refine callK b2 ?_
              simp -implicitDefEqProofs [hsame, g1, g2, g3, v1 g1 hsame, v3 g3 hsame]
              refine callK c6 ?_
              simp -implicitDefEqProofs [hsame, g1, g2, g3, v1 g1 hsame, v3 g3 hsame]
              refine callK c7 ?_
              simp -implicitDefEqProofs [hsame, g1, g2, g3, v1 g1 hsame, v3 g3 hsame]
              refine callK c8 ?_
              simp -implicitDefEqProofs [hsame, g1, g2, g3, v1 g1 hsame, v3 g3 hsame]
              refine callK c9 ?_
              simp -implicitDefEqProofs [hsame, g1, g2, g3, v1 g1 hsame, v3 g3 hsame]
              refine callK d1 ?_
              simp -implicitDefEqProofs [hsame, g1, g2, g3, v1 g1 hsame, v3 g3 hsame]
              refine callK sm ?_
              simp -implicitDefEqProofs [hsame, g1, g2, g3, v1 g1 hsame, v3 g3 hsame]
              refine callK d3 ?_
              simp -implicitDefEqProofs [hsame, g1, g2, g3, v1 g1 hsame, v3 g3 hsame]
              refine callK sm ?_
              simp -implicitDefEqProofs [hsame, g1, g2, g3, v1 g1 hsame, v3 g3 hsame]
              refine loopN v.length (fun k τ => τ 1 = .d (.str name) ∧ τ 3 = .d (strs v) ∧ τ 14 = .d (atts r3.1) ∧ τ 17 = .d (.int .i64 k)) (by simp [strs]) ?_
              rintro k τ hk ⟨h1, h3, h14, h17⟩
              obtain ⟨v5, v6⟩ := v4 g3
              by_cases hlt : k < v.length
              · have d5 := d5 v[k]
                rw [decide_eq_true (v5 _ (List.getElem_mem hlt))] at d5
                simp -implicitDefEqProofs [h1, h3, h14, h17, hlt, strs]
                refine callK d5 ?_
                simp -implicitDefEqProofs [h1, h3, h14, h17, hlt, strs]
                exact ⟨by omega, again hlt ⟨by simp [h1], by simp [h3, strs], by simp [h14], by simp⟩⟩
              · simp -implicitDefEqProofs [h1, h3, h14, h17, hlt, strs]
                refine callK d4 ?_
                simp -implicitDefEqProofs [h1, h3, h14, h17, hlt, strs, v6]
                refine callK awake_fn ?_
                simp -implicitDefEqProofs
            · rw [v1 g1 hsame] at d1
              refine callK b1 ?_
              simp -implicitDefEqProofs [hsame, g1, g2, g3, v1 g1 hsame]
              refine callK b2 ?_
              simp -implicitDefEqProofs [hsame, g1, g2, g3, v1 g1 hsame]
              refine callK c6 ?_
              simp -implicitDefEqProofs [hsame, g1, g2, g3, v1 g1 hsame]
              refine callK c7 ?_
              simp -implicitDefEqProofs [hsame, g1, g2, g3, v1 g1 hsame]
              refine callK c8 ?_
              simp -implicitDefEqProofs [hsame, g1, g2, g3, v1 g1 hsame]
              refine callK c9 ?_
              simp -implicitDefEqProofs [hsame, g1, g2, g3, v1 g1 hsame]
              refine callK d1 ?_
              simp -implicitDefEqProofs [hsame, g1, g2, g3, v1 g1 hsame]
              refine callK sm ?_
              simp -implicitDefEqProofs [hsame, g1, g2, g3, v1 g1 hsame]
              refine callK awake_fn ?_
              simp -implicitDefEqProofs
            · rw [v2 g2 hsame] at d2
              rw [v3 g3 hsame] at d3
              refine callK b1 ?_
              simp -implicitDefEqProofs [hsame, g1, g2, g3, v2 g2 hsame, v3 g3 hsame]
              refine callK b2 ?_
              simp -implicitDefEqProofs [hsame, g1, g2, g3, v2 g2 hsame, v3 g3 hsame]
              refine callK c6 ?_
              simp -implicitDefEqProofs [hsame, g1, g2, g3, v2 g2 hsame, v3 g3 hsame]
              refine callK c7 ?_
              simp -implicitDefEqProofs [hsame, g1, g2, g3, v2 g2 hsame, v3 g3 hsame]
              refine callK c8 ?_
              simp -implicitDefEqProofs [hsame, g1, g2, g3, v2 g2 hsame, v3 g3 hsame]
              refine callK c9 ?_
              simp -implicitDefEqProofs [hsame, g1, g2, g3, v2 g2 hsame, v3 g3 hsame]
              refine callK d2 ?_
              simp -implicitDefEqProofs [hsame, g1, g2, g3, v2 g2 hsame, v3 g3 hsame]
              refine callK sm ?_
              simp -implicitDefEqProofs [hsame, g1, g2, g3, v2 g2 hsame, v3 g3 hsame]
              refine callK d3 ?_
              simp -implicitDefEqProofs [hsame, g1, g2, g3, v2 g2 hsame, v3 g3 hsame]
              refine callK sm ?_
              simp -implicitDefEqProofs [hsame, g1, g2, g3, v2 g2 hsame, v3 g3 hsame]
              refine loopN v.length (fun k τ => τ 1 = .d (.str name) ∧ τ 3 = .d (strs v) ∧ τ 14 = .d (atts r3.1) ∧ τ 17 = .d (.int .i64 k)) (by simp [strs]) ?_
              rintro k τ hk ⟨h1, h3, h14, h17⟩
              obtain ⟨v5, v6⟩ := v4 g3
              by_cases hlt : k < v.length
              · have d5 := d5 v[k]
                rw [decide_eq_true (v5 _ (List.getElem_mem hlt))] at d5
                simp -implicitDefEqProofs [h1, h3, h14, h17, hlt, strs]
                refine callK d5 ?_
                simp -implicitDefEqProofs [h1, h3, h14, h17, hlt, strs]
                exact ⟨by omega, again hlt ⟨by simp [h1], by simp [h3, strs], by simp [h14], by simp⟩⟩
              · simp -implicitDefEqProofs [h1, h3, h14, h17, hlt, strs]
                refine callK d4 ?_
                simp -implicitDefEqProofs [h1, h3, h14, h17, hlt, strs, v6]
                refine callK awake_fn ?_
                simp -implicitDefEqProofs
            · rw [v2 g2 hsame] at d2
              refine callK b1 ?_
              simp -implicitDefEqProofs [hsame, g1, g2, g3, v2 g2 hsame]
              refine callK b2 ?_
              simp -implicitDefEqProofs [hsame, g1, g2, g3, v2 g2 hsame]
              refine callK c6 ?_
              simp -implicitDefEqProofs [hsame, g1, g2, g3, v2 g2 hsame]
              refine callK c7 ?_
              simp -implicitDefEqProofs [hsame, g1, g2, g3, v2 g2 hsame]
              refine callK c8 ?_
              simp -implicitDefEqProofs [hsame, g1, g2, g3, v2 g2 hsame]
              refine callK c9 ?_
              simp -implicitDefEqProofs [hsame, g1, g2, g3, v2 g2 hsame]
              refine callK d2 ?_
              simp -implicitDefEqProofs [hsame, g1, g2, g3, v2 g2 hsame]
              refine callK sm ?_
              simp -implicitDefEqProofs [hsame, g1, g2, g3, v2 g2 hsame]
              refine callK awake_fn ?_
              simp -implicitDefEqProofs
            · rw [v3 g3 hsame] at d3
              refine callK b1 ?_
              simp -implicitDefEqProofs [hsame, g1, g2, g3, v3 g3 hsame]
              refine callK b2 ?_
              simp -implicitDefEqProofs [hsame, g1, g2, g3, v3 g3 hsame]
              refine callK c6 ?_
              simp -implicitDefEqProofs [hsame, g1, g2, g3, v3 g3 hsame]
              refine callK c7 ?_
              simp -implicitDefEqProofs [hsame, g1, g2, g3, v3 g3 hsame]
              refine callK c8 ?_
              simp -implicitDefEqProofs [hsame, g1, g2, g3, v3 g3 hsame]
              refine callK c9 ?_
              simp -implicitDefEqProofs [hsame, g1, g2, g3, v3 g3 hsame]
              refine callK d3 ?_
              simp -implicitDefEqProofs [hsame, g1, g2, g3, v3 g3 hsame]
              refine callK sm ?_
              simp -implicitDefEqProofs [hsame, g1, g2, g3, v3 g3 hsame]
              refine loopN v.length (fun k τ => τ 1 = .d (.str name) ∧ τ 3 = .d (strs v) ∧ τ 14 = .d (atts r3.1) ∧ τ 17 = .d (.int .i64 k)) (by simp [strs]) ?_
              rintro k τ hk ⟨h1, h3, h14, h17⟩
              obtain ⟨v5, v6⟩ := v4 g3
              by_cases hlt : k < v.length
              · have d5 := d5 v[k]
                rw [decide_eq_true (v5 _ (List.getElem_mem hlt))] at d5
                simp -implicitDefEqProofs [h1, h3, h14, h17, hlt, strs]
                refine callK d5 ?_
                simp -implicitDefEqProofs [h1, h3, h14, h17, hlt, strs]
                exact ⟨by omega, again hlt ⟨by simp [h1], by simp [h3, strs], by simp [h14], by simp⟩⟩
              · simp -implicitDefEqProofs [h1, h3, h14, h17, hlt, strs]
                refine callK d4 ?_
                simp -implicitDefEqProofs [h1, h3, h14, h17, hlt, strs, v6]
                refine callK awake_fn ?_
                simp -implicitDefEqProofs
            · refine callK b1 ?_
              simp -implicitDefEqProofs [hsame, g1, g2, g3]
              refine callK b2 ?_
              simp -implicitDefEqProofs [hsame, g1, g2, g3]
              refine callK c6 ?_
              simp -implicitDefEqProofs [hsame, g1, g2, g3]
              refine callK c7 ?_
              simp -implicitDefEqProofs [hsame, g1, g2, g3]
              refine callK c8 ?_
              simp -implicitDefEqProofs [hsame, g1, g2, g3]
              refine callK c9 ?_
              simp -implicitDefEqProofs [hsame, g1, g2, g3]
              refine callK awake_fn ?_
              simp -implicitDefEqProofs
    · simp -implicitDefEqProofs [hs, hs2]
      refine callK awake_fn ?_
      simp -implicitDefEqProofs [hs]
  · simp -implicitDefEqProofs [hs]
    refine callK awake_fn ?_
    simp -implicitDefEqProofs [hs]
end Go.Proofs.Tz

namespace Go.Proofs.Tz
open Go.Vw
set_option linter.unusedSimpArgs false

theorem reachS_of {l : List Str} (h : (strs l).lim 140737488351232) : ReachS l := fun v hv => by
  simp only [strs, D.lim, D.lims_mem] at h
  have := h.2 _ (List.mem_map.2 ⟨v, hv, rfl⟩)
  simpa [D.lim] using this
theorem reach_of {l : List Att} (h : (atts l).lim 140737488351232) : Reach l := fun a ha => by
  simp only [atts, D.lim, D.lims_mem] at h
  have := h.2 _ (List.mem_map.2 ⟨a, ha, rfl⟩)
  simp only [att, D.lim, D.lims] at this
  exact ⟨this.1, reachS_of this.2.1⟩

theorem AttrsChecks_ok (l : List Att) (hb : D.lims 140737488351232 [atts l]) : Ctr Tryz.prog 3 [.d (atts l)] (.d (.bool true)) := by
  simp only [D.lims] at hb
  exact law3 l (reach_of hb.1)
theorem AttrsSorts_ok (a b : List Att) (hb : D.lims 140737488351232 [atts a, atts b]) : Ctr Tryz.prog 4 [.d (atts a), .d (atts b)] (.d (.bool true)) := by
  simp only [D.lims] at hb
  exact law4 a b (reach_of hb.1) (reach_of hb.2.1)
theorem AttrsPicks_ok (l : List Att) (n v : Str) (ns : List Str) (hb : D.lims 140737488351232 [atts l, .str n, .str v, strs ns]) : Ctr Tryz.prog 5 [.d (atts l), .d (.str n), .d (.str v), .d (strs ns)] (.d (.bool true)) := by
  simp only [D.lims] at hb
  exact law5 l n v ns (reach_of hb.1) (reachS_of hb.2.2.2.1)
theorem AttrsEdits_ok (l : List Att) (n : Str) (v : List Str) (hb : D.lims 140737488351232 [atts l, .str n, strs v]) : Ctr Tryz.prog 6 [.d (atts l), .d (.str n), .d (strs v)] (.d (.bool true)) := by
  simp only [D.lims] at hb
  exact law6 l n v (reach_of hb.1) (reachS_of hb.2.2.1)
theorem AttrsNormal_ok (l : List Att) (n : Str) (v : List Str) (hb : D.lims 140737488351232 [atts l, .str n, strs v]) : Ctr Tryz.prog 7 [.d (atts l), .d (.str n), .d (strs v)] (.d (.bool true)) := by
  simp only [D.lims] at hb
  exact law7 l n v (reach_of hb.1) (reachS_of hb.2.2.1)
theorem AttrsUndone_ok (l : List Att) (n : Str) (v : List Str) (hb : D.lims 140737488351232 [atts l, .str n, strs v]) : Ctr Tryz.prog 8 [.d (atts l), .d (.str n), .d (strs v)] (.d (.bool true)) := by
  simp only [D.lims] at hb
  exact law8 l n v (reach_of hb.1) (reachS_of hb.2.2.1)
theorem AttrsOthers_ok (l : List Att) (n o : Str) (v : List Str) (hb : D.lims 140737488351232 [atts l, .str n, .str o, strs v]) : Ctr Tryz.prog 9 [.d (atts l), .d (.str n), .d (.str o), .d (strs v)] (.d (.bool true)) := by
  simp only [D.lims] at hb
  exact law9 l n o v (reach_of hb.1) (reachS_of hb.2.2.2.1)
end Go.Proofs.Tz
