/-
  What the other functions of attrs compute: contracts, for lists and strings of bounded size (each theorem states its bound).
-/
import Derived.Test.YtfljbolhljafdaaGreatDoorTc
import Derived.Test.YtfljbolhljafdaaGreatDoorWd
import Derived.Test.YtfljbolhljafdaaGreatDoorTb

set_option linter.unusedSimpArgs false
set_option linter.unusedVariables false

namespace Go.Proofs.Tz
open Go.Vw Go.Lib
set_option linter.unusedSimpArgs false

theorem bl (x y : Str) : Op.bytesLess x y = decide (x < y) := bytesLess_eq x y
theorem bl_t {x y : Str} : Op.bytesLess x y = true ↔ x < y := by rw [bl]; simp
theorem bl_f {x y : Str} : Op.bytesLess x y = false ↔ ¬ x < y := by rw [bl]; simp
theorem s_irr (x : Str) : ¬ x < x := List.lt_irrefl x
theorem s_trans {x y z : Str} (h1 : x < y) (h2 : y < z) : x < z := List.lt_trans h1 h2
theorem s_tri {x y : Str} (h1 : ¬ x < y) (h2 : ¬ y < x) : x = y := List.le_antisymm (List.not_lt.1 h2) (List.not_lt.1 h1)

/-- Strictly ascending. -/
def SS (l : List Str) : Prop := l.Pairwise (· < ·)
theorem SS.nodup {l : List Str} (h : SS l) : l.Nodup := List.Pairwise.imp (R := fun a b : Str => a < b) (S := fun a b : Str => a ≠ b) (fun hab e => by subst e; exact s_irr _ hab) h
theorem SS_ext {a b : List Str} (ha : SS a) (hb : SS b) (h : ∀ x, x ∈ a ↔ x ∈ b) : a = b := by
  have hp : a.Perm b := (List.perm_ext_iff_of_nodup ha.nodup hb.nodup).2 h
  exact hp.eq_of_pairwise (fun x y _ _ h1 h2 => absurd (s_trans h1 h2) (s_irr x)) ha hb

/-- Insert, by recursion. -/
def insR (s : Str) : List Str → List Str
  | [] => [s]
  | x :: l => if x < s then x :: insR s l else if x = s then x :: l else s :: x :: l
theorem ins_rest (s : Str) : ∀ (l out : List Str), (∀ x ∈ l, s < x) → l.foldl (insS s) (true, out) = (true, out ++ l)
  | [], out, _ => by simp
  | x :: l, out, h => by
    have hx := h x (by simp)
    have hne : ¬ x = s := fun e => s_irr s (e ▸ hx)
    have : insS s (true, out) x = (true, out ++ [x]) := by simp [insS, hne]
    rw [List.foldl_cons, this, ins_rest s l _ (fun y hy => h y (by simp [hy]))]
    simp
theorem ins_go (s : Str) : ∀ (l out : List Str), SS l → (l.foldl (insS s) (false, out)).2 ++ (if (l.foldl (insS s) (false, out)).1 then [] else [s]) = out ++ insR s l
  | [], out, _ => by simp [insR]
  | x :: l, out, h => by
    have hp := List.pairwise_cons.1 h
    rw [List.foldl_cons, insR]
    by_cases hx : x < s
    · have hne : ¬ x = s := fun e => s_irr s (e ▸ hx)
      have : insS s (false, out) x = (false, out ++ [x]) := by simp [insS, bl_t.2 hx, hne]
      rw [this, ins_go s l _ hp.2, if_pos hx]
      simp
    · rw [if_neg hx]
      by_cases he : x = s
      · subst he
        have : insS x (false, out) x = (true, out ++ [x]) := by simp [insS, bl_f.2 hx]
        rw [this, ins_rest x l _ hp.1, if_pos rfl]
        simp
      · have hs : s < x := Classical.byContradiction fun h2 => he (s_tri hx h2)
        have : insS s (false, out) x = (true, out ++ [s] ++ [x]) := by simp [insS, bl_f.2 hx, he]
        rw [this, ins_rest s l _ (fun y hy => s_trans hs (hp.1 y hy)), if_neg he]
        simp
theorem ins_eq {l : List Str} (h : SS l) (s : Str) : ins l s = insR s l := by
  have := ins_go s l [] h
  rw [List.nil_append] at this
  exact this
theorem insR_mem (s : Str) : ∀ (l : List Str) (x : Str), x ∈ insR s l ↔ x = s ∨ x ∈ l
  | [], x => by simp [insR]
  | y :: l, x => by
    rw [insR]
    split
    · simp only [List.mem_cons, insR_mem s l x]
      constructor
      · rintro (h | h | h) <;> simp [h]
      · rintro (h | h | h) <;> simp [h]
    · split
      · rename_i h; subst h; simp
      · simp
theorem insR_SS (s : Str) : ∀ (l : List Str), SS l → SS (insR s l)
  | [], _ => by simp [insR, SS]
  | y :: l, h => by
    have hp := List.pairwise_cons.1 h
    rw [insR]
    split
    · rename_i hy
      refine List.pairwise_cons.2 ⟨fun z hz => ?_, insR_SS s l hp.2⟩
      rcases (insR_mem s l z).1 hz with rfl | hz
      · exact hy
      · exact hp.1 z hz
    · rename_i hy
      split
      · exact h
      · rename_i he
        have hs : s < y := Classical.byContradiction fun h2 => he (s_tri hy h2)
        refine List.pairwise_cons.2 ⟨fun z hz => ?_, h⟩
        rcases List.mem_cons.1 hz with rfl | hz
        · exact hs
        · exact s_trans hs (hp.1 z hz)
theorem ins_mem {l : List Str} (h : SS l) (s x : Str) : x ∈ ins l s ↔ x = s ∨ x ∈ l := by rw [ins_eq h]; exact insR_mem s l x
theorem ins_SS {l : List Str} (h : SS l) (s : Str) : SS (ins l s) := by rw [ins_eq h]; exact insR_SS s l h

theorem insAll_spec : ∀ (vs l : List Str), SS l → SS (vs.foldl ins l) ∧ ∀ x, x ∈ vs.foldl ins l ↔ x ∈ l ∨ x ∈ vs
  | [], l, h => ⟨h, fun x => by simp⟩
  | v :: vs, l, h => by
    have := insAll_spec vs (ins l v) (ins_SS h v)
    refine ⟨this.1, fun x => ?_⟩
    rw [List.foldl_cons, this.2, ins_mem h]
    simp only [List.mem_cons]
    constructor
    · rintro ((h | h) | h) <;> simp [h]
    · rintro (h | h | h) <;> simp [h]

theorem namesF_spec : ∀ (l : List Att) (ns : List Str), SS ns → SS (l.foldl namesS ns) ∧ ∀ x, x ∈ l.foldl namesS ns ↔ x ∈ ns ∨ ∃ a ∈ l, a.2 ≠ [] ∧ lower a.1 = x
  | [], ns, h => ⟨h, fun x => by simp⟩
  | a :: l, ns, h => by
    rw [List.foldl_cons]
    by_cases ha : a.2 = []
    · rw [namesS, if_pos ha]
      have := namesF_spec l ns h
      refine ⟨this.1, fun x => ?_⟩
      rw [this.2]
      simp [ha]
    · rw [namesS, if_neg ha]
      have := namesF_spec l (ins ns (lower a.1)) (ins_SS h _)
      refine ⟨this.1, fun x => ?_⟩
      rw [this.2, ins_mem h]
      simp only [List.mem_cons, exists_eq_or_imp, ne_eq, ha, not_false_eq_true, true_and]
      constructor
      · rintro ((h | h) | h)
        · exact .inr (.inl h.symm)
        · exact .inl h
        · exact .inr (.inr h)
      · rintro (h | h | h)
        · exact .inl (.inr h)
        · exact .inl (.inl h.symm)
        · exact .inr h
theorem valsF_spec (n : Str) : ∀ (l : List Att) (vs : List Str), SS vs → SS (l.foldl (valsS n) vs) ∧ ∀ x, x ∈ l.foldl (valsS n) vs ↔ x ∈ vs ∨ ∃ a ∈ l, lower a.1 = n ∧ x ∈ a.2
  | [], vs, h => ⟨h, fun x => by simp⟩
  | a :: l, vs, h => by
    rw [List.foldl_cons]
    by_cases ha : lower a.1 = n
    · rw [valsS, if_pos ha]
      have h1 := insAll_spec a.2 vs h
      have := valsF_spec n l _ h1.1
      refine ⟨this.1, fun x => ?_⟩
      rw [this.2, h1.2]
      simp only [List.mem_cons, exists_eq_or_imp, ha, true_and]
      constructor
      · rintro ((h | h) | h) <;> simp [h]
      · rintro (h | h | h) <;> simp [h]
    · rw [valsS, if_neg ha]
      have := valsF_spec n l vs h
      refine ⟨this.1, fun x => ?_⟩
      rw [this.2]
      simp [ha]

/-! ### what the program's sort and compaction come to -/
theorem sortS_asc (l : List Str) : (sortS l).Pairwise fun x y => ¬ y < x := by
  have h := List.pairwise_mergeSort (le := fun x y : Str => decide (x ≤ y)) (fun a b c h1 h2 => by
    simp only [decide_eq_true_eq] at *
    exact List.le_trans h1 h2) (fun a b => by
    simp only [Bool.or_eq_true, decide_eq_true_eq]
    exact List.le_total a b) l
  exact h.imp fun h => by simpa using h
theorem sortS_mem (l : List Str) (x : Str) : x ∈ sortS l ↔ x ∈ l := by simp [sortS]

theorem compact_spec (zs : List Str) (h : zs.Pairwise fun x y => ¬ y < x) : ∀ m, m ≤ zs.length → SS (compactUpTo zs.toArray m) ∧ ∀ x, x ∈ compactUpTo zs.toArray m ↔ x ∈ zs.take m
  | 0, _ => by simp [compactUpTo, SS]
  | m + 1, hm => by
    obtain ⟨h1, h2⟩ := compact_spec zs h m (by omega)
    have hlt : m < zs.length := by omega
    have hg : zs.toArray[m]! = zs[m] := by rw [getElem!_pos _ m (by simpa using hlt)]; simp
    have asc : ∀ i (hi : i < m), ¬ zs[m] < zs[i]'(by omega) := fun i hi => List.pairwise_iff_getElem.1 h i m (by omega) hlt hi
    rw [compactUpTo_succ, hg, take_s hlt]
    by_cases hk : keeps zs.toArray m = true
    · rw [if_pos hk]
      refine ⟨List.pairwise_append.2 ⟨h1, by simp, fun x hx y hy => ?_⟩, fun x => by rw [List.mem_append, List.mem_append, h2 x]⟩
      rw [List.mem_singleton.1 hy]
      obtain ⟨i, hi, rfl⟩ := List.mem_iff_getElem.1 ((h2 x).1 hx)
      have him : i < m := by simp at hi; omega
      simp only [List.getElem_take]
      have hm0 : m ≠ 0 := by omega
      have hg1 : zs.toArray[m - 1]! = zs[m - 1] := by rw [getElem!_pos _ (m - 1) (by simp; omega)]; simp
      have hne : zs[m] ≠ zs[m - 1] := by simpa [keeps, hm0, hg, hg1] using hk
      have hlt2 : zs[m - 1] < zs[m] := Classical.byContradiction fun hc => hne (s_tri (asc (m - 1) (by omega)) hc)
      by_cases hc : zs[i] < zs[m - 1]
      · exact s_trans hc hlt2
      · by_cases hie : i = m - 1
        · subst hie; exact hlt2
        · have := List.pairwise_iff_getElem.1 h i (m - 1) (by omega) (by omega) (by omega)
          rw [s_tri hc this]; exact hlt2
    · rw [if_neg hk, List.append_nil]
      refine ⟨h1, fun x => ?_⟩
      rw [h2 x]
      have hk' : keeps zs.toArray m = false := by simpa using hk
      have hm0 : m ≠ 0 := fun e => by subst e; simp [keeps] at hk'
      have hg1 : zs.toArray[m - 1]! = zs[m - 1] := by rw [getElem!_pos _ (m - 1) (by simp; omega)]; simp
      have he : zs[m] = zs[m - 1] := by simpa [keeps, hm0, hg, hg1] using hk'
      have hin : zs[m] ∈ zs.take m := by
        rw [he]
        exact List.mem_iff_getElem.2 ⟨m - 1, by simp; omega, by simp⟩
      simp only [List.mem_append, List.mem_singleton]
      constructor
      · intro hx; exact .inl hx
      · rintro (hx | rfl)
        · exact hx
        · exact hin
theorem normV (vs : List Str) : SS (compact (sortS vs)) ∧ ∀ x, x ∈ compact (sortS vs) ↔ x ∈ vs := by
  have h := compact_spec (sortS vs) (sortS_asc vs) (sortS vs).length (Nat.le_refl _)
  refine ⟨h.1, fun x => ?_⟩
  rw [← sortS_mem vs x]
  have := h.2 x
  rw [List.take_length] at this
  exact this

/-! ### the grouping -/
theorem idxR_at {α : Type} (p : α → Bool) : ∀ (l : List α) (k : Nat), idxR p k l ≠ -1 → ∃ i : Nat, idxR p k l = ((k + i : Nat) : Int) ∧ ∃ h : i < l.length, p l[i] = true
  | [], k, h => absurd rfl h
  | x :: l, k, h => by
    rw [idxR] at h ⊢
    by_cases hx : p x = true
    · rw [if_pos hx]
      exact ⟨0, by simp, by simp, hx⟩
    · rw [if_neg hx] at h ⊢
      obtain ⟨i, h1, h2, h3⟩ := idxR_at p l (k + 1) h
      exact ⟨i + 1, by rw [h1]; omega, by simpa using h2, by simpa using h3⟩

/-- Name n has value v. -/
def Has (l : List Att) (n v : Str) : Prop := ∃ x ∈ l, x.1 = n ∧ v ∈ x.2

theorem addG_spec (acc : List Att) (a : Att) (hn : (acc.map (·.1)).Nodup) : ((addG acc a).map (·.1)).Nodup ∧ ∀ n v, Has (addG acc a) n v ↔ Has acc n v ∨ (lower a.1 = n ∧ v ∈ a.2) := by
  unfold addG
  split
  · rename_i h
    have hf := idxR_neg _ acc 0 h
    have hno : ∀ x ∈ acc, ¬ x.1 = lower a.1 := fun x hx => by
      have := List.filter_eq_self.1 hf x hx
      simpa using this
    refine ⟨?_, fun n v => ?_⟩
    · rw [List.map_append, List.nodup_append]
      refine ⟨hn, by simp, ?_⟩
      intro x hx y hy e
      simp at hy
      obtain ⟨z, hz, rfl⟩ := List.mem_map.1 hx
      exact hno z hz (e.trans hy)
    · simp only [Has, List.mem_append, List.mem_singleton]
      constructor
      · rintro ⟨x, hx | rfl, h1, h2⟩
        · exact .inl ⟨x, hx, h1, h2⟩
        · exact .inr ⟨h1, h2⟩
      · rintro (⟨x, hx, h1, h2⟩ | ⟨h1, h2⟩)
        · exact ⟨x, .inl hx, h1, h2⟩
        · exact ⟨_, .inr rfl, h1, h2⟩
  · rename_i h
    obtain ⟨i, h1, hi, h3⟩ := idxR_at _ acc 0 h
    simp only [Nat.zero_add] at h1
    simp only [decide_eq_true_eq] at h3
    rw [h1, Int.toNat_natCast, modify_set (fun x : Att => (x.1, x.2 ++ a.2)) acc i acc[i] (List.getElem?_eq_getElem hi)]
    refine ⟨?_, fun n v => ?_⟩
    · rw [List.map_set]
      have := List.set_getElem_self (i := i) (show i < (acc.map (·.1)).length by simpa using hi)
      rw [List.getElem_map] at this
      rw [this]; exact hn
    · simp only [Has]
      constructor
      · rintro ⟨x, hx, e1, e2⟩
        obtain ⟨j, hj, rfl⟩ := List.mem_iff_getElem.1 hx
        have hj' : j < acc.length := by simpa using hj
        by_cases hij : i = j
        · subst hij
          rw [List.getElem_set_self] at e1 e2
          simp only [List.mem_append] at e1 e2
          rcases e2 with e2 | e2
          · exact .inl ⟨_, List.getElem_mem hi, e1, e2⟩
          · exact .inr ⟨h3.symm.trans e1, e2⟩
        · rw [List.getElem_set_ne hij] at e1 e2
          exact .inl ⟨_, List.getElem_mem hj', e1, e2⟩
      · rintro (⟨x, hx, e1, e2⟩ | ⟨e1, e2⟩)
        · obtain ⟨j, hj, rfl⟩ := List.mem_iff_getElem.1 hx
          by_cases hij : i = j
          · subst hij
            refine ⟨_, List.mem_iff_getElem.2 ⟨i, by simpa using hi, List.getElem_set_self _⟩, e1, by simp [e2]⟩
          · exact ⟨_, List.mem_iff_getElem.2 ⟨j, by simpa using hj, List.getElem_set_ne hij _⟩, e1, e2⟩
        · exact ⟨_, List.mem_iff_getElem.2 ⟨i, by simpa using hi, List.getElem_set_self _⟩, h3.trans e1, by simp [e2]⟩

theorem grp_spec (l : List Att) : ((grp l).map (·.1)).Nodup ∧ ∀ n v, Has (grp l) n v ↔ ∃ a ∈ l, lower a.1 = n ∧ v ∈ a.2 := by
  have key : ∀ (l acc : List Att), (acc.map (·.1)).Nodup → ((l.foldl addG acc).map (·.1)).Nodup ∧ ∀ n v, Has (l.foldl addG acc) n v ↔ Has acc n v ∨ ∃ a ∈ l, lower a.1 = n ∧ v ∈ a.2 := by
    intro l
    induction l with
    | nil => intro acc h; exact ⟨h, fun n v => by simp⟩
    | cons a l ih =>
      intro acc h
      have h1 := addG_spec acc a h
      have h2 := ih _ h1.1
      refine ⟨h2.1, fun n v => ?_⟩
      rw [List.foldl_cons, h2.2, h1.2]
      simp only [List.mem_cons, exists_eq_or_imp, or_assoc]
  have := key l [] (by simp)
  exact ⟨this.1, fun n v => by rw [show grp l = l.foldl addG [] from rfl, this.2]; simp [Has]⟩

/-- What the program returns is the normal form of the specification. -/
theorem normal_eq (l out : List Att) (hp : out.Perm (((grp l).filter nonE).map normA)) (hs : ∀ i j (_ : i < j) (hj : j < out.length), Op.bytesLess out[j].1 (out[i]'(by omega)).1 = false) : out = sortedL l := by
  obtain ⟨g1, g2⟩ := grp_spec l
  have hnames : (out.map (·.1)).Perm (((grp l).filter nonE).map (·.1)) := by
    have := hp.map (·.1)
    rw [List.map_map] at this
    exact this
  have hnd : (out.map (·.1)).Nodup := hnames.nodup_iff.2 (g1.sublist (List.filter_sublist.map _))
  have hSS : SS (out.map (·.1)) := by
    refine List.pairwise_iff_getElem.2 fun i j hi hj hij => ?_
    have hj' : j < out.length := by simpa using hj
    have h1 := hs i j hij hj'
    rw [bl_f] at h1
    simp only [List.getElem_map]
    refine Classical.byContradiction fun hc => ?_
    have he := s_tri hc h1
    exact List.pairwise_iff_getElem.1 hnd i j hi hj hij (by simpa using he)
  have hN := namesF_spec l [] (by simp [SS])
  have e1 : out.map (·.1) = namesF l := by
    refine SS_ext hSS hN.1 fun n => ?_
    rw [hnames.mem_iff, show namesF l = l.foldl namesS [] from rfl, hN.2]
    simp only [List.mem_map, List.mem_filter, List.not_mem_nil, false_or]
    constructor
    · rintro ⟨x, ⟨hx, hne⟩, rfl⟩
      have hne' : x.2 ≠ [] := by simpa [nonE] using hne
      obtain ⟨v, hv⟩ := List.exists_mem_of_ne_nil _ hne'
      obtain ⟨a, ha, e, hav⟩ := (g2 x.1 v).1 ⟨x, hx, rfl, hv⟩
      exact ⟨a, ha, List.ne_nil_of_mem hav, e⟩
    · rintro ⟨a, ha, hne, e⟩
      obtain ⟨v, hv⟩ := List.exists_mem_of_ne_nil _ hne
      obtain ⟨x, hx, e2, hxv⟩ := (g2 n v).2 ⟨a, ha, e, hv⟩
      exact ⟨x, ⟨hx, by simp [nonE]; exact List.ne_nil_of_mem hxv⟩, e2⟩
  have e2 : ∀ x ∈ out, x.2 = valsF l x.1 := by
    intro x hx
    obtain ⟨y, hy, rfl⟩ := List.mem_map.1 (hp.mem_iff.1 hx)
    have hyg := (List.mem_filter.1 hy).1
    have hv := normV y.2
    have hV := valsF_spec y.1 l [] (by simp [SS])
    refine SS_ext hv.1 hV.1 fun v => ?_
    rw [show valsF l (normA y).1 = l.foldl (valsS y.1) [] from rfl, hV.2]
    refine (hv.2 v).trans ?_
    simp only [List.not_mem_nil, false_or]
    rw [← g2 y.1 v]
    constructor
    · intro h; exact ⟨y, hyg, rfl, h⟩
    · rintro ⟨z, hz, e, h⟩
      obtain ⟨i, hi, rfl⟩ := List.mem_iff_getElem.1 hz
      obtain ⟨j, hj, rfl⟩ := List.mem_iff_getElem.1 hyg
      have hij : i = j := by
        have h1 := List.pairwise_iff_getElem.1 g1
        rcases Nat.lt_trichotomy i j with h2 | h2 | h2
        · have h3 := h1 i j (by simpa using hi) (by simpa using hj) h2
          simp only [List.getElem_map] at h3
          exact absurd e h3
        · exact h2
        · have h3 := h1 j i (by simpa using hj) (by simpa using hi) h2
          simp only [List.getElem_map] at h3
          exact absurd e.symm h3
      subst hij; exact h
  have e3 : out = out.map fun x => (x.1, valsF l x.1) := by
    conv => lhs; rw [← List.map_id' out]
    refine List.map_congr_left fun x hx => ?_
    rw [← e2 x hx]
  rw [e3, sortedL, ← e1, List.map_map]
  rfl
end Go.Proofs.Tz

namespace Go.Proofs.Tz
open Go.Vw
set_option maxRecDepth 100000
set_option maxHeartbeats 8000000
set_option linter.unusedSimpArgs false

theorem fz_rows (H : List AV) : ∀ rs : List Row, (∀ r ∈ rs, hnd r ∈ H) → FzL H (rs.map rowD) ((rs.map nv).map att)
  | [], _ => .nil
  | r :: rs, h => .cons (.agg (.cons (.same _) (.cons (.sl (h r (by simp))) .nil))) (fz_rows H rs fun x hx => h x (by simp [hx]))

theorem sorted_fn (l : List Att) (hl : Fit2 l) : Ctr Tryz.prog 15 [.d (atts l)] (.own true 42 ((sortedL l).map att)) := by
  refine (sortedG_fn l hl).frozen (by simp) ?_
  rintro r hs ⟨rs, rfl, rfl, hp, ha⟩
  refine ⟨_, rfl, ?_⟩
  have := normal_eq l (rs.map nv) hp (fun i j hij hj => by
    have := ha i j hij (by simpa using hj)
    simpa [nv] using this)
  rw [← this]
  exact fz_rows _ rs fun r hr => List.mem_map.2 ⟨r, hr, rfl⟩
end Go.Proofs.Tz

namespace Go.Proofs.Tz
open Go.Vw
set_option maxRecDepth 100000
set_option maxHeartbeats 8000000
set_option linter.unusedSimpArgs false

theorem findQ_fn (x : Str × Sl) (n : Str) : Ctr Tryz.prog 79 [.d (rw2 x), .d (.ref (.str n))] (.d (.bool (decide (x.1 = n)))) := by
  refine fn_of_vwp (fun _ => false) (by kernel_rfl) Tryz.func79 (by kernel_rfl) rfl rfl (Nat.le_of_ble_eq_true rfl) (by kernel_rfl) rfl rfl ?_
  simp -implicitDefEqProofs [rw2]

theorem findRows_fn (rows : List (Str × Sl)) (name : Str) (hl : rows.length < 1000000) (hn : List.length name < 1000000) : Ctr Tryz.prog 54 [.d (.sl (rows.map rw2)), .d (.str name)] (.d (.int .i64 (idxR (fun x => decide (x.1 = lower name)) 0 rows))) := by
  refine fn_of_vwp (fun _ => false) (by kernel_rfl) Tryz.func54 (by kernel_rfl) rfl rfl (Nat.le_of_ble_eq_true rfl) (by kernel_rfl) rfl rfl ?_
  simp -implicitDefEqProofs
  refine callK (foldLower_fn _ hn) ?_
  simp -implicitDefEqProofs
  refine callK (indexR_fn 79 [.ref (.str (lower name))] rfl (fun x => decide (x.1 = lower name)) rows hl (fun a _ => findQ_fn a _)) ?_
  simp -implicitDefEqProofs

theorem findA_idx (n : Str) : ∀ (l : List Att) (k : Nat), (idxR (fun x : Att => decide (x.1 = n)) k l = -1 ∧ findA n l = []) ∨ ∃ i, ∃ h : i < l.length, idxR (fun x : Att => decide (x.1 = n)) k l = ((k + i : Nat) : Int) ∧ findA n l = l[i].2
  | [], k => .inl ⟨rfl, rfl⟩
  | x :: l, k => by
    rw [idxR, findA]
    by_cases hx : x.1 = n
    · exact .inr ⟨0, by simp, by simp [hx]⟩
    · simp only [hx, decide_false, Bool.false_eq_true, if_false]
      rcases findA_idx n l (k + 1) with h | ⟨i, h1, h2, h3⟩
      · exact .inl h
      · exact .inr ⟨i + 1, by simpa using h1, by rw [h2]; omega, by simpa using h3⟩

theorem get_fn (l : List Att) (name : Str) (hl : Fit2 l) (hn : List.length name < 1000000) : Ctr Tryz.prog 21 [.d (atts l), .d (.str name)] (.own true 9 ((getL l name).map .str)) := by
  refine fn_of_vwp (fun i => i == 4 || i == 5000009 || i == 2000012) (by kernel_rfl) Tryz.func21 (by kernel_rfl) rfl rfl (Nat.le_of_ble_eq_true rfl) (by kernel_rfl) rfl rfl ?_
  simp -implicitDefEqProofs
  refine givK0 (sortedG_fn l hl).shaped ?_ ?_
  · rintro r hs ⟨⟨rs, rfl, rfl, _⟩, _⟩ x hx
    obtain ⟨r, _, rfl⟩ := List.mem_map.1 hx
    rfl
  rintro r hs τ ⟨⟨rs, rfl, rfl, hp, ha⟩, hsh⟩ hhi hlo
  have h1 : τ 1 = .d (.str name) := (hlo 1 (by decide) (by simp [initG])).trans (by simp [initG])
  have h9 : τ 9 = .own true 42 (rs.map rowD) := (hlo 9 (by decide) (by simp)).trans (by simp)
  have hn2 : rs.map nv = sortedL l := normal_eq l (rs.map nv) hp (fun i j hij hj => by
    have := ha i j hij (by simpa using hj)
    simpa [nv] using this)
  have hrl : rs.length ≤ l.length := by
    have := sorted_len l
    rw [← hn2] at this
    simpa using this
  have hl1 := hl.1.1
  have hH : ∀ i (h : i < rs.length), τ (1000000 + i) = hnd rs[i] := fun i h => by rw [hhi i (by simpa using h)]; simp
  clear hhi hlo hp ha
  simp -implicitDefEqProofs [h1, h9]
  have hmr : rs.map rowD = (rs.map pr).map rw2 := by simp [rowD]
  rw [hmr]
  refine lendK (findRows_fn (rs.map pr) name (by simp; omega) hn) rfl ?_
  rw [← hmr]
  have hidx : idxR (fun x : Str × Sl => decide (x.1 = lower name)) 0 (rs.map pr) = idxR (fun x : Att => decide (x.1 = lower name)) 0 (sortedL l) := by
    rw [← hn2, idxR_map, idxR_map]; rfl
  rw [hidx]
  rcases findA_idx (lower name) (sortedL l) 0 with ⟨e1, e2⟩ | ⟨i, hi, e1, e2⟩
  · simp -implicitDefEqProofs [h1, h9, e1, getL, e2]
  · have hir : i < rs.length := by rw [← hn2] at hi; simpa using hi
    have hi0 : ¬ (i : Int) < 0 := by omega
    simp only [Nat.zero_add] at e1
    have e3 : (sortedL l)[i].2 = rs[i].2.2 := by
      have : (rs.map nv)[i]'(by simpa using hir) = nv rs[i] := by simp
      have h2 : (sortedL l)[i] = nv rs[i] := by rw [← this]; congr 1; exact hn2.symm
      rw [h2]; rfl
    obtain ⟨A, c, he⟩ := hsh (hd rs[i]) 9 (rs[i].2.2.map .str) (List.mem_map.2 ⟨rs[i], List.getElem_mem hir, rfl⟩)
    simp only [hd, Value.slice.injEq, List.length_map] at he
    simp -implicitDefEqProofs [h1, h9, e1, hi0, hir, rowD, rw2, pr, he.2.1]
    refine ⟨1000000 + i, 9, rs[i].2.2.map .str, ?_, rfl, by simp, ?_⟩
    · simp [hh_ne, hh_ne', hH i hir, hnd, hd, he.2.1]
    have e4 : (rs[i].2.2.map D.str).take rs[i].2.2.length = rs[i].2.2.map .str := List.take_of_length_le (by simp)
    simp -implicitDefEqProofs [getL, e2, e3, e4]
end Go.Proofs.Tz

namespace Go.Proofs.Tz
open Go.Vw
set_option maxRecDepth 100000
set_option maxHeartbeats 4000000
set_option linter.unusedSimpArgs false

theorem u8ne {x c : UInt8} (h : ¬ x = c) : ¬ ((x.toNat : Int) = c.toNat) := fun e => h (UInt8.toNat_inj.1 (by omega))

def trimLB (c : UInt8) (s : Str) : Str := s.dropWhile fun x => decide (x = c)
def trimRB (c : UInt8) (s : Str) : Str := (s.reverse.dropWhile fun x => decide (x = c)).reverse

theorem trimL_fn (s : Str) (c : UInt8) : Ctr Tryz.prog 112 [.d (.str s), .d (u8 c)] (.d (.str (trimLB c s))) := by
  refine fn_of_vwp (fun _ => false) (by kernel_rfl) Tryz.func112 (by kernel_rfl) rfl rfl (Nat.le_of_ble_eq_true rfl) (by kernel_rfl) rfl rfl ?_
  simp -implicitDefEqProofs [u8]
  refine loopK (fun n τ => ∃ t : Str, n = t.length ∧ τ 0 = .d (.str t) ∧ τ 1 = .d (.int .u8 c.toNat) ∧ trimLB c t = trimLB c s) s.length ⟨s, rfl, by simp, by simp, rfl⟩ ?_
  rintro n τ ⟨t, rfl, h0, h1, ht⟩
  cases t with
  | nil =>
    simp -implicitDefEqProofs [h0, h1]
    rw [← ht]; rfl
  | cons x t =>
    by_cases hx : x = c
    · subst hx
      simp -implicitDefEqProofs [h0, h1]
      exact ⟨_, by omega, t, rfl, rfl, by rw [← ht, trimLB, trimLB, List.dropWhile_cons, if_pos (by simp)]⟩
    · have := u8ne hx
      simp -implicitDefEqProofs [h0, h1, this]
      rw [← ht, trimLB, List.dropWhile_cons, if_neg (by simp [hx])]

theorem trimRB_last {c : UInt8} {t : Str} (h : 0 < List.length t) : trimRB c t = if t[List.length t - 1] = c then trimRB c (t.take (List.length t - 1)) else t := by
  have e : t = t.take (List.length t - 1) ++ [t[List.length t - 1]] := by
    have := take_s (l := t) (k := List.length t - 1) (by omega)
    rw [show List.length t - 1 + 1 = List.length t by omega, List.take_length] at this
    exact this
  conv => lhs; rw [e]
  rw [trimRB, List.reverse_append, List.reverse_singleton, List.singleton_append, List.dropWhile_cons]
  by_cases hx : t[List.length t - 1] = c
  · rw [if_pos (by simpa using hx), if_pos hx, trimRB]
  · rw [if_neg (by simpa using hx), if_neg hx, List.reverse_cons, List.reverse_reverse]
    exact e.symm

theorem trimR_fn (s : Str) (c : UInt8) (hs : List.length s < 1000000) : Ctr Tryz.prog 113 [.d (.str s), .d (u8 c)] (.d (.str (trimRB c s))) := by
  refine fn_of_vwp (fun _ => false) (by kernel_rfl) Tryz.func113 (by kernel_rfl) rfl rfl (Nat.le_of_ble_eq_true rfl) (by kernel_rfl) rfl rfl ?_
  simp -implicitDefEqProofs [u8]
  refine loopK (fun n τ => ∃ t : Str, n = t.length ∧ τ 0 = .d (.str t) ∧ τ 1 = .d (.int .u8 c.toNat) ∧ List.length t < 1000000 ∧ trimRB c t = trimRB c s) s.length ⟨s, rfl, by simp, by simp, hs, rfl⟩ ?_
  rintro n τ ⟨t, rfl, h0, h1, hl, ht⟩
  by_cases hpos : 0 < List.length t
  · have hi : 0 ≤ (List.length t : Int) - 1 := by omega
    have hi2 : ((List.length t : Int) - 1).toNat = List.length t - 1 := by omega
    have hi3 : List.length t - 1 < List.length t := by omega
    have hi4 : -9223372036854775808 ≤ (List.length t : Int) - 1 := by omega
    have hi5 : (List.length t : Int) - 1 ≤ 9223372036854775807 := by omega
    have hi6 : 1 ≤ (List.length t : Int) := by omega
    have hz : ¬ t = [] := fun e => by subst e; simp at hpos
    rw [trimRB_last hpos] at ht
    by_cases hx : t[List.length t - 1] = c
    · rw [if_pos hx] at ht
      simp -implicitDefEqProofs [h0, h1, hpos, hi, hi2, hi3, hi4, hi5, hi6, hx, hz]
      exact ⟨List.length t - 1, by omega, t.take (List.length t - 1), by rw [List.length_take]; omega, rfl, by rw [List.length_take]; omega, ht⟩
    · have := u8ne hx
      rw [if_neg hx] at ht
      simp -implicitDefEqProofs [h0, h1, hpos, hi, hi2, hi3, hi4, hi5, hi6, this, hz]
      exact ht
  · obtain rfl : t = [] := List.eq_nil_of_length_eq_zero (by omega)
    simp -implicitDefEqProofs [h0, h1]
    rw [← ht]; rfl

def trimB (s : Str) : Str := trimLB 32 (trimRB 32 s)
theorem trim102_fn (s : Str) (hs : List.length s < 1000000) : Ctr Tryz.prog 102 [.d (.str s), .d (.str [32])] (.d (.str (trimB s))) := by
  refine fn_of_vwp (fun _ => false) (by kernel_rfl) Tryz.func102 (by kernel_rfl) rfl rfl (Nat.le_of_ble_eq_true rfl) (by kernel_rfl) rfl rfl ?_
  by_cases hz : s = []
  · subst hz
    simp -implicitDefEqProofs
    try rfl
  simp -implicitDefEqProofs [hz]
  have h1 : Ctr Tryz.prog 113 [.d (.str s), .d (.int .u8 32)] (.d (.str (trimRB 32 s))) := trimR_fn s 32 hs
  have h2 : Ctr Tryz.prog 112 [.d (.str (trimRB 32 s)), .d (.int .u8 32)] (.d (.str (trimB s))) := trimL_fn (trimRB 32 s) 32
  refine callP h1 ?_
  simp -implicitDefEqProofs [hz]
  refine callP h2 ?_
  simp -implicitDefEqProofs [hz]
theorem trim_fn (s : Str) (hs : List.length s < 1000000) : Ctr Tryz.prog 81 [.d (.str s)] (.d (.str (trimB s))) := by
  refine fn_of_vwp (fun _ => false) (by kernel_rfl) Tryz.func81 (by kernel_rfl) rfl rfl (Nat.le_of_ble_eq_true rfl) (by kernel_rfl) rfl rfl ?_
  simp -implicitDefEqProofs
  refine callK (trim102_fn s hs) ?_
  simp -implicitDefEqProofs

/-- The runes of a string. -/
def runes (s : Str) (pos : Nat) : Nat := (Go.Utf8.decode ⟨s.toArray⟩ pos).1
def cleanF (s : Str) : Bool := s.all cleanC && decide (s ≠ []) && decide (List.length s ≤ 256) && decide (trimB s = s)

theorem dec_lo {s : Str} {k : Nat} (h : k < List.length s) (hc : s[k].toNat < 128) : Go.Utf8.decode ⟨s.toArray⟩ k = (s[k].toNat, 1) := by
  have hb : k < (⟨s.toArray⟩ : ByteArray).size := by simpa [ByteArray.size] using h
  have e : (⟨s.toArray⟩ : ByteArray)[k]'hb = s[k] := rfl
  have := decode_ascii ⟨s.toArray⟩ k hb (by rw [e]; exact hc)
  rw [e] at this
  exact this
theorem dec_hi {s : Str} {k : Nat} (h : k < List.length s) (hc : 128 ≤ s[k].toNat) : 128 ≤ (Go.Utf8.decode ⟨s.toArray⟩ k).1 := by
  have hb : k < (⟨s.toArray⟩ : ByteArray).size := by simpa [ByteArray.size] using h
  have e : (⟨s.toArray⟩ : ByteArray)[k]'hb = s[k] := rfl
  exact (decode_high ⟨s.toArray⟩ k hb (by rw [e]; exact hc)).1

theorem trimLB_len (c : UInt8) (s : Str) : List.length (trimLB c s) ≤ List.length s := (List.dropWhile_sublist _).length_le
theorem trimRB_len (c : UInt8) (s : Str) : List.length (trimRB c s) ≤ List.length s := by
  have := (List.dropWhile_sublist (fun x : UInt8 => decide (x = c)) (l := s.reverse)).length_le
  simpa [trimRB] using this
theorem trimB_iff {s : Str} (h : 0 < List.length s) : trimB s = s ↔ s[0] ≠ 32 ∧ s[List.length s - 1] ≠ 32 := by
  constructor
  · intro e
    have h1 := trimLB_len 32 (trimRB 32 s)
    have h2 := trimRB_len 32 s
    have h3 : List.length (trimB s) = List.length s := by rw [e]
    rw [trimB] at h3
    have hr : s[List.length s - 1] ≠ 32 := by
      intro h4
      rw [trimRB_last h, if_pos h4] at h3 h1
      have h5 := trimRB_len 32 (s.take (List.length s - 1))
      rw [List.length_take] at h5
      omega
    refine ⟨fun h4 => ?_, hr⟩
    rw [trimB, trimRB_last h, if_neg hr] at e
    cases s with
    | nil => simp at h
    | cons x t =>
      simp only [List.getElem_cons_zero] at h4
      rw [trimLB, List.dropWhile_cons, if_pos (by simp [h4])] at e
      have := trimLB_len 32 t
      rw [trimLB, e, List.length_cons] at this
      omega
  · rintro ⟨h1, h2⟩
    rw [trimB, trimRB_last h, if_neg h2]
    cases s with
    | nil => rfl
    | cons x t => rw [trimLB, List.dropWhile_cons, if_neg (by simpa using h1)]
theorem cleanF_eq (s : Str) : cleanF s = cleanB s := by
  by_cases h : 0 < List.length s
  · have hne : s ≠ [] := fun e => by subst e; simp at h
    have hh : s.head? = some s[0] := by simp [List.head?_eq_getElem?, h]
    have hl : s.getLast? = some s[List.length s - 1] := by rw [List.getLast?_eq_getElem?, List.getElem?_eq_getElem (by omega)]
    rw [Bool.eq_iff_iff]
    simp only [cleanF, cleanB, Bool.and_eq_true, decide_eq_true_eq, trimB_iff h, hh, hl, bne_iff_ne, ne_eq, Option.some.injEq]
    have : 1 ≤ List.length s := h
    constructor
    · rintro ⟨⟨⟨a, b⟩, c⟩, d, e⟩; exact ⟨⟨⟨⟨this, c⟩, d⟩, e⟩, a⟩
    · rintro ⟨⟨⟨⟨_, c⟩, d⟩, e⟩, a⟩; exact ⟨⟨⟨a, hne⟩, c⟩, d, e⟩
  · obtain rfl : s = [] := List.eq_nil_of_length_eq_zero (by omega)
    rfl

theorem fclean_fn (s : Str) (hs : List.length s < 1000000) : Ctr Tryz.prog 60 [.d (.str s)] (.d (.bool (cleanF s))) := by
  refine fn_of_vwp (fun _ => false) (by kernel_rfl) Tryz.func60 (by kernel_rfl) rfl rfl (Nat.le_of_ble_eq_true rfl) (by kernel_rfl) rfl rfl ?_
  simp -implicitDefEqProofs
  refine loopN (List.length s) (fun k τ => τ 0 = .d (.str s) ∧ τ 6 = .iter s k ∧ ∀ x ∈ s.take k, cleanC x = true) (by simp) ?_
  rintro k τ hk ⟨h0, h6, hall⟩
  by_cases hlt : k < List.length s
  · by_cases ha : s[k].toNat < 128
    · have hd := dec_lo hlt ha
      by_cases e1 : (s[k].toNat : Int) < 32
      · have e1' : ¬ 32 ≤ (s[k].toNat : Int) := by omega
        simp -implicitDefEqProofs [h0, h6, hlt, hd, e1]
        simp [cleanF, all_not hlt (show cleanC s[k] = false by simp [cleanC, e1'])]
      · by_cases e2 : 126 < (s[k].toNat : Int)
        · have e2' : ¬ (s[k].toNat : Int) ≤ 126 := by omega
          simp -implicitDefEqProofs [h0, h6, hlt, hd, e1, e2]
          simp [cleanF, all_not hlt (show cleanC s[k] = false by simp [cleanC, e2'])]
        · have e1' : 32 ≤ (s[k].toNat : Int) := by omega
          have e2' : (s[k].toNat : Int) ≤ 126 := by omega
          simp -implicitDefEqProofs [h0, h6, hlt, hd, e1, e2]
          exact again hlt ⟨by simp [h0], by simp, all_take hlt hall (by simp [cleanC, e1', e2'])⟩
    · have hd := dec_hi hlt (by omega)
      have e1 : ¬ ((Go.Utf8.decode ⟨s.toArray⟩ k).1 : Int) < 32 := by omega
      have e2 : 126 < ((Go.Utf8.decode ⟨s.toArray⟩ k).1 : Int) := by omega
      have e2' : ¬ (s[k].toNat : Int) ≤ 126 := by omega
      simp -implicitDefEqProofs [h0, h6, hlt, e1, e2]
      simp [cleanF, all_not hlt (show cleanC s[k] = false by simp [cleanC, e2'])]
  · rw [List.take_of_length_le (by omega)] at hall
    have hall' : s.all cleanC = true := List.all_eq_true.2 hall
    by_cases hz : s = []
    · subst hz
      simp -implicitDefEqProofs [h0, h6, cleanF]
    · by_cases h2 : (List.length s : Int) ≤ 256
      · have h2' : List.length s ≤ 256 := by omega
        simp -implicitDefEqProofs [h0, h6, hlt, hz, h2]
        refine callK (trim_fn s hs) ?_
        simp -implicitDefEqProofs [h0, h6, hlt, hz, h2, cleanF, hall', h2']
      · have h2' : ¬ List.length s ≤ 256 := by omega
        simp -implicitDefEqProofs [h0, h6, hlt, hz, h2, cleanF, h2']
end Go.Proofs.Tz

namespace Go.Proofs.Tz
open Go.Vw
set_option maxRecDepth 100000
set_option maxHeartbeats 4000000
set_option linter.unusedSimpArgs false

/-- Every string is short enough for the walk. -/
def FitS (l : List Str) : Prop := l.length < 1000000 ∧ ∀ v ∈ l, List.length v < 1000000

theorem values_fn (l : List Str) (hl : FitS l) : Ctr Tryz.prog 38 [.d (strs l)] (.d (.int .i64 (chkV [] [] l))) := by
  refine fn_of_vwp (fun _ => false) (by kernel_rfl) Tryz.func38 (by kernel_rfl) rfl rfl (Nat.le_of_ble_eq_true rfl) (by kernel_rfl) rfl rfl ?_
  obtain ⟨hl, hv⟩ := hl
  simp -implicitDefEqProofs [strs]
  refine loopN l.length (fun k τ => τ 0 = .d (.sl (l.map .str)) ∧ τ 5 = .d (.sl (l.map .str)) ∧ τ 6 = .d (.int .i64 l.length) ∧ τ 7 = .d (.int .i64 k) ∧ chkV [] [] l = chkV [] (l.take k) (l.drop k)) (by simp) ?_
  rintro k τ hk ⟨h0, h5, h6, h7, hc⟩
  by_cases hlt : k < l.length
  · rw [chkV_drop hlt] at hc
    simp -implicitDefEqProofs [h0, h5, h6, h7, hlt]
    refine callK (fclean_fn l[k] (hv _ (List.getElem_mem hlt))) ?_
    rw [cleanF_eq]
    by_cases e1 : cleanB l[k] = true
    · simp -implicitDefEqProofs [h0, h5, h6, h7, hlt, e1]
      have hf := contains_fn (l.take k) l[k] (by rw [List.length_take]; omega)
      simp only [strs, List.map_take] at hf
      refine ⟨hk, callK hf ?_⟩
      by_cases e3 : l[k] ∈ l.take k
      · simp -implicitDefEqProofs [h0, h5, h6, h7, hlt, e1, e3]
        rw [hc]; simp [e1, e3]
      · simp -implicitDefEqProofs [h0, h5, h6, h7, hlt, e1, e3]
        refine ⟨by omega, again hlt ⟨by simp [h0], by simp [h5], by simp [h6], by simp, ?_⟩⟩
        rw [hc]; simp [e1, e3]
    · simp -implicitDefEqProofs [h0, h5, h6, h7, hlt, e1]
      rw [hc]; simp [e1]
  · simp -implicitDefEqProofs [h0, h5, h6, h7, hlt]
    rw [hc, List.drop_eq_nil_of_le (by omega)]
    simp [chkV]

/-- The strings of attributes are short enough, too. -/
def FitV (l : List Att) : Prop := ∀ a ∈ l, ∀ v ∈ a.2, List.length v < 1000000

theorem check_fn (l : List Att) (hl : Fits l) (hv : FitV l) : Ctr Tryz.prog 12 [.d (atts l)] (.d (.int .i64 (checkL l))) := by
  refine fn_of_vwp (fun _ => false) (by kernel_rfl) Tryz.func12 (by kernel_rfl) rfl rfl (Nat.le_of_ble_eq_true rfl) (by kernel_rfl) rfl rfl ?_
  have hl1 := hl.1
  by_cases h32 : 32 < (l.length : Int)
  · have : 32 < l.length := by omega
    simp -implicitDefEqProofs [atts, checkL, h32, this]
    all_goals (intro h; omega)
  have h32' : ¬ 32 < l.length := by omega
  simp -implicitDefEqProofs [atts, h32]
  refine loopN l.length (fun k τ => τ 0 = .d (atts l) ∧ τ 11 = .d (atts l) ∧ τ 12 = .d (.int .i64 l.length) ∧ τ 13 = .d (.int .i64 k) ∧ checkL l = chkA (l.take k) (l.drop k)) (by simp [atts, checkL, h32']) ?_
  rintro k τ hk ⟨h0, h11, h12, h13, hc⟩
  by_cases hlt : k < l.length
  · rw [chkA_drop hlt] at hc
    simp -implicitDefEqProofs [h0, h11, h12, h13, hlt, atts, att, strs]
    refine callK (fname_fn l[k].1 (hl.2 _ (List.getElem_mem hlt)).1) ?_
    by_cases e1 : nameB l[k].1 = true
    · simp -implicitDefEqProofs [h0, h11, h12, h13, hlt, atts, att, strs, e1]
      refine ⟨hk, by rintro y n v _ rfl; rfl, ?_⟩
      refine loopN k (fun j τ => τ 0 = .d (atts l) ∧ τ 3 = .d (.int .i64 k) ∧ τ 4 = .box (att l[k]) ∧ τ 11 = .d (atts l) ∧ τ 12 = .d (.int .i64 l.length) ∧ τ 13 = .d (.int .i64 k) ∧ τ 24 = .d (atts (l.take k)) ∧ τ 25 = .d (.int .i64 k) ∧ τ 26 = .d (.int .i64 j) ∧ (l.take j).any (fun c => decide (lower c.1 = lower l[k].1)) = false) ?_ ?_
      · refine ⟨?_, ?_, ?_, ?_, ?_, ?_, ?_, ?_, ?_, ?_⟩
        all_goals simp [h0, h11, h12, h13, atts, att, strs, List.map_take]
        all_goals omega
      clear h0 h11 h12 h13 τ
      rintro j τ hj ⟨h0, h3, h4, h11, h12, h13, h24, h25, h26, hn⟩
      by_cases hjk : j < k
      · have hjl : j < l.length := by omega
        simp -implicitDefEqProofs [h0, h3, h4, h11, h12, h13, h24, h25, h26, hjk, hjl, hlt, atts, att, strs]
        refine callP (foldLower_fn _ (hl.2 _ (List.getElem_mem hlt)).1) ?_
        simp -implicitDefEqProofs [h0, h3, h4, h11, h12, h13, h24, h25, h26, hjk, hjl, hlt, atts, att, strs]
        refine callP (foldLower_fn _ (hl.2 _ (List.getElem_mem hjl)).1) ?_
        by_cases he : lower l[j].1 = lower l[k].1
        · simp -implicitDefEqProofs [h0, h3, h4, h11, h12, h13, h24, h25, h26, hjk, hjl, hlt, atts, att, strs, he]
          have e2 : (l.take k).any (fun c => decide (lower c.1 = lower l[k].1)) = true := List.any_eq_true.2 ⟨l[j], List.mem_iff_getElem.2 ⟨j, by simp; omega, by simp⟩, by simpa using he⟩
          rw [hc, if_neg (by simp [e1]), if_pos e2]
        · have he' : ¬ lower l[k].1 = lower l[j].1 := fun e => he e.symm
          simp -implicitDefEqProofs [h0, h3, h4, h11, h12, h13, h24, h25, h26, hjk, hjl, hlt, atts, att, strs, he, he']
          refine ⟨by omega, again hjk ⟨?_, ?_, ?_, ?_, ?_, ?_, ?_, ?_, ?_, ?_⟩⟩
          all_goals first | (simp [h0, h3, h4, h11, h12, h13, h24, h25, h26, atts, att, strs]; done) | skip
          rw [take_s hjl]
          intro a b hab e
          rcases List.mem_append.1 hab with h | h
          · exact List.any_eq_false.1 hn _ h (by simpa using e)
          · have : l[j].1 = a := by rw [← List.mem_singleton.1 h]
            exact he (by rw [this]; exact e)
      · have hjk2 : j = k := by omega
        subst hjk2
        by_cases e3 : l[j].2 = []
        · simp -implicitDefEqProofs [h0, h3, h4, h11, h12, h13, h24, h25, h26, hlt, atts, att, strs, e3]
          rw [hc]; simp [e1, hn, e3]
        · by_cases e4 : 16 < (l[j].2.length : Int)
          · have e4' : 16 < l[j].2.length := by omega
            simp -implicitDefEqProofs [h0, h3, h4, h11, h12, h13, h24, h25, h26, hlt, atts, att, strs, e3, e4]
            rw [hc]; simp only [e1, hn, if_false, Bool.true_eq_false, Bool.false_eq_true, List.length_eq_zero_iff, e3, e4', if_true]
          · have e4' : ¬ 16 < l[j].2.length := by omega
            simp -implicitDefEqProofs [h0, h3, h4, h11, h12, h13, h24, h25, h26, hlt, atts, att, strs, e3, e4]
            have hf := values_fn l[j].2 ⟨(hl.2 _ (List.getElem_mem hlt)).2, hv _ (List.getElem_mem hlt)⟩
            simp only [strs] at hf
            refine callK hf ?_
            by_cases e5 : chkV [] [] l[j].2 = 0
            · simp -implicitDefEqProofs [h0, h3, h4, h11, h12, h13, h24, h25, h26, hlt, atts, att, strs, e3, e4, e5]
              refine ⟨by omega, again hlt ⟨by simp [h0, atts, att, strs], by simp [h11, atts, att, strs], by simp [h12], by simp, ?_⟩⟩
              rw [hc]; simp only [e1, hn, e3, e4', e5, if_false, Bool.true_eq_false, Bool.false_eq_true, List.length_eq_zero_iff, ne_eq, not_true_eq_false]
            · simp -implicitDefEqProofs [h0, h3, h4, h11, h12, h13, h24, h25, h26, hlt, atts, att, strs, e3, e4, e5]
              rw [hc]; simp only [e1, hn, e3, e4', e5, if_false, Bool.true_eq_false, Bool.false_eq_true, List.length_eq_zero_iff, ne_eq, not_false_eq_true, if_true]
    · simp -implicitDefEqProofs [h0, h11, h12, h13, hlt, atts, att, strs, e1]
      rw [hc]; simp [e1]
  · simp -implicitDefEqProofs [h0, h11, h12, h13, hlt, atts]
    rw [hc, List.drop_eq_nil_of_le (by omega)]
    first | exact ⟨by omega, by simp [chkA]⟩ | (simp [chkV, chkA]; done)
end Go.Proofs.Tz

namespace Go.Proofs.Tz
open Go.Vw
set_option maxRecDepth 100000
set_option maxHeartbeats 4000000
set_option linter.unusedSimpArgs false

theorem has2_fn (l : List Att) (name v : Str) (hl : Fit2 l) (hn : List.length name < 1000000) (hg : (getL l name).length < 1000000) : Ctr Tryz.prog 23 [.d (atts l), .d (.str name), .d (.str v)] (.d (.bool (decide (v ∈ getL l name)))) := by
  refine fn_of_vwp (fun _ => false) (by kernel_rfl) Tryz.func23 (by kernel_rfl) rfl rfl (Nat.le_of_ble_eq_true rfl) (by kernel_rfl) rfl rfl ?_
  simp -implicitDefEqProofs
  refine callK (get_fn l name hl hn) ?_
  simp -implicitDefEqProofs
  refine callK (contains_fn _ v hg) ?_
  simp -implicitDefEqProofs

theorem equalQ_fn (x y : Att) (hx : x.2.length < 1000000) (hy : y.2.length < 1000000) : Ctr Tryz.prog 52 [.d (att x), .d (att y)] (.d (.bool (decide (x = y)))) := by
  refine fn_of_vwp (fun _ => false) (by kernel_rfl) Tryz.func52 (by kernel_rfl) rfl rfl (Nat.le_of_ble_eq_true rfl) (by kernel_rfl) rfl rfl ?_
  obtain ⟨x1, x2⟩ := x
  obtain ⟨y1, y2⟩ := y
  by_cases h : x1 = y1
  · simp -implicitDefEqProofs [att, strs, h]
    refine callK (eqS_fn x2 y2 hx hy) ?_
    simp -implicitDefEqProofs [att, strs, h]
  · simp -implicitDefEqProofs [att, strs, h]

theorem eqFunc_fn (a b : List Att) (ha : Fits a) (hb : Fits b) : Ctr Tryz.prog 51 [.d (atts a), .d (atts b), .d (.clo 52 [])] (.d (.bool (decide (a = b)))) := by
  refine fn_of_vwp (fun _ => false) (by kernel_rfl) Tryz.func51 (by kernel_rfl) rfl rfl (Nat.le_of_ble_eq_true rfl) (by kernel_rfl) rfl rfl ?_
  have ha1 := ha.1
  have hb1 := hb.1
  by_cases hlm : a.length = b.length
  · simp -implicitDefEqProofs [atts, hlm]
    refine loopN b.length (fun k τ => τ 1 = .d (atts b) ∧ τ 2 = .d (.clo 52 []) ∧ τ 15 = .d (atts a) ∧ τ 16 = .d (.int .i64 b.length) ∧ τ 17 = .d (.int .i64 k) ∧ a.take k = b.take k) (by simp [atts]) ?_
    rintro k τ hk ⟨h1, h2, h15, h16, h17, ht⟩
    by_cases hlt : k < b.length
    · have hlt' : k < a.length := by omega
      simp -implicitDefEqProofs [h1, h2, h15, h16, h17, hlt, hlt', atts, att, strs]
      have hf := equalQ_fn a[k] b[k] (ha.2 _ (List.getElem_mem hlt')).2 (hb.2 _ (List.getElem_mem hlt)).2
      simp only [att, strs] at hf
      refine callK hf ?_
      by_cases he : a[k] = b[k]
      · simp -implicitDefEqProofs [h1, h2, h15, h16, h17, hlt, hlt', atts, att, strs, he]
        refine ⟨by omega, again hlt ⟨by simp [h1, atts, att, strs], by simp [h2], by simp [h15, atts, att, strs], by simp [h16], by simp, ?_⟩⟩
        rw [take_s hlt, take_s hlt', ht, he]
      · simp -implicitDefEqProofs [h1, h2, h15, h16, h17, hlt, hlt', atts, att, strs, he]
        rintro rfl
        exact he rfl
    · simp -implicitDefEqProofs [h1, h2, h15, h16, h17, hlt, hlm]
      rw [List.take_of_length_le (by omega), List.take_of_length_le (by omega)] at ht
      first | exact ⟨by omega, ht⟩ | exact ht
  · have hlm' : ¬ (a.length : Int) = b.length := by omega
    simp -implicitDefEqProofs [atts, hlm']
    rintro rfl
    exact hlm rfl
theorem equal_fn (a b : List Att) (ha : Fit2 a) (hb : Fit2 b) (ha' : Fits (sortedL a)) (hb' : Fits (sortedL b)) : Ctr Tryz.prog 17 [.d (atts a), .d (atts b)] (.d (.bool (decide (sortedL a = sortedL b)))) := by
  refine fn_of_vwp (fun _ => false) (by kernel_rfl) Tryz.func17 (by kernel_rfl) rfl rfl (Nat.le_of_ble_eq_true rfl) (by kernel_rfl) rfl rfl ?_
  simp -implicitDefEqProofs
  refine callK (sorted_fn a ha) ?_
  simp -implicitDefEqProofs
  refine callK (sorted_fn b hb) ?_
  simp -implicitDefEqProofs
  refine callK (eqFunc_fn _ _ ha' hb') ?_
  simp -implicitDefEqProofs

theorem equalR_fn (a b : List Att) (ha : Fit2 a) (hb : Fit2 b) (ha' : Fits (sortedL a)) (hb' : Fits (sortedL b)) : Ctr Tryz.prog 18 [.d (atts a), .d (atts b)] (.d (.bool (decide (sortedL a = sortedL b)))) := by
  refine fn_of_vwp (fun _ => false) (by kernel_rfl) Tryz.func18 (by kernel_rfl) rfl rfl (Nat.le_of_ble_eq_true rfl) (by kernel_rfl) rfl rfl ?_
  simp -implicitDefEqProofs
  refine callK (sortedR_fn a ha) ?_
  simp -implicitDefEqProofs
  refine callK (sortedR_fn b hb) ?_
  simp -implicitDefEqProofs
  refine callK (sameA_fn _ _ ha' hb') ?_
  simp -implicitDefEqProofs

theorem names_fn (l : List Att) (hl : Fit2 l) : Ctr Tryz.prog 25 [.d (atts l)] (.own true 9 (firsts (sortedL l))) := by
  refine fn_of_vwp (fun i => i == 3) (by kernel_rfl) Tryz.func25 (by kernel_rfl) rfl rfl (Nat.le_of_ble_eq_true rfl) (by kernel_rfl) rfl rfl ?_
  simp -implicitDefEqProofs
  refine callK (sorted_fn l hl) ?_
  have hs := sorted_len l
  have hl1 := hl.1.1
  generalize sortedL l = s at *
  simp -implicitDefEqProofs
  refine loopN s.length (fun k τ => τ 7 = .own false 42 (s.map att) ∧ τ 8 = .d (.int .i64 s.length) ∧ τ 9 = .d (.int .i64 k) ∧ τ 3 = .own true 9 (firsts (s.take k))) (by simp [firsts]) ?_
  rintro k τ hk ⟨h7, h8, h9, h3⟩
  by_cases hlt : k < s.length
  · have e := firsts_take hlt
    have hlen := firsts_len (s.take k)
    rw [List.length_take] at hlen
    generalize firsts (s.take k) = out at *
    simp -implicitDefEqProofs [h7, h8, h9, h3, hlt, att, strs]
    refine ⟨by omega, by omega, by omega, again hlt ⟨by simp [h7], by simp [h8], by simp, by simp [e]⟩⟩
  · rw [List.take_of_length_le (by omega)] at h3
    simp -implicitDefEqProofs [h7, h8, h9, h3, hlt]
end Go.Proofs.Tz

namespace Go.Proofs.Tz
open Go.Vw
set_option maxRecDepth 100000
set_option maxHeartbeats 4000000
set_option linter.unusedSimpArgs false

/-! ### Pick -/
theorem indexS_fn (g : FuncId) (cs : List D) (hcs : (cs.all fun c => !c.isAgg) = true) (p : Str → Bool) (l : List Str) (hl : l.length < 1000000) (hp : ∀ a ∈ l, Ctr Tryz.prog g ([.d (.str a)] ++ cs.map .d) (.d (.bool (p a)))) :
    Ctr Tryz.prog 80 [.d (strs l), .d (.clo g cs)] (.d (.int .i64 (idxG p 0 l))) := by
  refine fn_of_vwp (fun _ => false) (by kernel_rfl) Tryz.func80 (by kernel_rfl) rfl rfl (Nat.le_of_ble_eq_true rfl) (by kernel_rfl) rfl rfl ?_
  simp -implicitDefEqProofs [strs]
  refine loopN l.length (fun k τ => τ 0 = .d (strs l) ∧ τ 1 = .d (.clo g cs) ∧ τ 7 = .d (.int .i64 l.length) ∧ τ 8 = .d (.int .i64 k) ∧ idxG p 0 l = idxG p k (l.drop k)) (by simp [strs]) ?_
  rintro k τ hk ⟨h0, h1, h7, h8, hi⟩
  by_cases hlt : k < l.length
  · rw [idxG_drop hlt] at hi
    have hf := hp _ (List.getElem_mem hlt)
    simp only [List.cons_append, List.nil_append] at hf
    simp -implicitDefEqProofs [h0, h1, h7, h8, strs, hlt]
    refine ⟨by simpa using hcs, callK hf ?_⟩
    by_cases he : p l[k] = true
    · simp -implicitDefEqProofs [h0, h1, h7, h8, strs, hlt, he]
      rw [hi, if_pos he]
    · simp -implicitDefEqProofs [h0, h1, h7, h8, strs, hlt, he]
      refine ⟨by omega, again hlt ⟨by simp [h0, strs], by simp [h1], by simp [h7], by simp, ?_⟩⟩
      rw [hi, if_neg he]
  · simp -implicitDefEqProofs [h0, h1, h7, h8, strs, hlt]
    rw [hi, List.drop_eq_nil_of_le (by omega)]
    simp -implicitDefEqProofs [idxG]
theorem pickQ_fn (n : Str) (a : Att) (hn : List.length n < 1000000) : Ctr Tryz.prog 59 [.d (.str n), .d (.ref (att a))] (.d (.bool (decide (lower n = a.1)))) := by
  refine fn_of_vwp (fun _ => false) (by kernel_rfl) Tryz.func59 (by kernel_rfl) rfl rfl (Nat.le_of_ble_eq_true rfl) (by kernel_rfl) rfl rfl ?_
  simp -implicitDefEqProofs [att, strs]
  refine callP (foldLower_fn _ hn) ?_
  simp -implicitDefEqProofs [att, strs]
theorem containsF_fn (ns : List Str) (a : Att) (hl : ns.length < 1000000) (hn : ∀ n ∈ ns, List.length n < 1000000) : Ctr Tryz.prog 58 [.d (strs ns), .d (.clo 59 [.ref (att a)])] (.d (.bool (wantB ns a.1))) := by
  refine fn_of_vwp (fun _ => false) (by kernel_rfl) Tryz.func58 (by kernel_rfl) rfl rfl (Nat.le_of_ble_eq_true rfl) (by kernel_rfl) rfl rfl ?_
  simp -implicitDefEqProofs
  refine callK (indexS_fn 59 [.ref (att a)] rfl (fun n => decide (lower n = a.1)) ns hl (fun n h => pickQ_fn n a (hn n h))) ?_
  have : decide (0 ≤ idxG (fun n => decide (lower n = a.1)) 0 ns) = wantB ns a.1 := by
    rw [Bool.eq_iff_iff, wantB, List.any_eq_true, decide_eq_true_eq, idxG_ge]
  simp -implicitDefEqProofs [this]
theorem pickW_fn (ns : List Str) (a : Att) (hl : ns.length < 1000000) (hn : ∀ n ∈ ns, List.length n < 1000000) : Ctr Tryz.prog 57 [.d (att a), .d (.ref (strs ns))] (.d (.bool (wanted ns a))) := by
  refine fn_of_vwp (fun _ => false) (by kernel_rfl) Tryz.func57 (by kernel_rfl) rfl rfl (Nat.le_of_ble_eq_true rfl) (by kernel_rfl) rfl rfl ?_
  have hf := containsF_fn ns a hl hn
  by_cases hz : ns = []
  · subst hz
    simp -implicitDefEqProofs [att, strs, wanted]
  · have hz' : ¬ (ns.length : Int) = 0 := by simpa using hz
    simp only [att, strs] at hf
    simp -implicitDefEqProofs [att, strs, hz, hz']
    refine callK hf ?_
    simp -implicitDefEqProofs [att, strs, hz, hz', wanted]
theorem pick_fn (l : List Att) (ns : List Str) (hl : Fit2 l) (hn : ns.length < 1000000) (hn2 : ∀ n ∈ ns, List.length n < 1000000) : Ctr Tryz.prog 27 [.d (atts l), .d (strs ns)] (.own true 42 ((pickL l ns).map att)) := by
  refine fn_of_vwp (fun i => i == 6) (by kernel_rfl) Tryz.func27 (by kernel_rfl) rfl rfl (Nat.le_of_ble_eq_true rfl) (by kernel_rfl) rfl rfl ?_
  simp -implicitDefEqProofs
  refine callK (sorted_fn l hl) ?_
  have hs := sorted_len l
  have hl1 := hl.1.1
  rw [show (pickL l ns).map att = pickD ns (sortedL l) from rfl]
  generalize sortedL l = s at *
  simp -implicitDefEqProofs
  refine loopN s.length (fun k τ => τ 5 = .d (.clo 57 [.ref (strs ns)]) ∧ τ 11 = .own false 42 (s.map att) ∧ τ 12 = .d (.int .i64 s.length) ∧ τ 13 = .d (.int .i64 k) ∧ τ 6 = .own true 42 (pickD ns (s.take k))) (by simp [pickD]) ?_
  rintro k τ hk ⟨h5, h11, h12, h13, h6⟩
  by_cases hlt : k < s.length
  · have hlen := pickD_len ns (s.take k)
    have hft := pickD_take (n := ns) hlt
    rw [List.length_take] at hlen
    generalize pickD ns (s.take k) = out at *
    have hf := pickW_fn ns s[k] hn hn2
    simp only [att, strs] at hf
    simp -implicitDefEqProofs [h5, h11, h12, h13, h6, hlt, att, strs]
    refine callK hf ?_
    cases hw : wanted ns s[k] with
    | true =>
      simp -implicitDefEqProofs [h5, h11, h12, h13, h6, hlt, att, strs]
      refine ⟨by omega, by omega, by omega, again hlt ⟨by simp [h5, strs], by simp [h11], by simp [h12], by simp, ?_⟩⟩
      simp -implicitDefEqProofs [hft, att, strs, hw]
    | false =>
      simp -implicitDefEqProofs [h5, h11, h12, h13, h6, hlt, att, strs]
      refine ⟨by omega, again hlt ⟨by simp [h5, strs], by simp [h11], by simp [h12], by simp, ?_⟩⟩
      simp -implicitDefEqProofs [hft, h6, hw]
  · rw [List.take_of_length_le (by omega)] at h6
    simp -implicitDefEqProofs [h5, h11, h12, h13, h6, hlt, att, strs]

/-! ### set -/
theorem setQ_fn (a : Att) (n : Str) : Ctr Tryz.prog 82 [.d (att a), .d (.ref (.str n))] (.d (.bool (decide (a.1 = n)))) := by
  refine fn_of_vwp (fun _ => false) (by kernel_rfl) Tryz.func82 (by kernel_rfl) rfl rfl (Nat.le_of_ble_eq_true rfl) (by kernel_rfl) rfl rfl ?_
  simp -implicitDefEqProofs [att, strs]
theorem idxG_neg {α : Type} (p : α → Bool) : ∀ (l : List α) (k : Nat), idxG p k l = -1 → l.filter (fun x => !p x) = l
  | [], k, _ => rfl
  | x :: l, k, h => by
    rw [idxG] at h
    by_cases hx : p x = true
    · rw [if_pos hx] at h; omega
    · rw [if_neg hx] at h
      simp -implicitDefEqProofs [hx, idxG_neg p l (k + 1) h]
theorem idxG_pos {α : Type} (p : α → Bool) : ∀ (l : List α) (k : Nat), idxG p k l ≠ -1 → ∃ i : Nat, idxG p k l = ((k + i : Nat) : Int) ∧ i < l.length ∧ (l.take i).filter (fun x => !p x) = l.take i ∧ (l.take (i + 1)).filter (fun x => !p x) = l.take i
  | [], k, h => absurd rfl h
  | x :: l, k, h => by
    rw [idxG] at h ⊢
    by_cases hx : p x = true
    · rw [if_pos hx]
      exact ⟨0, by simp, by simp, by simp, by simp [hx]⟩
    · rw [if_neg hx] at h ⊢
      obtain ⟨i, h1, h2, h3, h4⟩ := idxG_pos p l (k + 1) h
      refine ⟨i + 1, by rw [h1]; omega, by simpa using h2, ?_, ?_⟩
      · simp -implicitDefEqProofs [hx, h3]
      · rw [List.take_succ_cons, List.filter_cons, if_pos (by simp [hx]), h4, List.take_succ_cons]

theorem deleteA_fn (g : FuncId) (cs : List D) (hcs : (cs.all fun c => !c.isAgg) = true) (p : Att → Bool) (l : List Att) (hl : l.length < 1000000) (hp : ∀ a ∈ l, Ctr Tryz.prog g ([.d (att a)] ++ cs.map .d) (.d (.bool (p a)))) :
    Ctr Tryz.prog 44 [.own true 42 (l.map att), .d (.clo g cs)] (.own true 42 ((l.filter fun x => !p x).map att)) := by
  refine fn_of_vwp (fun i => i == 2000010) (by kernel_rfl) Tryz.func44 (by kernel_rfl) rfl rfl (Nat.le_of_ble_eq_true rfl) (by kernel_rfl) rfl rfl ?_
  simp -implicitDefEqProofs
  refine lendK (indexA_fn g cs hcs p l hl hp) rfl ?_
  by_cases hn : idxG p 0 l = -1
  · simp -implicitDefEqProofs [hn, idxG_neg p l 0 hn]
  · obtain ⟨i, h1, h2, h3, h4⟩ := idxG_pos p l 0 hn
    simp only [Nat.zero_add] at h1
    have e1 : ¬ ((i : Int) = -1) := by omega
    simp -implicitDefEqProofs [h1, e1]
    refine ⟨by omega, ?_⟩
    refine loopK (fun n τ => ∃ (j q : Nat) (m : List Att), n = l.length - j ∧ j ≤ l.length ∧ τ 0 = .own true 42 (m.map att) ∧ τ 1 = .d (.clo g cs) ∧ τ 5 = .d (.int .i64 q) ∧ τ 6 = .d (.int .i64 j) ∧ m.length = l.length ∧ q < j ∧ m.take q = (l.take j).filter (fun x => !p x) ∧ m.drop j = l.drop j)
      (l.length - (i + 1)) ⟨i + 1, i, l, rfl, by omega, by simp, by simp, by simp, by simp, rfl, by omega, h4.symm, rfl⟩ ?_
    rintro n τ ⟨j, q, m, rfl, hj, g0, g1, g5, g6, hm, hq, ht, hd⟩
    by_cases hlt : j < l.length
    · have hmj : m[j]'(by omega) = l[j] := by
        have := congrArg (fun x : List Att => x[0]?) hd
        simpa [hlt, hm] using this
      have hf := hp _ (List.getElem_mem hlt)
      simp only [att, strs, List.cons_append, List.nil_append] at hf
      have hlt' : (j : Int) < l.length := by omega
      simp -implicitDefEqProofs [g0, g1, g5, g6, hm, hlt', hlt, att, strs, hmj]
      refine ⟨by simpa using hcs, callK hf ?_⟩
      by_cases he : p l[j] = true
      · simp -implicitDefEqProofs [g0, g1, g5, g6, hm, hlt', hlt, att, strs, hmj, he]
        refine ⟨by omega, _, ?_, j + 1, rfl, by omega, q, m, rfl, rfl, by omega, hm, by omega, ?_, ?_⟩
        · omega
        · rw [take_s hlt, List.filter_append, ht]; simp [he]
        · rw [← List.drop_drop, hd, List.drop_drop]
      · have hq2 : q < m.length := by omega
        have hqq : m[q]? = some m[q] := List.getElem?_eq_getElem hq2
        simp -implicitDefEqProofs [g0, g1, g5, g6, hm, hlt', hlt, att, strs, hmj, he, hqq]
        refine ⟨by omega, by omega, by omega, _, ?_, j + 1, rfl, by omega, q + 1, m.set q l[j], ?_, by simp, by simp, by simpa using hm, by omega, ?_, ?_⟩
        · omega
        · rw [List.map_set]; rfl
        · rw [List.take_set, take_s hq2, List.set_append_right _ _ (by simp; omega)]
          simp only [List.length_take, Nat.min_eq_left (Nat.le_of_lt hq2), Nat.sub_self, List.set_cons_zero]
          rw [take_s hlt, List.filter_append, ht]; simp [he]
        · rw [List.drop_set_of_lt (by omega), ← List.drop_drop, hd, List.drop_drop]
    · simp -implicitDefEqProofs [g0, g1, g5, g6, hm, hlt]
      have hjl : j = l.length := by omega
      subst hjl
      refine ⟨by omega, by omega, ?_⟩
      rw [List.take_append_of_le_length (by simp; omega), List.take_take, Nat.min_self, ← List.map_take, ht, List.take_length]
end Go.Proofs.Tz
